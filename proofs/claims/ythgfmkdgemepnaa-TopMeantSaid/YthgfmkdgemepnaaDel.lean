/- slices.DeleteFunc at tests without a mask. -/
import Derived.Test.YthgfmkdgemepnaaGrow
namespace Go.Proofs.Ythgfmkdgemepnaa
open Go.RowKit

def noMask (t : Ts) : Bool := t.mask == 0
set_option maxRecDepth 100000 in
set_option maxHeartbeats 400000 in
theorem plain36 (t : Ts) (w : World) :
    Calls Try.prog 36 #[tval t] w fun e w' => e = .returned (.bool (noMask t)) ∧ Below w.heap.size w w' := by
  obtain ⟨a, m, v⟩ := t
  simp only [tval, noMask]
  go_enter Try.func36, Try.ntmps36
  go_wp2
  go_ret
  exact ⟨rfl, (Below.refl _ w).alloc (Nat.le_refl _) _⟩

theorem own_form {w : World} {base : Nat} {e : TypeId} {size n : Nat} {v : Value} {xs : List Value} (h : w.ownsRow base e size v n xs) : ∃ A c, v = .slice A n c := by
  rcases h.2 with ⟨rfl, h0⟩ | ⟨g, cap, _, rfl, _⟩
  · exact ⟨none, 0, by rw [h0]⟩
  · exact ⟨_, _, rfl⟩
theorem own_base {w : World} {base base' : Nat} {e : TypeId} {size n : Nat} {v : Value} {xs : List Value} (h : w.ownsRow base e size v n xs) (hb : base' ≤ base) : w.ownsRow base' e size v n xs := by
  refine ⟨h.1, ?_⟩
  rcases h.2 with h2 | ⟨g, cap, cur, hv, hg, r⟩
  · exact .inl h2
  · exact .inr ⟨g, cap, cur, hv, by omega, r⟩

theorem own_below {w w' : World} {base B : Nat} {e : TypeId} {size n : Nat} {v : Value} {xs : List Value} (h : w.ownsRow base e size v n xs) (hb : Below B w w') (hB : w.heap.size ≤ B) : w'.ownsRow base e size v n xs := by
  obtain ⟨h1, h2⟩ := h
  refine ⟨h1, ?_⟩
  rcases h2 with h2 | ⟨g, cap, cur, hv, hg, hh, r⟩
  · exact .inl h2
  · exact .inr ⟨g, cap, cur, hv, hg, (hb.block g (by have := (Array.getElem?_eq_some_iff.1 hh).1; omega)).trans hh, r⟩
theorem own_shrink {w : World} {base g cap : Nat} {e : TypeId} {size n k : Nat} {xs : List Value} (h : w.ownsRow base e size (.slice (some ⟨g, 0, none⟩) n cap) n xs) (hk : k ≤ n) :
    w.ownsRow base e size (.slice (some ⟨g, 0, none⟩) k cap) k (xs.take (k * size)) := by
  obtain ⟨h1, h2⟩ := h
  have hks : k * size ≤ n * size := Nat.mul_le_mul_right _ hk
  refine ⟨by rw [List.length_take, h1]; omega, ?_⟩
  rcases h2 with ⟨h2, _⟩ | ⟨g', cap', cur, hv, hg, hh, hn, hc, hs, ht⟩
  · cases h2
  · injection hv with e1 e2 e3
    injection e1 with e1
    injection e1 with e1 _ _
    subst e1; subst e3
    exact .inr ⟨g, cap, cur, rfl, hg, hh, by omega, hc, hs, by rw [← ht, List.take_take, Nat.min_eq_left hks]⟩

set_option maxRecDepth 100000 in
set_option maxHeartbeats 400000 in
theorem delete35_none (base : Nat) (A : Option Addr) (c : Nat) (f : List Ts) (w : World) (hown : w.ownsRow base 45 3 (.slice A f.length c) f.length (tsCells f)) (hn : f.length ≤ 4096)
    (hall : f.all (fun t => !noMask t) = true) :
    Calls Try.prog 35 #[.slice A f.length c, .func (.func 36) #[] #[]] w fun e w' => e = .returned (.slice A f.length c) ∧ Below w.heap.size w w' := by
  have hi := indexFunc44 36 #[] noMask A c f w (enters Try.func36 rfl (by kernel_rfl)) (fun W t _ _ => by simpa using plain36 t W) (Sl.of_own hown) hn
  rw [idxP_none hall] at hi
  have HI := hid hi
  clear hi hall
  go_enter Try.func35, Try.ntmps35
  go_wp2_with fail
  refine HI.out.mono ?_
  rintro e w1 ⟨rfl, hb1⟩
  go_wp2_with fail
  go_ret
  exact ⟨rfl, hb1⟩

theorem run_clear_one (g o k : Nat) (w : World) (u0 u1 u2 : Value) (h0 : w.cell? ⟨g, o, none⟩ = some u0) (h1 : w.cell? ⟨g, o + 1, none⟩ = some u1) (h2 : w.cell? ⟨g, o + 2, none⟩ = some u2)
    (z0 : w.frozen? ⟨g, o, none⟩ = false) (z1 : w.frozen? ⟨g, o + 1, none⟩ = false) (z2 : w.frozen? ⟨g, o + 2, none⟩ = false) :
    (Builtin.clear_ #[22] 0 #[.slice (some ⟨g, o, none⟩) 1 k]).run Try.prog w =
      .ok (.tuple #[]) (((w.setCell ⟨g, o, none⟩ (.int .i64 0)).setCell ⟨g, o + 1, none⟩ (.int .i64 0)).setCell ⟨g, o + 2, none⟩ (.int .i64 0)) := by
  obtain ⟨i0, hi0, hz0, hz1, hz2⟩ := info_parts info45
  have hz : (Builtin.zeroCells #[.int .i64 0, .int .i64 0, .int .i64 0] 1).toList = [.int .i64 0, .int .i64 0, .int .i64 0] := by kernel_rfl
  simp [Builtin.clear_, run_underlying Try.underlying22, zeroValue, typeInfo, hi0, hz0, hz, storeCells, go_sem, h0, h1, h2, z0, z1, z2]

set_option maxRecDepth 100000 in
set_option maxHeartbeats 400000 in
theorem delete35_last (base : Nat) (g c : Nat) (f : List Ts) (t : Ts) (w : World) (hown : w.ownsRow base 45 3 (.slice (some ⟨g, 0, none⟩) (f.length + 1) c) (f.length + 1) (tsCells (f ++ [t]))) (hn : f.length < 4096)
    (hall : f.all (fun t => !noMask t) = true) (ht : noMask t = true) :
    Calls Try.prog 35 #[.slice (some ⟨g, 0, none⟩) (f.length + 1 : Nat) c, .func (.func 36) #[] #[]] w fun e w' => e = .returned (.slice (some ⟨g, 0, none⟩) f.length c) ∧
      w'.ownsRow base 45 3 (.slice (some ⟨g, 0, none⟩) f.length c) f.length (tsCells f) ∧ w.grownBy w' (some g) := by
  have hlen : (f ++ [t]).length = f.length + 1 := by simp
  have hi := indexFunc44 36 #[] noMask (some ⟨g, 0, none⟩) c (f ++ [t]) w (enters Try.func36 rfl (by kernel_rfl)) (fun W t _ _ => by simpa using plain36 t W) (by rw [hlen]; exact Sl.of_own hown) (by rw [hlen]; omega)
  rw [idxP_at (k := f.length) (t := t) (by simp) ht (by simpa using hall), hlen] at hi
  have HI := hid hi
  have hcap : f.length + 1 ≤ c := by
    rcases hown.2 with ⟨h, _⟩ | ⟨_, _, _, hv, _, _, h, _⟩
    · cases h
    · injection hv with _ _ e; omega
  clear hi hall ht
  go_enter Try.func35, Try.ntmps35
  go_wp2_with fail
  refine HI.out.mono ?_
  rintro e w1 ⟨rfl, hb1⟩
  have hown1 := own_below hown hb1 (Nat.le_refl _)
  have hc0 := hown1.cellAt (f.length * 3) (by omega)
  have hc1 := hown1.cellAt (f.length * 3 + 1) (by omega)
  have hc2 := hown1.cellAt (f.length * 3 + 2) (by omega)
  obtain ⟨k0, k1, k2⟩ := tsCells_at (f ++ [t]) f.length t (by simp)
  rw [k0] at hc0
  rw [k1] at hc1
  rw [k2] at hc2
  have hz0 := hown1.frozenAt (f.length * 3)
  have hz1 := hown1.frozenAt (f.length * 3 + 1)
  have hz2 := hown1.frozenAt (f.length * 3 + 2)
  go_wp2_with fail
  refine wp_loop_rounds 1 ?_
  rw [rounds_succ]
  have hcl := run_clear_one g (f.length * 3) (c - f.length) w1 _ _ _ hc0 hc1 hc2 hz0 hz1 hz2
  go_wp2_with fail
  go_ret
  refine ⟨rfl, ?_, ?_⟩
  · have s0 := hown1.stored (f.length * 3) (.int .i64 0)
    have s1 := s0.1.stored (f.length * 3 + 1) (.int .i64 0)
    have s2 := s1.1.stored (f.length * 3 + 2) (.int .i64 0)
    have h := own_shrink s2.1 (Nat.le_succ f.length)
    have e : ((((tsCells (f ++ [t])).set (f.length * 3) (.int .i64 0)).set (f.length * 3 + 1) (.int .i64 0)).set (f.length * 3 + 2) (.int .i64 0)).take (f.length * 3) = tsCells f := by
      rw [List.take_set_of_le (by omega), List.take_set_of_le (by omega), List.take_set_of_le (by omega), tsCells_append, List.take_left' (tsCells_length f)]
    rw [e] at h
    exact h
  · have hw : w.grownBy w1 (some g) := ⟨hb1.os, hb1.tape, hb1.output, hb1.size, fun k hk _ => hb1.block k hk⟩
    have s0 := hown1.stored (f.length * 3) (.int .i64 0)
    have s1 := s0.1.stored (f.length * 3 + 1) (.int .i64 0)
    have s2 := s1.1.stored (f.length * 3 + 2) (.int .i64 0)
    exact ((hw.trans s0.2).trans s1.2).trans s2.2
end Go.Proofs.Ythgfmkdgemepnaa
