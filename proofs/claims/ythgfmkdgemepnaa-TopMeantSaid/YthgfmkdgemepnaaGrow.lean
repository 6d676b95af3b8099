/- slices.Grow at a nil slice, slices.Concat of two filters. -/
import Derived.Test.YthgfmkdgemepnaaMatch
import Derived.Test.YthgfmkdgemepnaaT1
namespace Go.Proofs.Ythgfmkdgemepnaa
open Go.RowKit

set_option maxRecDepth 100000 in
set_option maxHeartbeats 400000 in
theorem grow37 (n : Nat) (w : World) (hn : n ≤ 4096) :
    Calls Try.prog 37 #[.slice none 0 0, .int .i64 n] w fun e w' => ∃ v, e = .returned v ∧ w'.ownsRow w.heap.size 45 3 v 0 [] ∧ Below w.heap.size w w' := by
  have hby : Try.t45.bytes = 24 := by kernel_rfl
  have hnx : Builtin.nextslicecap n 0 * 24 ≤ 281474976710656 := by unfold Builtin.nextslicecap; split <;> (try split) <;> (try omega)
  rcases Nat.eq_zero_or_pos n with rfl | hpos
  · go_enter Try.func37, Try.ntmps37
    go_wp2_with fail
    go_ret
    exact ⟨_, rfl, World.ownsRow_nil _ _ _ _, Below.refl _ _⟩
  · have hz : ¬ n = 0 := by omega
    have hz3 : ¬ n * 3 = 0 := by omega
    have hnx' : ¬ 281474976710656 < Builtin.nextslicecap n 0 * 24 := by omega
    have hb2 : (n : Int) * 24 ≤ 281474976710656 := by omega
    go_enter Try.func37, Try.ntmps37
    go_wp2_with fail
    go_ret
    refine ⟨_, rfl, ⟨by simp, .inr ⟨w.heap.size, _, _, rfl, Nat.le_refl _, heap_alloc_new w _, Nat.zero_le _, grownCap_le_maxLen w n 0 45 (by unfold maxLen; omega), ?_, by simp⟩⟩, ((Below.refl _ w).alloc (Nat.le_refl _) _).drew⟩
    have hge := grownCap_ge w n 0 45
    simp only [grownCap] at hge
    simp only [Array.size_append, size_zeroCells, List.size_toArray, List.length_cons, List.length_nil]
    omega

set_option maxRecDepth 100000 in
set_option maxHeartbeats 1000000 in
theorem concat22 (X : Nat) (A B : Option Addr) (c d : Nat) (f g : List Ts) (w : World) (hX : Bk w X 22 #[.slice A f.length c, .slice B g.length d])
    (hf : Sl w 3 A f.length (tsCells f)) (hg : Sl w 3 B g.length (tsCells g)) (hn : f.length ≤ 64) (hm : g.length ≤ 64) :
    Calls Try.prog 22 #[.slice (some ⟨X, 0, none⟩) 2 2] w fun e w' => ∃ v, e = .returned v ∧ w'.ownsRow w.heap.size 45 3 v (f ++ g).length (tsCells (f ++ g)) ∧ Below w.heap.size w w' := by
  obtain ⟨i0, hi0, hz0, hz1, hz2⟩ := info_parts info45
  have x0 : w.cell? ⟨X, 0, none⟩ = some (.slice A f.length c) := by rw [cell_of_row w X 0 _ 22 (0, 0) hX]; rfl
  have x1 : w.cell? ⟨X, 1, none⟩ = some (.slice B g.length d) := by rw [cell_of_row w X 1 _ 22 (0, 0) hX]; rfl
  have hgr0 := grow37 (f.length + g.length) w (by omega)
  rw [Int.natCast_add] at hgr0
  have hgr := hid hgr0
  clear hgr0
  go_enter Try.func22, Try.ntmps22
  go_wp2_with fail
  refine wp_loop_rounds 3 ?_
  rw [rounds_succ]
  go_wp2_with fail
  rw [rounds_succ]
  go_wp2_with fail
  rw [rounds_succ]
  go_wp2_with fail
  refine hgr.out.mono ?_
  rintro e w1 ⟨v1, rfl, hown1, hb1⟩
  have hX1 : Bk w1 X 22 #[.slice A f.length c, .slice B g.length d] := hX.below hb1 hX.lt
  have y0 := (cell_of_row w1 X 0 _ 22 (0, 0) hX1)
  have y1 := (cell_of_row w1 X 1 _ 22 (0, 0) hX1)
  have hf1 := hf.below hb1 (Nat.le_refl _)
  have hg1 := hg.below hb1 (Nat.le_refl _)
  have hs1 := hb1.size
  clear x0 x1
  simp at y0 y1
  go_wp2_with fail
  refine wp_loop_rounds 3 ?_
  rw [rounds_succ]
  go_wp2_with (at_builtin; refine wpList_append_sl _ rfl (.tmp 31) (.tmp 32) _ rfl w.heap.size 45 i0 _ 3 24 Try.underlying22 hi0 hz0 hz1 hz2 rfl (by omega) v1 0 [] rfl hown1 A f.length c (tsCells f) rfl hf1 (tsCells_one f) (by unfold maxLen; omega) (by omega) hs1 ?_; intro v2 w2 hown2 hgr2 hat2)
  have hb2 : Below w.heap.size w w2 := hb1.grown hgr2 hs1 (fun k hk => (hown1.lt k hk).1)
  have hs2 := hb2.size
  have hX2 : Bk w2 X 22 #[.slice A f.length c, .slice B g.length d] := hX.below hb2 hX.lt
  have z0 := (cell_of_row w2 X 0 _ 22 (0, 0) hX2)
  have z1 := (cell_of_row w2 X 1 _ 22 (0, 0) hX2)
  have hg2 := hg.below hb2 (Nat.le_refl _)
  clear y0 y1
  simp at z0 z1
  rw [rounds_succ]
  go_wp2_with (at_builtin; refine wpList_append_sl _ rfl (.tmp 31) (.tmp 32) _ rfl w.heap.size 45 i0 _ 3 24 Try.underlying22 hi0 hz0 hz1 hz2 rfl (by omega) v2 (0 + f.length) ([] ++ tsCells f) rfl hown2 B g.length d (tsCells g) rfl hg2 (tsCells_one g) (by unfold maxLen; omega) (by omega) hs2 ?_; intro v3 w3 hown3 hgr3 hat3)
  have hb3 : Below w.heap.size w w3 := hb2.grown hgr3 hs2 (fun k hk => (hown2.lt k hk).1)
  rw [rounds_succ]
  go_wp2_with fail
  go_ret
  refine ⟨v3, rfl, ?_, hb3⟩
  rw [tsCells_append, List.length_append]
  simpa using hown3
end Go.Proofs.Ythgfmkdgemepnaa
