/- filter.Match and its closure. -/
import Derived.Test.YthgfmkdgemepnaaIdx
import Derived.Test.YthgfmkdgemepnaaCheck
import Derived.Deep.QuietTactic
import Derived.BigQuiet
import Derived.StillTailTactics
namespace Go.Proofs.Ythgfmkdgemepnaa
open Go.RowKit

/-- The cells of bytes. -/
def bcells (l : List UInt8) : List Value := l.map fun b => .int .u8 (b.toNat : Int)
theorem bcells_length (l : List UInt8) : (bcells l).length = l.length := by simp [bcells]
theorem bcells_one (l : List UInt8) : ∀ u ∈ bcells l, u.oneCell' = true := by
  intro u hu
  obtain ⟨b, _, rfl⟩ := List.mem_map.1 hu
  rfl
theorem bcells_at {l : List UInt8} {k : Nat} (h : k < l.length) : (bcells l)[k]? = some (.int .u8 ((l.getD k 0).toNat : Int)) := by
  simp [bcells, List.getD, h]
/-- Byte k of a slice of bytes. -/
theorem Sl.byte {w : World} {A : Option Addr} {l : List UInt8} {k : Nat} (h : Sl w 1 A l.length (bcells l)) (hk : k < l.length) :
    ∃ b o, A = some ⟨b, o, none⟩ ∧ b < w.heap.size ∧ w.cell? ⟨b, o + k, none⟩ = some (.int .u8 ((l.getD k 0).toNat : Int)) := by
  obtain ⟨b, o, e, hb, hc⟩ := h.at_ (by omega)
  exact ⟨b, o, e, hb, hc _ _ (bcells_at hk)⟩

/-- Does a packet fail a test? -/
def failsT (l : List UInt8) (t : Ts) : Bool := decide (l.length ≤ t.at_.toNat) || (bits .and .i64 ((l.getD t.at_.toNat 0).toNat : Int) t.mask != t.value)
theorem ret_bool {a b : Bool} (h : a = b) : Ending.returned (.bool a) = .returned (.bool b) := by rw [h]
theorem failsT_lt {l : List UInt8} {k : Nat} {m v : Int} (h : k < l.length) : failsT l ⟨k, m, v⟩ = (bits .and .i64 (l[k].toNat : Int) m != v) := by
  have : ¬ l.length ≤ k := by omega
  simp [failsT, this, List.getD, h]
theorem failsT_ge {l : List UInt8} {k : Nat} {m v : Int} (h : ¬ k < l.length) : failsT l ⟨k, m, v⟩ = true := by
  have : l.length ≤ k := by omega
  simp [failsT, this]

set_option maxRecDepth 100000 in
set_option maxHeartbeats 400000 in
theorem match31 (t : Ts) (X : Nat) (A : Option Addr) (c : Nat) (l : List UInt8) (w : World) (ht : may1 t = true) (hx : Bk w X 39 #[.slice A l.length c])
    (hr : Sl w 1 A l.length (bcells l)) (hl : l.length ≤ 64) :
    Calls Try.prog 31 #[tval t, .pointer (some ⟨X, 0, none⟩)] w fun e w' => e = .returned (.bool (failsT l t)) ∧ Below w.heap.size w w' := by
  simp only [may1, decide_eq_true_eq] at ht
  obtain ⟨m0, m1, m2, m3, m4, m5⟩ := ht
  obtain ⟨k, hk⟩ := Int.eq_ofNat_of_zero_le m0
  obtain ⟨a, m, v⟩ := t
  simp only [tval] at *
  subst hk
  have hXl : X < w.heap.size := (Array.getElem?_eq_some_iff.1 hx).1
  have hxc : w.cell? ⟨X, 0, none⟩ = some (.slice A l.length c) := by rw [cell_of_row w X 0 _ 39 (0, 0) hx]; rfl
  have hxc' : (w.alloc (.cells #[.int .i64 (k : Int), .int .i64 m, .int .i64 v] 45)).cell? ⟨X, 0, none⟩ = some (.slice A l.length c) := by rw [World.cell?_alloc_lt _ _ _ hXl]; exact hxc
  by_cases hlt : k < l.length
  · obtain ⟨b, o, rfl, hbl, hcb⟩ := hr.byte hlt
    have hcb' : (w.alloc (.cells #[.int .i64 (k : Int), .int .i64 m, .int .i64 v] 45)).cell? ⟨b, o + k, none⟩ = some (.int .u8 ((l.getD k 0).toNat : Int)) := by rw [World.cell?_alloc_lt _ _ _ hbl]; exact hcb
    have hlen : l.length ≤ maxLen := by unfold maxLen; omega
    have hge : decide ((l.length : Int) ≤ (k : Int)) = false := by simp; omega
    have hkz : (0 : Int) ≤ k := by omega
    have hbv : ((l.getD k 0).toNat : Int) < 256 := by have := (l.getD k 0).toNat_lt; omega
    have hklt : (k : Int) < (l.length : Int) := by omega
    have HF : Hid (failsT l ⟨k, m, v⟩ = (bits .and .i64 (l[k].toNat : Int) m != v)) := failsT_lt hlt
    go_enter Try.func31, Try.ntmps31
    go_wp2
    go_quiet (fail)
    go_wp2
    go_ret
    refine ⟨ret_bool ?_, Below.drN ((Below.refl _ w).alloc (Nat.le_refl _) _) nq⟩
    rw [HF.out]
    have h1 : decide (l.length ≤ k) = false := by simpa using hlt
    have h2 : IntKind.i64.wrap (l[k].toNat : Int) = (l[k].toNat : Int) := IntWalk.i64_in _ (by have := l[k].toNat_lt; omega)
    simp only [h1, h2, Bool.false_or]
  · have hge : decide ((l.length : Int) ≤ (k : Int)) = true := by simp; omega
    have HF : Hid (failsT l ⟨k, m, v⟩ = true) := failsT_ge hlt
    go_enter Try.func31, Try.ntmps31
    go_wp2
    go_quiet (fail)
    go_wp2
    go_ret
    refine ⟨ret_bool ?_, Below.drN ((Below.refl _ w).alloc (Nat.le_refl _) _) nq⟩
    rw [HF.out]

/-- Does a packet pass a filter? -/
def matchF (f : List Ts) (l : List UInt8) : Bool := mayF f && decide (l.length ≤ 64) && !f.any (failsT l)

set_option maxRecDepth 100000 in
set_option maxHeartbeats 400000 in
theorem match12 (A : Option Addr) (c : Nat) (f : List Ts) (B : Option Addr) (d : Nat) (l : List UInt8) (w : World) (hn : f.length ≤ 4096)
    (hf : Sl w 3 A f.length (tsCells f)) (hr : Sl w 1 B l.length (bcells l)) :
    Calls Try.prog 12 #[.slice A f.length c, .slice B l.length d] w fun e w' => e = .returned (.bool (matchF f l)) ∧ Below w.heap.size w w' := by
  have hBk : Bk (w.alloc (.cells #[.slice B l.length d] 39)) w.heap.size 39 #[.slice B l.length d] := heap_alloc_new w _
  have hck := check19 A c f (w.alloc (.cells #[.slice B l.length d] 39)) (hf.alloc _) hn
  have HCK := hid hck
  clear hck
  cases hm : mayF f with
  | false =>
    rw [chkE_no hm] at HCK
    have HM : Hid (matchF f l = false) := by show _ = _; simp [matchF, hm]
    clear hm
    go_enter Try.func12, Try.ntmps12
    go_wp2_with fail
    refine HCK.out.mono ?_
    rintro e w1 ⟨rfl, hb1⟩
    go_wp2_with fail
    go_ret
    exact ⟨ret_bool HM.out.symm, ((Below.refl _ w).alloc (Nat.le_refl _) _).trans (hb1.mono (by simp))⟩
  | true =>
    rw [chkE_ok hm] at HCK
    by_cases hl : l.length ≤ 64
    · have HM : Hid (matchF f l = !f.any (failsT l)) := by show _ = _; simp [matchF, hm, hl]
      have hall : f.all may1 = true := by simp [mayF] at hm; simpa using hm.2
      have HALL := hid hall
      clear hm hall
      go_enter Try.func12, Try.ntmps12
      go_wp2_with fail
      refine HCK.out.mono ?_
      rintro e w1 ⟨rfl, hb1⟩
      have hB1 : Below w.heap.size w w1 := ((Below.refl _ w).alloc (Nat.le_refl _) _).trans (hb1.mono (by simp))
      have hBk1 : Bk w1 w.heap.size 39 #[.slice B l.length d] := (hb1.block _ (by simp)).trans hBk
      have hcell : w1.cell? ⟨w.heap.size, 0, none⟩ = some (.slice B l.length d) := by rw [cell_of_row w1 _ 0 _ 39 (0, 0) hBk1]; rfl
      have hco := containsFunc30 31 #[.pointer (some ⟨w.heap.size, 0, none⟩)] (failsT l) A c f w1 (enters Try.func31 rfl (by kernel_rfl))
        (fun W t hbW ht => by
          have ht1 : may1 t = true := List.all_eq_true.1 HALL.out t ht
          exact match31 t w.heap.size B d l W ht1 ((hbW.block _ (by have := (Array.getElem?_eq_some_iff.1 hBk1).1; omega)).trans hBk1) (hr.below (hB1.trans (hbW.mono hB1.size)) (Nat.le_refl _)) hl)
        (hf.below hB1 (Nat.le_refl _)) hn
      have HCO := hid hco
      clear hco
      generalize f.any (failsT l) = r at HCO HM
      clear HALL HCK
      go_wp2_with fail
      refine HCO.out.mono ?_
      rintro e w2 ⟨rfl, hb2⟩
      go_wp2_with fail
      go_ret
      exact ⟨ret_bool HM.out.symm, hB1.trans (hb2.mono hB1.size)⟩
    · have HM : Hid (matchF f l = false) := by show _ = _; simp [matchF, hl]
      clear hm
      go_enter Try.func12, Try.ntmps12
      go_wp2_with fail
      refine HCK.out.mono ?_
      rintro e w1 ⟨rfl, hb1⟩
      have hBk1 : Bk w1 w.heap.size 39 #[.slice B l.length d] := (hb1.block _ (by simp)).trans hBk
      have hcell : w1.cell? ⟨w.heap.size, 0, none⟩ = some (.slice B l.length d) := by rw [cell_of_row w1 _ 0 _ 39 (0, 0) hBk1]; rfl
      go_wp2_with fail
      go_ret
      exact ⟨ret_bool HM.out.symm, ((Below.refl _ w).alloc (Nat.le_refl _) _).trans (hb1.mono (by simp))⟩
end Go.Proofs.Ythgfmkdgemepnaa
