/- filter.Check. -/
import Derived.Test.YthgfmkdgemepnaaProg
import Derived.Test.YthgfmkdgemepnaaMem
import Derived.Test.YthgfmkdgemepnaaSpec
import Derived.WalkSpells
namespace Go.Proofs.Ythgfmkdgemepnaa
open Go.RowKit

set_option maxRecDepth 100000 in
set_option maxHeartbeats 400000 in
theorem check19 (A : Option Addr) (c : Nat) (f : List Ts) (w : World) (hr : Sl w 3 A f.length (tsCells f)) (hn : f.length ≤ 4096) :
    Calls Try.prog 19 #[.slice A f.length c] w fun e w' => e = .returned (.int .i64 (chkE f)) ∧ Below w.heap.size w w' := by
  by_cases hlen : f.length ≤ 8
  case neg =>
    rw [chkE_no (by simp [mayF, hlen])]
    go_enter Try.func19, Try.ntmps19
    go_wp2
    all_goals go_ret
    exact ⟨rfl, Below.refl _ _⟩
  case pos =>
    go_enter Try.func19, Try.ntmps19
    go_wp2
    go_loopw [10] (fun i wr => ∃ k : Nat, k ≤ f.length ∧ i = .int .i64 k ∧ (f.take k).all may1 = true ∧ Below w.heap.size w wr) (fun i _ => f.length - (intOf i).toNat)
    case atStart => exact ⟨0, Nat.zero_le _, rfl, rfl, Below.refl _ _⟩
    case round =>
      obtain ⟨k, hk, rfl, hall, hb⟩ := hrel
      by_cases hlt : k < f.length
      · obtain ⟨t, ht⟩ : ∃ t, f[k]? = some t := ⟨_, List.getElem?_eq_getElem hlt⟩
        obtain ⟨b, o, rfl, hbl, c0, c1, c2⟩ := (hr.below hb (Nat.le_refl _)).test ht
        by_cases hm : may1 t = true
        · have HM : Hid (may1 t = true) := hm
          have hm' := hm
          simp only [may1, decide_eq_true_eq] at hm'
          clear hm
          obtain ⟨m0, m1, m2, m3, m4, m5⟩ := hm'
          have n0 : ¬ t.at_ < 0 := by omega
          have n1 : ¬ 64 ≤ t.at_ := by omega
          have n2 : t.mask / 256 = 0 := by omega
          have n3 : t.value / 256 = 0 := by omega
          go_wp2
          exact ⟨⟨k + 1, by omega, by go_num, all_take_succ ht HM.out hall, ((Below.refl _ w).trans hb).alloc hb.size _⟩, by simp [intOf]; omega⟩
        · have HM : Hid (mayF f = false) := mayF_no ht (by simpa using hm)
          have hm' : t.at_ < 0 ∨ 64 ≤ t.at_ ∨ ¬ t.mask / 256 = 0 ∨ ¬ t.value / 256 = 0 := by
            simp only [may1, decide_eq_true_eq] at hm
            omega
          clear hm
          go_wp2
          all_goals first | (go_ret; exact ⟨ret_int (chkE_no HM.out).symm, hb.alloc hb.size _⟩) | (exfalso; rename_i hx; have hx2 := hx.2; simp at hx2; omega)
      · have hke : k = f.length := by omega
        have HM : Hid (mayF f = true) := by
          rw [hke, List.take_length] at hall
          show mayF f = true
          simp [mayF, hlen, hall]
        clear hall
        subst hke
        go_wp2
        go_ret
        exact ⟨ret_int (chkE_ok HM.out).symm, hb⟩
end Go.Proofs.Ythgfmkdgemepnaa
