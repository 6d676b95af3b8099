/- steadingref11.May. -/
import Derived.Test.YthgfmkdgemepnaaCheck
namespace Go.Proofs.Ythgfmkdgemepnaa
open Go.RowKit

theorem ret_bool {a b : Bool} (h : a = b) : Ending.returned (.bool a) = Ending.returned (.bool b) := by rw [h]

set_option maxRecDepth 100000 in
set_option maxHeartbeats 2000000 in
theorem may4 (A : Option Addr) (c : Nat) (f : List Ts) (w : World) (hr : Sl w 3 A f.length (tsCells f)) (hn : f.length ≤ 4096) :
    Calls Try.prog 4 #[.slice A f.length c] w fun e w' => e = .returned (.bool (mayF f)) ∧ w' = w := by
  by_cases hlen : f.length ≤ 8
  case neg =>
    have hno : mayF f = false := by simp [mayF, hlen]
    rw [hno]
    clear hno
    go_enter Try.func4, Try.ntmps4
    go_wp2
    all_goals go_ret
    exact ⟨rfl, rfl⟩
  case pos =>
    go_enter Try.func4, Try.ntmps4
    go_wp2
    go_loopw [3] (fun i wr => ∃ k : Nat, k ≤ f.length ∧ i = .int .i64 k ∧ (f.take k).all may1 = true ∧ wr = w) (fun i _ => f.length - (intOf i).toNat)
    case atStart => exact ⟨0, Nat.zero_le _, rfl, rfl, rfl⟩
    case round =>
      obtain ⟨k, hk, rfl, hall, rfl⟩ := hrel
      by_cases hlt : k < f.length
      · obtain ⟨t, ht⟩ : ∃ t, f[k]? = some t := ⟨_, List.getElem?_eq_getElem hlt⟩
        obtain ⟨b, o, rfl, hbl, c0, c1, c2⟩ := hr.test ht
        by_cases hm : may1 t = true
        · have HM : Hid (may1 t = true) := hm
          have hm' := hm
          simp only [may1, decide_eq_true_eq] at hm'
          clear hm
          obtain ⟨m0, m1, m2, m3, m4, m5⟩ := hm'
          have n0 : ¬ t.at_ < 0 := by omega
          have n1 : ¬ 64 ≤ t.at_ := by omega
          have n2 : ¬ t.mask < 0 := by omega
          have n3 : ¬ 255 < t.mask := by omega
          have n4 : ¬ t.value < 0 := by omega
          have n5 : ¬ 255 < t.value := by omega
          clear m0 m1 m2 m3 m4 m5
          go_wp2
          exact ⟨⟨k + 1, by omega, by go_num, all_take_succ ht HM.out hall, trivial⟩, by simp [intOf]; omega⟩
        · have HM : Hid (mayF f = false) := mayF_no ht (by simpa using hm)
          have hm' : t.at_ < 0 ∨ 64 ≤ t.at_ ∨ t.mask < 0 ∨ 255 < t.mask ∨ t.value < 0 ∨ 255 < t.value := by
            simp only [may1, decide_eq_true_eq] at hm
            omega
          clear hm hall
          go_wp2
          all_goals first | (go_ret; exact ⟨ret_bool HM.out.symm, rfl⟩) | (exfalso; rename_i hx; have hx2 := hx.2; simp at hx2; omega) | (exfalso; omega)
      · have hke : k = f.length := by omega
        have HM : Hid (mayF f = true) := by
          rw [hke, List.take_length] at hall
          show mayF f = true
          simp [mayF, hlen, hall]
        clear hall
        subst hke
        go_wp2
        go_ret
        exact ⟨ret_bool HM.out.symm, rfl⟩
end Go.Proofs.Ythgfmkdgemepnaa
