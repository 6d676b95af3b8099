/- steadingtop.TopMeant outside its guard. -/
import Derived.Test.YthgfmkdgemepnaaMeant0
namespace Go.Proofs.Ythgfmkdgemepnaa
open Go.RowKit

theorem mayF_len {f : List Ts} (h : mayF f = true) : f.length ≤ 8 := by simp [mayF] at h; exact h.1

set_option maxRecDepth 100000 in
set_option maxHeartbeats 2000000 in
theorem top3_out (A : Option Addr) (c : Nat) (f : List Ts) (B : Option Addr) (d : Nat) (g : List Ts) (C : Option Addr) (N ec : Nat) (acc : Int) (w : World)
    (hf : Sl w 3 A f.length (tsCells f)) (hg : Sl w 3 B g.length (tsCells g))
    (hout : 20 < f.length ∨ 20 < g.length ∨ mayF f = false ∨ mayF g = false ∨ 30 < N) :
    Calls Try.prog 3 #[.slice A f.length c, .slice B g.length d, .slice C N ec, .int .i64 acc] w fun e w' => e = .returned (.bool true) ∧ Below w.heap.size w w' := by
  have hcm := hid (coming5 w)
  by_cases h1 : 20 < f.length
  · have h1' : (20 : Int) < (f.length : Int) := by omega
    clear hout h1
    go_enter Try.func3, Try.ntmps3
    go_wp2_with fail
    refine hcm.out.mono ?_
    rintro e w1 ⟨rfl, hb⟩
    go_wp2_with fail
    go_ret
    exact ⟨rfl, hb⟩
  have h1' : ¬ (20 : Int) < (f.length : Int) := by omega
  by_cases h2 : 20 < g.length
  · have h2' : (20 : Int) < (g.length : Int) := by omega
    clear hout h1 h2
    go_enter Try.func3, Try.ntmps3
    go_wp2_with fail
    refine hcm.out.mono ?_
    rintro e w1 ⟨rfl, hb⟩
    go_wp2_with fail
    go_ret
    exact ⟨rfl, hb⟩
  have h2' : ¬ (20 : Int) < (g.length : Int) := by omega
  have hmf := may4 A c f w hf (by omega)
  by_cases h3 : mayF f = false
  · rw [h3] at hmf
    have HMF := hid hmf
    clear hout h1 h2 h3 hmf
    go_enter Try.func3, Try.ntmps3
    go_wp2_with fail
    refine HMF.out.mono ?_
    rintro e w' ⟨rfl, rfl⟩
    go_wp2_with fail
    refine hcm.out.mono ?_
    rintro e w1 ⟨rfl, hb⟩
    go_wp2_with fail
    go_ret
    exact ⟨rfl, hb⟩
  have h3' : mayF f = true := by simpa using h3
  rw [h3'] at hmf
  have HMF := hid hmf
  have hmg := may4 B d g w hg (by omega)
  by_cases h4 : mayF g = false
  · rw [h4] at hmg
    have HMG := hid hmg
    clear hout h1 h2 h3 hmf hmg h3' h4
    go_enter Try.func3, Try.ntmps3
    go_wp2_with fail
    refine HMF.out.mono ?_
    rintro e w' ⟨rfl, rfl⟩
    go_wp2_with fail
    refine HMG.out.mono ?_
    rintro e w' ⟨rfl, rfl⟩
    go_wp2_with fail
    refine hcm.out.mono ?_
    rintro e w1 ⟨rfl, hb⟩
    go_wp2_with fail
    go_ret
    exact ⟨rfl, hb⟩
  have h4' : mayF g = true := by simpa using h4
  rw [h4'] at hmg
  have HMG := hid hmg
  have h5 : 30 < N := by
    rcases hout with h | h | h | h | h
    · exact absurd h h1
    · exact absurd h h2
    · exact absurd h h3
    · exact absurd h h4
    · exact h
  have h5' : (30 : Int) < (N : Int) := by omega
  clear hout h1 h2 h3 hmf hmg h3' h4 h4' h5
  go_enter Try.func3, Try.ntmps3
  go_wp2_with fail
  refine HMF.out.mono ?_
  rintro e w' ⟨rfl, rfl⟩
  go_wp2_with fail
  refine HMG.out.mono ?_
  rintro e w' ⟨rfl, rfl⟩
  go_wp2_with fail
  refine hcm.out.mono ?_
  rintro e w1 ⟨rfl, hb⟩
  go_wp2_with fail
  go_ret
  exact ⟨rfl, hb⟩
end Go.Proofs.Ythgfmkdgemepnaa
