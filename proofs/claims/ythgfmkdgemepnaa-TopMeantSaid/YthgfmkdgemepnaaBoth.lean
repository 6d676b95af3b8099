/- filter.Both, filter.Plain, filter.Never at filters that may be. -/
import Derived.Test.YthgfmkdgemepnaaPlain
namespace Go.Proofs.Ythgfmkdgemepnaa
open Go.RowKit

/-- What Both answers: the error and the tests. -/
def bothF (f g : List Ts) : Int × List Ts :=
  if (bytesF (f ++ g)).2 then (if 8 < (plainTo (bytesF (f ++ g)).1 64).length then (3, []) else (0, plainTo (bytesF (f ++ g)).1 64)) else (210, [])

set_option maxRecDepth 100000 in
set_option maxHeartbeats 1000000 in
theorem both9 (A : Option Addr) (c : Nat) (f : List Ts) (B : Option Addr) (d : Nat) (g : List Ts) (w : World)
    (hf : Sl w 3 A f.length (tsCells f)) (hg : Sl w 3 B g.length (tsCells g)) (hmf : mayF f = true) (hmg : mayF g = true) :
    Calls Try.prog 9 #[.slice A f.length c, .slice B g.length d] w fun e w' => ∃ v, e = .returned (.tuple #[v, .int .i64 (bothF f g).1]) ∧ Below w.heap.size w w' ∧
      w'.ownsRow w.heap.size 45 3 v (bothF f g).2.length (tsCells (bothF f g).2) := by
  have hlf : f.length ≤ 8 := by simp [mayF] at hmf; exact hmf.1
  have hlg : g.length ≤ 8 := by simp [mayF] at hmg; exact hmg.1
  have hall : (f ++ g).all may1 = true := by
    simp only [mayF, Bool.and_eq_true] at hmf hmg
    rw [List.all_append, hmf.2, hmg.2]; rfl
  have h1 := check19 A c f w hf (by omega)
  rw [chkE_ok hmf] at h1
  have h2 := fun w' => check19 B d g w'
  rw [chkE_ok hmg] at h2
  have H1 := hid h1
  have H2 := hid h2
  have HA := hid hall
  clear h1 h2 hall
  go_enter Try.func9, Try.ntmps9
  go_wp2_with fail
  refine H1.out.mono ?_
  rintro e w1 ⟨rfl, hb1⟩
  go_wp2_with fail
  refine (H2.out w1 (hg.below hb1 (Nat.le_refl _)) (by omega)).mono ?_
  rintro e w2 ⟨rfl, hb2⟩
  have hB2 := hb1.trans (hb2.mono hb1.size)
  have hf2 := hf.below hB2 (Nat.le_refl _)
  have hg2 := hg.below hB2 (Nat.le_refl _)
  have hs2 := hB2.size
  have hcc := concat22 w2.heap.size A B c d f g (w2.alloc (.cells #[.slice A f.length c, .slice B g.length d] 22)) (heap_alloc_new w2 _) (hf2.alloc _) (hg2.alloc _) (by omega) (by omega)
  have HCC := hid hcc
  clear hcc
  go_wp2_with fail
  refine HCC.out.mono ?_
  rintro e w3 ⟨v3, rfl, hown3, hb3⟩
  have hB3 : Below w.heap.size w w3 := (hB2.alloc hs2 _).trans (hb3.mono (by simp; omega))
  have hs3 := hB3.size
  obtain ⟨A3, c3, rfl⟩ := own_form hown3
  have hle : (f ++ g).length ≤ 16 := by rw [List.length_append]; omega
  have hpp := plain21 A3 c3 (f ++ g) w3 (Sl.of_own hown3) (by omega) HA.out
  rw [List.length_append] at hpp
  have HPP := hid hpp
  clear hpp hown3 hb3 hf2 hg2 HCC
  go_wp2_with fail
  refine HPP.out.mono ?_
  rintro e w4 ⟨v4, rfl, hb4, hown4⟩
  have hB4 : Below w.heap.size w w4 := hB3.trans (hb4.mono hs3)
  have HO := hid (own_base hown4 hs3)
  obtain ⟨A4, c4, rfl⟩ := own_form hown4
  clear hown4 HPP hb4
  have HB := hid (show bothF f g = if (bytesF (f ++ g)).2 then (if 8 < (plainTo (bytesF (f ++ g)).1 64).length then (3, []) else (0, plainTo (bytesF (f ++ g)).1 64)) else (210, []) from rfl)
  rcases hbs : bytesF (f ++ g) with ⟨ws, b⟩
  rw [hbs] at HB HO
  clear hbs
  dsimp only at HB HO
  cases b with
  | false =>
    have HB2 : Hid (bothF f g = (210, [])) := HB.out
    clear HB HO
    go_wp2_with fail
    go_ret2
    exact ⟨_, by rw [HB2.out]; rfl, hB4, by rw [HB2.out]; exact World.ownsRow_nil _ _ _ _⟩
  | true =>
    have HO2 := HO.out
    have HB2 := HB.out
    clear HO HB
    simp only [if_true] at HO2 HB2
    generalize plainTo ws 64 = l at HO2 HB2
    have HO3 := hid HO2
    by_cases h8 : 8 < l.length
    · rw [if_pos h8] at HB2
      have HB3 := hid HB2
      clear HO2 HB2
      have h8' : (8 : Int) < (l.length : Int) := by omega
      go_wp2_with fail
      go_ret2
      exact ⟨_, by rw [HB3.out]; rfl, hB4, by rw [HB3.out]; exact World.ownsRow_nil _ _ _ _⟩
    · rw [if_neg h8] at HB2
      have HB3 := hid HB2
      clear HO2 HB2
      have h8' : ¬ (8 : Int) < (l.length : Int) := by omega
      go_wp2_with fail
      go_ret2
      exact ⟨_, by rw [HB3.out]; rfl, hB4, by rw [HB3.out]; exact HO3.out⟩

set_option maxRecDepth 100000 in
set_option maxHeartbeats 1000000 in
theorem plain7 (A : Option Addr) (c : Nat) (f : List Ts) (w : World) (hf : Sl w 3 A f.length (tsCells f)) (hmf : mayF f = true) :
    Calls Try.prog 7 #[.slice A f.length c] w fun e w' => ∃ v, e = .returned (.tuple #[v, .int .i64 (bothF f []).1]) ∧ Below w.heap.size w w' ∧
      w'.ownsRow w.heap.size 45 3 v (bothF f []).2.length (tsCells (bothF f []).2) := by
  have h := hid (both9 A c f none 0 [] w hf Sl.none_ hmf rfl)
  generalize bothF f [] = r at h ⊢
  go_enter Try.func7, Try.ntmps7
  go_wp2_with fail
  refine h.out.mono ?_
  rintro e w1 ⟨v, rfl, hb, ho⟩
  have HO := hid ho
  clear ho
  go_wp2_with fail
  go_ret2
  exact ⟨_, rfl, hb, HO.out⟩

set_option maxRecDepth 100000 in
set_option maxHeartbeats 1000000 in
theorem never8 (A : Option Addr) (c : Nat) (f : List Ts) (w : World) (hf : Sl w 3 A f.length (tsCells f)) (hmf : mayF f = true) :
    Calls Try.prog 8 #[.slice A f.length c] w fun e w' => e = .returned (.tuple #[.bool (!(bytesF f).2), .int .i64 0]) ∧ Below w.heap.size w w' := by
  have hlf : f.length ≤ 8 := by simp [mayF] at hmf; exact hmf.1
  have hall : f.all may1 = true := by
    simp only [mayF, Bool.and_eq_true] at hmf
    exact hmf.2
  have h1 := check19 A c f w hf (by omega)
  rw [chkE_ok hmf] at h1
  have H1 := hid h1
  have HA := hid hall
  clear h1 hall
  obtain ⟨i2, hi2, hz2, hs2, _⟩ := info_parts info62
  go_enter Try.func8, Try.ntmps8
  go_wp2_with fail
  refine H1.out.mono ?_
  rintro e w1 ⟨rfl, hb1⟩
  go_wp2_with fail
  refine (bytes20 A c f w1 (hf.below hb1 (Nat.le_refl _)) (by omega) HA.out).mono ?_
  rintro e w2 ⟨rfl, hb2⟩
  have hB2 := hb1.trans (hb2.mono hb1.size)
  have hs2' := hB2.size
  have hlen := foldB_length f (ws0, true)
  rw [ws0_length] at hlen
  have hl2 : (bytesF f).1.length = 64 := hlen
  clear hlen
  rcases hbs : bytesF f with ⟨ws, b⟩
  rw [hbs] at hl2
  have HS := hid hbs
  clear hbs
  dsimp only at hl2 ⊢
  have hsz : (Try.prog.info? 62).map (·.size) = some (wsCells ws).size := by rw [hi2]; simp [hs2, wsCells_size, hl2]
  have hsz0 : (wsCells ws0).size = (wsCells ws).size := by simp [wsCells_size, hl2, ws0_length]
  have h1c : (wsCells ws).all (·.oneCell') = true := wsCells_one _
  go_wp2_with (first | (refine wpList_alloc_row rfl 62 rfl i2 _ hi2 hz2 ?_) | (refine wpList_store_row rfl 62 (.tmp 5) (.tmp 15) rfl w2.heap.size _ rfl rfl 62 _ (heap_alloc_new w2 _) hsz hsz0 h1c ?_))
  go_ret2
  exact ⟨by rw [HS.out]; rfl, hB2.trans ((((Below.refl _ w2).alloc (Nat.le_refl _) _).trans (below_setRow _ _ _ (Nat.le_refl _))).mono hs2')⟩
end Go.Proofs.Ythgfmkdgemepnaa
