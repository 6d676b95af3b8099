/- TopMeant: for every two filters, whatever packets and account, the call returns true and each argument reads behind it as it read before; no condition. -/
import Derived.Test.YthgfmkdgemepnaaArgs
import Derived.Test.YthgfmkdgemepnaaMeant
import Derived.OpenShut
import Derived.ShutString
import Derived.ChangeOld
namespace Go.Proofs.Ythgfmkdgemepnaa
open Go.ChangeShapes Go.WideShapes Go.ChangeAt Go.RowKit

theorem own : ownKnob Try.prog.godebug = none := by kernel_rfl
theorem laidOut : laidOutB Try.prog = true := by kernel_rfl

/-- TopMeant, at whatever arguments. -/
theorem top3_any (A : Option Addr) (c : Nat) (f : List Ts) (B : Option Addr) (d : Nat) (g : List Ts) (C : Option Addr) (ec : Nat) (us : List Value) (pk : List (List UInt8)) (acc : Int) (w : World)
    (hf : Sl w 3 A f.length (tsCells f)) (hg : Sl w 3 B g.length (tsCells g)) (hC : Sl w 1 C us.length us) (hus : SlsOf w us pk) (hbig : ∀ l ∈ pk, l.length ≤ 140737488351232) :
    Calls Try.prog 3 #[.slice A f.length c, .slice B g.length d, .slice C us.length ec, .int .i64 acc] w fun e w' => e = .returned (.bool true) ∧ Below w.heap.size w w' := by
  by_cases h1 : 20 < f.length
  · exact top3_out A c f B d g C us.length ec acc w hf hg (.inl h1)
  by_cases h2 : 20 < g.length
  · exact top3_out A c f B d g C us.length ec acc w hf hg (.inr (.inl h2))
  cases h3 : mayF f with
  | false => exact top3_out A c f B d g C us.length ec acc w hf hg (.inr (.inr (.inl h3)))
  | true =>
    cases h4 : mayF g with
    | false => exact top3_out A c f B d g C us.length ec acc w hf hg (.inr (.inr (.inr (.inl h4))))
    | true =>
      by_cases h5 : 30 < us.length
      · exact top3_out A c f B d g C us.length ec acc w hf hg (.inr (.inr (.inr (.inr h5))))
      · exact top3_in A c f B d g C ec us pk acc w hf hg hC hus h3 h4 (by omega) hbig

set_option maxRecDepth 100000 in
theorem topMeant_lifted (os : Os) (started : os.Started) (H : Type) (enc : TypeId × Value → H) :
    ReturnsInHanded {} Try.checked os 3 .any (Rows.topMeantSpec.pre6 enc Try.prog Try.f3 Rows.topMeantRow.domain false) (Rows.topMeantSpec.post enc Try.prog Try.f3 false true false false) := by
  refine returnsInHanded_of_change_sized (C := Try.checked) own started (by kernel_rfl) Try.func3
    (ChangeSpec.witness6 (enc := enc) (C := Try.checked) false ⟨#[], #[.slice none 0 0, .slice none 0 0, .slice none 0 0, .int .i64 0], []⟩ 8 (by kernel_rfl) (by kernel_rfl) (by kernel_rfl) (by kernel_rfl)) ?_
  intro W base args ds gs before hval0 hW hcnd hsz0 _
  have hval : ∀ (j : Nat) t v, Try.f3.params[j]? = some t → args[j]? = some v → Value.okWide Try.prog W .any base t v := hval0
  have hsz : (DataW.weightsEach Try.prog (Try.f3.params.toList ++ Rows.topMeantSpec.plain.varTypes Try.prog) (ds ++ gs)).all (· ≤ reachBytes) = true := hsz0
  have hW' := hW
  obtain ⟨p, q, hA0, hV, rfl, hfz, hnd⟩ := hW
  have hA : DataW.TrodAll enc Try.prog W 0 (fun _ => true) true Try.f3.params.toList args.toList ds p := hA0
  rw [Try.params3] at hA hval hsz
  obtain ⟨v0, vs0, d0, ds0, p0, q0, hargs, rfl, rfl, h0, r0⟩ := trodAll_cons hA
  obtain ⟨v1, vs1, d1, ds1, p1, q1, rfl, rfl, rfl, h1, r1⟩ := trodAll_cons r0
  obtain ⟨v2, vs2, d2, ds2, p2, q2, rfl, rfl, rfl, h2, r2⟩ := trodAll_cons r1
  obtain ⟨v3, vs3, d3, ds3, p3, q3, rfl, rfl, rfl, h3, r3⟩ := trodAll_cons r2
  obtain ⟨rfl, rfl, rfl⟩ := trodAll_nil r3
  obtain rfl : args = #[v0, v1, v2, v3] := by cases args; simp_all
  obtain ⟨rfl, rfl⟩ := trodVars_none hV
  have hw2 : (d2.weights Try.prog 23).all (· ≤ reachBytes) = true := by
    rw [List.all_eq_true] at hsz ⊢
    intro n hn
    exact hsz n (DataW.weights_mem_each (j := 2) (t := 23) (d := d2) rfl rfl n hn)
  have k0 := h0
  have k1 := h1
  have k2 := h2
  have lt0 : ∀ x ∈ p0, x.block < W.heap.size := by obtain ⟨m, hm⟩ := k0; exact DataW.trod_lt m _ _ _ hm
  have lt1 : ∀ x ∈ p1, x.block < W.heap.size := by obtain ⟨m, hm⟩ := k1; exact DataW.trod_lt m _ _ _ hm
  have lt2 : ∀ x ∈ p2, x.block < W.heap.size := by obtain ⟨m, hm⟩ := k2; exact DataW.trod_lt m _ _ _ hm
  obtain ⟨a0, l0, c0, hv0⟩ := okWide_slice Try.underlying22 (hval 0 22 v0 rfl rfl)
  obtain ⟨a1, l1, c1, hv1⟩ := okWide_slice Try.underlying22 (hval 1 22 v1 rfl rfl)
  obtain ⟨a2, l2, c2, hv2⟩ := okWide_slice Try.underlying23 (hval 2 23 v2 rfl rfl)
  obtain ⟨A, c, f, hvf, hf⟩ : ∃ (A : Option Addr) (c : Nat) (f : List Ts), v0 = .slice A f.length c ∧ Sl W 3 A f.length (tsCells f) := by
    obtain ⟨fuel, hfu⟩ := h0
    obtain ⟨A, c, f, h1, h2⟩ := open_tests hfu
    exact ⟨A, c, f, by rw [hv0] at h1 ⊢; simpa [Value.cells] using h1, h2⟩
  obtain ⟨B, d, g, hvg, hg⟩ : ∃ (A : Option Addr) (c : Nat) (f : List Ts), v1 = .slice A f.length c ∧ Sl W 3 A f.length (tsCells f) := by
    obtain ⟨fuel, hfu⟩ := h1
    obtain ⟨A, c, f, h1, h2⟩ := open_tests hfu
    exact ⟨A, c, f, by rw [hv1] at h1 ⊢; simpa [Value.cells] using h1, h2⟩
  obtain ⟨C, ec, us, pk, hvp, hC, hus, hbig⟩ : ∃ (C : Option Addr) (c : Nat) (us : List Value) (pk : List (List UInt8)), v2 = .slice C us.length c ∧ Sl W 1 C us.length us ∧ SlsOf W us pk ∧ ∀ l ∈ pk, l.length ≤ 140737488351232 := by
    obtain ⟨fuel, hfu⟩ := h2
    rw [hv2] at hfu
    obtain ⟨C, c, us, pk, h1, h2, h3, h4⟩ := open_packets (v := .slice a2 l2 c2) (by simpa [Value.cells] using hfu)
    exact ⟨C, c, us, pk, by rw [hv2]; exact h1, h2, h3, h4 hw2⟩
  obtain ⟨acc, rfl, rfl, rfl, wa⟩ := open_int Try.underlying3 (hval 3 3 v3 rfl rfl) h3
  clear hA0 hval0 hval hsz hsz0 hv0 hv1 hv2 h0 h1 h2 h3 r0 r1 r2 r3 hargs
  subst hvf; subst hvg; subst hvp
  refine (top3_any A c f B d g C ec us pk acc W hf hg hC hus hbig).mono fun e W' ⟨he, bel⟩ => ?_
  subst he
  exact ⟨_, rfl, _, _, _, [], _, [], hW', trodAll_mk1 (shut_bool Try.underlying4 _), (trodAll_cons_mk (Below.trod laidOut (by kernel_rfl) (of_decide_eq_true (by kernel_rfl)) k0 bel lt0) (trodAll_cons_mk (Below.trod laidOut (by kernel_rfl) (of_decide_eq_true (by kernel_rfl)) k1 bel lt1) (trodAll_cons_mk (Below.trod laidOut (by kernel_rfl) (of_decide_eq_true (by kernel_rfl)) k2 bel lt2) (trodAll_cons_mk (shut_int Try.underlying3 wa) trodAll_mk0)))), rfl, bel.frame _, fun h => by cases h⟩

theorem topMeant_holds : Rows.TopMeantSaid :=
  OpenClaim.holds_of_wide 3 Try.f3 rfl rfl rfl rfl rfl rfl rfl ⟨rfl, rfl, rfl, rfl, rfl⟩ rfl rfl rfl rfl rfl (by kernel_rfl) Try.func3 (by kernel_rfl)
    (of_decide_eq_true (by kernel_rfl)) (by unfold Func.isWrapper; rw [if_neg (of_decide_eq_false (by kernel_rfl))]; exact ⟨rfl, rfl⟩)
    (fun os started H enc _ => topMeant_lifted os started H enc)
#print axioms topMeant_holds
end Go.Proofs.Ythgfmkdgemepnaa
