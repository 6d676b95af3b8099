/- Passing's closure at one packet. -/
import Derived.Test.YthgfmkdgemepnaaPass
namespace Go.Proofs.Ythgfmkdgemepnaa
open Go.RowKit Go.Shelf
attribute [local go_sem] Oper.semAt_some

/-- What stands in a round of another loop: whatever is no cells, but for that loop's own record. -/
def KeepsBut (l : Nat) (W W' : World) : Prop := W.heap.size ≤ W'.heap.size ∧ ∀ (k : Nat) (o : Obj), k ≠ l → W.heap[k]? = some o → o.isCells = false → W'.heap[k]? = some o

set_option maxRecDepth 100000 in
set_option maxHeartbeats 2000000 in
theorem pass41_no (l0 LB FB : Nat) (A : Option Addr) (c : Nat) (f : List Ts) (PA : Option Addr) (pc : Nat) (A1 : Option Addr) (c1 : Nat) (l : List UInt8) (W : World)
    (hF : Bk W FB 22 #[.slice A f.length c]) (hf : W.ownsRow 0 45 3 (.slice A f.length c) f.length (tsCells f)) (hL : Bk W LB 23 #[.slice PA 1 pc])
    (hp : W.ownsRow 0 39 1 (.slice PA 1 pc) 1 [.slice A1 l.length c1]) (hl : W.ownsRow 0 5 1 (.slice A1 l.length c1) l.length (bcells l)) (hlf : f.length ≤ 64)
    (hm : matchF f l = false) :
    CallsIn Fence.wide 3 Try.prog 41 #[.func (.yield l0) #[] #[], .pointer (some ⟨LB, 0, none⟩), .pointer (some ⟨FB, 0, none⟩)] W fun e W' => (∃ v, e = .returned v) ∧ Below W.heap.size W W' := by
  obtain ⟨b, o, hPA, hbl, hbc⟩ := (Sl.of_own hp).at_ (by omega)
  subst hPA
  have k1 := hL.cell 0
  simp only [List.getElem?_toArray, List.getElem?_cons_zero] at k1
  have k1' : (W.alloc (.cells #[.func (.yield l0) #[] #[]] 97)).cell? ⟨LB, 0, none⟩ = some (.slice (some ⟨b, o, none⟩) 1 pc) := by rw [World.cell?_alloc_lt _ _ _ hL.lt]; exact k1
  refine callsIn_of_wp_marks Try.func41 rfl trivial ?_ rfl
  simp only [Try.ntmps41, List.size_toArray, List.length_cons, List.length_nil, Nat.reduceAdd, Nat.reduceSub, Array.replicate_succ, Array.replicate_zero, List.push_toArray, List.append_toArray, List.nil_append, List.cons_append]
  gi_wp2_with fail
  refine ⟨trivial, (callsIn_wide.2 (all42 _ rfl _ _ _ rfl _)).mono ?_⟩
  rintro e w' ⟨rfl, rfl⟩
  gi_wp2_with fail
  generalize hW0 : (W.alloc (.cells #[.func (.yield l0) #[] #[]] 97)).alloc (.cells #[.slice (some ⟨b, o, none⟩) 1 pc] 23) = W0
  have hsz0 : W.heap.size + 2 ≤ W0.heap.size := by rw [← hW0]; simp
  have f0 : Bk W0 W.heap.size 97 #[.func (.yield l0) #[] #[]] := by rw [← hW0]; exact heap_alloc2_old W _ _
  have f1 : Bk W0 (W.heap.size + 1) 23 #[.slice (some ⟨b, o, none⟩) 1 pc] := by rw [← hW0]; exact heap_alloc2_new W _ _
  have f2 : Below W.heap.size W W0 := by rw [← hW0]; exact ((Below.refl _ W).alloc (Nat.le_refl _) _).alloc (by simp) _
  have F0 := hid f0
  have F1 := hid f1
  have F2 := hid f2
  clear f0 f1 f2 hW0 k1 k1' hbc
  refine range_outer (gf := 50) (lb := #[.pointer (some ⟨W.heap.size + 1, 0, none⟩)]) rfl (enters Try.func50 rfl (by kernel_rfl)) ?_
  intro fn
  generalize hLO : Obj.loop _ = LO
  have HLO := hid hLO
  have hLw : LO.isCells = false := by rw [← hLO]; rfl
  clear hLO
  have g0 : ((W0.alloc (.deferred (some []))).alloc LO).heap[W0.heap.size + 1]? = some LO := heap_alloc2_new W0 _ _
  have g1 : ((W0.alloc (.deferred (some []))).alloc LO).heap[W0.heap.size]? = some (.deferred (some [])) := heap_alloc2_old W0 _ _
  have g2 : Below W.heap.size W ((W0.alloc (.deferred (some []))).alloc LO) := (F2.out.alloc (by omega) _).alloc (by simp; omega) _
  have g3 : Bk ((W0.alloc (.deferred (some []))).alloc LO) (W.heap.size + 1) 23 #[.slice (some ⟨b, o, none⟩) 1 pc] := (F1.out.alloc _).alloc _
  have hpcell : ∀ W1, Below W.heap.size W W1 → W1.cell? ⟨b, o + 0, none⟩ = some (.slice A1 l.length c1) := fun W1 hb => by
    obtain ⟨b', o', e, _, hc⟩ := ((Sl.of_own hp).below hb (Nat.le_refl _)).at_ (by omega)
    injection e with e
    injection e with e1 e2 _
    subst e1; subst e2
    exact hc 0 _ rfl
  refine (all50 2 (W0.heap.size + 1) (W.heap.size + 1) b o pc [.slice A1 l.length c1] _
      (fun k W1 => W1.heap[W0.heap.size + 1]? = some LO ∧ W1.heap[W0.heap.size]? = some (.deferred (some [])) ∧ Below W.heap.size W W1) (fun _ => False) ?_ (by simp) ?_ ?_ ⟨g0, g1, g2⟩).mono ?_
  · have := g3.cell 0
    simpa using this
  · rintro k W1 v ⟨i1, i2, i3⟩ hv
    obtain rfl : k = 0 := by
      have := (List.getElem?_eq_some_iff.1 hv).1
      simp at this
      omega
    simp at hv
    subst hv
    exact ⟨hpcell W1 i3, rfl⟩
  · rintro k W1 v ⟨i1, i2, i3⟩ hv
    obtain rfl : k = 0 := by
      have := (List.getElem?_eq_some_iff.1 hv).1
      simp at this
      omega
    simp at hv
    subst hv
    refine yield_of HLO.out i1 rfl ?_
    intro BO hbc hbw
    have HL1 := hid (show W0.heap.size + 1 < W1.heap.size from (Array.getElem?_eq_some_iff.1 i1).1)
    have HI1 := hid i1
    have HI2 := hid i2
    have HI3 := hid i3
    clear i1 i2 i3 hpcell
    gi_wp2
    refine ⟨HI1.out, ?_⟩
    have hb3 : Below W.heap.size W (W1.putObj (W0.heap.size + 1) BO) := HI3.out.grown (grownBy_putObj' _ _ _) HI3.out.size (fun k e => by cases e; omega)
    have hbo : (W1.putObj (W0.heap.size + 1) BO).heap[W0.heap.size + 1]? = some BO := World.putObj_heap_same HL1.out
    have hdo : (W1.putObj (W0.heap.size + 1) BO).heap[W0.heap.size]? = some (.deferred (some [])) := (World.putObj_heap_other (by omega)).trans HI2.out
    generalize W1.putObj (W0.heap.size + 1) BO = W2 at *
    have k2 := (hF.below hb3 hF.lt).cell 0
    simp only [List.getElem?_toArray, List.getElem?_cons_zero] at k2
    have hmc := match12 A c f A1 c1 l W2.drew (by omega) ((Sl.of_own hf).below hb3 (Nat.le_refl _)).drew ((Sl.of_own hl).below hb3 (Nat.le_refl _)).drew
    rw [hm] at hmc
    have HMC := hid hmc
    have HB3 := hid hb3
    have HBO := hid hbo
    have HDO := hid hdo
    clear hmc hb3 hbo hdo
    gi_wp2_with fail
    gi_region_with (first | (refine ⟨trivial, ?_⟩; gi_at_call 12; refine (CallsIn.inRound _ (callsIn_wide.2 HMC.out)).mono ?_; rintro e w3 ⟨rfl, hb4⟩) | (refine ⟨trivial, ?_⟩) | (refine ⟨(fun _ h => by cases h), ?_⟩))
    all_goals
      have hb4' : Below W2.heap.size W2 w3 := ⟨hb4.os, hb4.tape, hb4.output, hb4.size, hb4.block⟩
      have e1 := hid ((hb4'.block _ (Array.getElem?_eq_some_iff.1 HBO.out).1).trans HBO.out)
      have e2 := hid ((hb4'.block _ (Array.getElem?_eq_some_iff.1 HDO.out).1).trans HDO.out)
      have e3 := hid (HB3.out.trans (hb4'.mono HB3.out.size))
      clear hb4 hb4' k2
      gi_wp2
      refine ⟨e1.out, rfl, World.putObj_heap_same (Array.getElem?_eq_some_iff.1 e1.out).1, (World.putObj_heap_other (by omega)).trans e2.out, e3.out.grown (grownBy_putObj' _ _ _) e3.out.size (fun k e => by cases e; omega)⟩
  · rintro e W3 ⟨⟨v3, rfl⟩, h3⟩
    rcases h3 with ⟨i1, i2, i3⟩ | h3
    · refine range_end HLO.out i1 ?_
      intro EO hec hew
      have hd : (W3.putObj (W0.heap.size + 1) EO).heap[W0.heap.size]? = some (.deferred (some [])) := (World.putObj_heap_other (by omega)).trans i2
      gi_wp2_with fail
      refine ⟨by simp, .inl ⟨_, _, rfl, run_takeDeferred hd, ?_⟩⟩
      refine ⟨_, results_none rfl _ _ _, ⟨_, rfl⟩, ?_⟩
      have h1 : Below W.heap.size W (W3.putObj (W0.heap.size + 1) EO) := i3.grown (grownBy_putObj' _ _ _) i3.size (fun k e => by cases e; omega)
      exact h1.grown (grownBy_putObj' _ _ _) h1.size (fun k e => by cases e; omega)
    · exact h3.elim
end Go.Proofs.Ythgfmkdgemepnaa
