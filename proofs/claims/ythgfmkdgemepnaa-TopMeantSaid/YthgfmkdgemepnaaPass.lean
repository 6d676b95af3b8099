/- filter.Passing at one packet. -/
import Derived.Test.YthgfmkdgemepnaaOpen
import Derived.Deep.RegionLaw
namespace Go.Proofs.Ythgfmkdgemepnaa
open Go.RowKit Go.Shelf
attribute [local go_sem] Oper.semAt_some

set_option maxRecDepth 100000 in
theorem all42 (v : Value) (hv : v.oneCell' = true) (A : Option Addr) (n c : Nat) (he : v = .slice A n c) (w : World) :
    Calls Try.prog 42 #[v] w fun e w' => e = .returned (.func (.func 50) #[] #[.pointer (some ⟨w.heap.size, 0, none⟩)]) ∧ w' = w.alloc (.cells #[v] 23) := by
  subst he
  go_enter Try.func42, Try.ntmps42
  go_wp2
  go_ret
  exact ⟨rfl, rfl⟩

theorem own_kept_none {w w' : World} {base : Nat} {e : TypeId} {size n : Nat} {v : Value} {xs : List Value} (h : w.ownsRow base e size v n xs) (hg : w.grownBy w' none) : w'.ownsRow base e size v n xs :=
  h.kept hg (by cases hv : v.ownBlock with | none => exact .inl rfl | some g => exact .inr (by simp))
/-- What Passing leaves: a closure over its own copies of the filter and of the one packet. -/
def PassPost (f : List Ts) (l : List UInt8) (w : World) (e : Ending) (w' : World) : Prop :=
  ∃ (LB FB : Nat) (A : Option Addr) (c : Nat) (PA : Option Addr) (pc : Nat) (A1 : Option Addr) (c1 : Nat), e = .returned (.func (.func 41) #[] #[.pointer (some ⟨LB, 0, none⟩), .pointer (some ⟨FB, 0, none⟩)]) ∧ Below w.heap.size w w' ∧
    w.heap.size ≤ LB ∧ w.heap.size ≤ FB ∧ Bk w' FB 22 #[.slice A f.length c] ∧ w'.ownsRow w.heap.size 45 3 (.slice A f.length c) f.length (tsCells f) ∧
    Bk w' LB 23 #[.slice PA 1 pc] ∧ w'.ownsRow w.heap.size 39 1 (.slice PA 1 pc) 1 [.slice A1 l.length c1] ∧ w'.ownsRow w.heap.size 5 1 (.slice A1 l.length c1) l.length (bcells l)

set_option maxRecDepth 100000 in
set_option maxHeartbeats 2000000 in
theorem pass28 (A : Option Addr) (c : Nat) (f : List Ts) (X : Nat) (A2 : Option Addr) (c2 : Nat) (l : List UInt8) (w : World) (hf : Sl w 3 A f.length (tsCells f)) (hlf : f.length ≤ 64) (hX : Bk w X 39 #[.slice A2 l.length c2])
    (hl : Sl w 1 A2 l.length (bcells l)) (hll : l.length ≤ 64) :
    Calls Try.prog 28 #[.slice A f.length c, .slice (some ⟨X, 0, none⟩) 1 1] w (PassPost f l w) := by
  obtain ⟨i0, hi0, hz0, hz1, hz2⟩ := info_parts info39
  have hbox : Bk (w.alloc (.cells #[.slice A f.length c] 22)) w.heap.size 22 #[.slice A f.length c] := heap_alloc_new w _
  have hcl := hid (clone24 A f.length c (tsCells f) (w.alloc (.cells #[.slice A f.length c] 22)) (hf.alloc _) (tsCells_one f) (by omega))
  go_enter Try.func28, Try.ntmps28
  go_wp2_with fail
  refine hcl.out.mono ?_
  rintro e w1 ⟨v1, rfl, hown1, hb1⟩
  obtain ⟨A1, c1, rfl⟩ := own_form hown1
  have hbk1 := hbox.below hb1 (by simp)
  have k1 := hbk1.cell 0
  have z1 := hbk1.froz 0
  simp only [List.getElem?_toArray, List.getElem?_cons_zero] at k1
  go_wp2_with fail
  have hs1 := hb1.size
  simp at hs1
  have hB1 : Below w.heap.size w w1 := ((Below.refl _ w).alloc (Nat.le_refl _) _).trans (hb1.mono (by simp))
  have hown1' := own_base hown1 (show w.heap.size ≤ (w.alloc (.cells #[.slice A f.length c] 22)).heap.size by simp)
  have g0 : Bk ((w1.setCell ⟨w.heap.size, 0, none⟩ (.slice A1 f.length c1)).alloc (.cells #[.slice none 0 0] 23)) w.heap.size 22 #[.slice A1 f.length c1] := (hbk1.set_ 0 (.slice A1 f.length c1)).alloc _
  have g1 : Bk ((w1.setCell ⟨w.heap.size, 0, none⟩ (.slice A1 f.length c1)).alloc (.cells #[.slice none 0 0] 23)) w1.heap.size 23 #[.slice none 0 0] := by
    have := heap_alloc_new (w1.setCell ⟨w.heap.size, 0, none⟩ (.slice A1 f.length c1)) (.cells #[.slice none 0 0] 23)
    rw [show (w1.setCell ⟨w.heap.size, 0, none⟩ (.slice A1 f.length c1)).heap.size = w1.heap.size by simp] at this
    exact this
  have g2 : Below w.heap.size w ((w1.setCell ⟨w.heap.size, 0, none⟩ (.slice A1 f.length c1)).alloc (.cells #[.slice none 0 0] 23)) := (hB1.setCell (Nat.le_refl _) _).alloc (by simp; omega) _
  have g3 : ((w1.setCell ⟨w.heap.size, 0, none⟩ (.slice A1 f.length c1)).alloc (.cells #[.slice none 0 0] 23)).ownsRow w.heap.size 45 3 (.slice A1 f.length c1) f.length (tsCells f) :=
    ((hown1'.kept (grownBy_set w1 w.heap.size 0 (.slice A1 f.length c1)) (.inr (own_ne hown1' hbk1 (by decide))))).alloc _
  have hsz2 : ((w1.setCell ⟨w.heap.size, 0, none⟩ (.slice A1 f.length c1)).alloc (.cells #[.slice none 0 0] 23)).heap.size = w1.heap.size + 1 := by simp
  generalize hW2 : (w1.setCell ⟨w.heap.size, 0, none⟩ (.slice A1 f.length c1)).alloc (.cells #[.slice none 0 0] 23) = W2 at g0 g1 g2 g3 hsz2 ⊢
  have hL1 : w1.heap.size < W2.heap.size := by omega
  have hsl2 := hid (hl.below g2 (Nat.le_refl _))
  have x1 := (hX.below g2 hX.lt).cell 0
  simp only [List.getElem?_toArray, List.getElem?_cons_zero] at x1
  have l1 := g1.cell 0
  have zl := g1.froz 0
  simp only [List.getElem?_toArray, List.getElem?_cons_zero] at l1
  have G0 := hid g0
  have G1 := hid g1
  have G2 := hid g2
  have G3 := hid g3
  have hsz3 : w1.heap.size + 1 ≤ W2.heap.size := by omega
  clear hW2 g0 g1 g2 g3 hown1 hown1' hb1 hbk1 k1 z1 hcl hbox hB1 hsz2 hX
  refine wp_loop_rounds 2 ?_
  rw [rounds_succ]
  go_wp2_with fail
  go_region_law (first | (refine step_append_sl _ rfl (.tmp 16) (.tmp 19) 23 rfl w.heap.size 39 i0 _ 1 24 Try.underlying23 hi0 hz0 hz1 hz2 rfl (by omega) (.slice none 0 0) 0 [] rfl (World.ownsRow_nil _ _ _ _) _ 1 1 _ rfl (Sl.one w3 _ 39) (by simp [Value.oneCell']) (by unfold maxLen; omega) (by omega) (by simp; omega) ?_; intro v5 w5 hown5 hg5 hat5; obtain ⟨A5, c5, rfl⟩ := own_form hown5; have k5 := ((World.cell?_of_block (a := ⟨w1.heap.size, 0, none⟩) (hg5.block w1.heap.size (by simp; omega) (by simp [Value.ownBlock]))).trans (World.cell?_alloc_lt w3 (.cells #[.slice A3 l.length c3] 39) ⟨w1.heap.size, 0, none⟩ (by show w1.heap.size < _; omega))).trans k1; have z5 := ((World.frozen?_of_block (a := ⟨w1.heap.size, 0, none⟩) (hg5.block w1.heap.size (by simp; omega) (by simp [Value.ownBlock]))).trans (World.frozen?_of_block (w := w3) (a := ⟨w1.heap.size, 0, none⟩) (Below.heap_alloc w3 (.cells #[.slice A3 l.length c3] 39) w1.heap.size (by omega)))).trans z1) | (go_simp; go_at_call 40; refine (clone40 A2 l.length c2 (bcells l) _ (hsl2.out.drew) (bcells_one l) (by omega)).mono ?_; rintro e w3 ⟨v3, rfl, hown3, hb3⟩; obtain ⟨A3, c3, rfl⟩ := own_form hown3; obtain ⟨bc, bf⟩ := bcell hb3; have k1 := (bc w1.heap.size 0 hL1).trans l1; have z1 := (bf w1.heap.size 0 hL1).trans zl; have hs3 : W2.heap.size ≤ w3.heap.size := hb3.size; have k1a := (World.cell?_alloc_lt w3 (.cells #[.slice A3 l.length c3] 39) ⟨w1.heap.size, 0, none⟩ (by show w1.heap.size < _; omega)).trans k1))
  all_goals
    have hb3' : Below W2.heap.size W2 w3 := ⟨hb3.os, hb3.tape, hb3.output, hb3.size, hb3.block⟩
    have hL3 : Bk w3 w1.heap.size 23 #[.slice none 0 0] := G1.out.below hb3' hL1
    have hL4 : Bk (w3.alloc (.cells #[.slice A3 l.length c3] 39)) w1.heap.size 23 #[.slice none 0 0] := hL3.alloc _
    have hL5 : Bk w5 w1.heap.size 23 #[.slice none 0 0] := (hg5.block _ hL4.lt (by simp [Value.ownBlock])).trans hL4
    have hgr : W2.grownBy w5 (some w1.heap.size) := by
      have e1 : W2.grownBy w3 (some w1.heap.size) := ⟨hb3'.os, hb3'.tape, hb3'.output, hb3'.size, fun k hk _ => hb3'.block k hk⟩
      have e2 : (w3.alloc (.cells #[.slice A3 l.length c3] 39)).grownBy w5 (some w1.heap.size) := ⟨hg5.os, hg5.tape, hg5.output, hg5.size, fun k hk _ => hg5.block k hk (by simp [Value.ownBlock])⟩
      exact (e1.trans (World.grownBy_alloc w3 _ _)).trans e2
    have hgr2 := hgr.trans (grownBy_set w5 w1.heap.size 0 (.slice A5 1 c5))
    have hlb : w.heap.size ≤ w1.heap.size := by omega
    have r1 := hid (hgr2.block w.heap.size G0.out.lt (by intro e; injection e with e; omega))
    have r2 := hid (G3.out.kept hgr2 (.inr (own_ne G3.out G1.out (by decide))))
    have r3 := hid (hL5.set_ 0 (.slice A5 1 c5))
    have r4 := hid (hown5.kept (grownBy_set w5 w1.heap.size 0 (.slice A5 1 c5)) (.inr (own_ne hown5 hL5 (by decide))))
    have hown4 := (own_base hown3 (show w.heap.size ≤ W2.drew.heap.size from G2.out.size)).alloc (.cells #[.slice A3 l.length c3] 39)
    have hown6 := own_kept_none hown4 hg5
    have r5 := hid (hown6.kept (grownBy_set w5 w1.heap.size 0 (.slice A5 1 c5)) (.inr (own_ne hown6 hL5 (by decide))))
    have r6 := hid (G2.out.trans (show Below w.heap.size W2 _ from (Below.refl _ W2).grown hgr2 G2.out.size (fun k e => by cases e; exact hlb)))
    go_wp2_with fail
    rw [rounds_succ]
    go_wp2_with fail
    go_ret
    refine ⟨w1.heap.size, w.heap.size, A1, c1, A5, c5, A3, c3, rfl, r6.out, hlb, Nat.le_refl _, r1.out.trans G0.out, r2.out, r3.out, by simpa using r4.out, r5.out⟩
end Go.Proofs.Ythgfmkdgemepnaa
