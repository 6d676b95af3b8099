/- steadingtop.coming: the example of ports. -/
import Derived.Test.YthgfmkdgemepnaaFull
import Derived.Test.YthgfmkdgemepnaaCome
import Derived.Test.YthgfmkdgemepnaaSame
namespace Go.Proofs.Ythgfmkdgemepnaa
open Go.RowKit

theorem Sl.pair (w : World) (u v : Value) (t : TypeId) : Sl (w.alloc (.cells #[u, v] t)) 1 (some ⟨w.heap.size, 0, none⟩) 2 [u, v] := by
  refine ⟨rfl, fun _ => ⟨w.heap.size, 0, rfl, by simp, fun j x hx => ?_⟩⟩
  rw [Nat.zero_add, cell_of_row _ _ _ _ t (0, 0) (heap_alloc_new w _)]
  simpa using hx
theorem own_pair (w : World) (u v : Value) (t : TypeId) : (w.alloc (.cells #[u, v] t)).ownsRow 0 t 1 (.slice (some ⟨w.heap.size, 0, none⟩) 2 2) 2 [u, v] :=
  ⟨rfl, .inr ⟨w.heap.size, 2, #[u, v], rfl, Nat.zero_le _, heap_alloc_new w _, Nat.le_refl _, by unfold maxLen; omega, rfl, rfl⟩⟩

/-- A port as it is claimed. -/
def pNew : PortSt := ⟨[], [], 0, 0⟩
def pGot : PortSt := ⟨[], [[0, 7]], 0, 0⟩

theorem Kb.below {S : List Nat} {B : Nat} {w w' : World} {C : Nat} (h : Kb S B w w') (hC : C ≤ B) (hS : ∀ x ∈ S, C ≤ x) : Below C w w' :=
  ⟨h.os, h.tape, h.output, h.size, fun k hk => h.block k (by omega) (fun hx => by have := hS k hx; omega)⟩
theorem grown_below {w w' : World} {M C : Nat} (h : w.grownBy w' (some M)) (hC : C ≤ w.heap.size) (hM : C ≤ M) : Below C w w' :=
  ⟨h.os, h.tape, h.output, h.size, fun k hk => h.block k (by omega) (fun e => by injection e with e; omega)⟩

def ComeE (w : World) (base PB M : Nat) (qv : Value) (X1 X2 : Nat) (e : Ending) (W' : World) : Prop :=
  ∃ (A : Option Addr) (c : Nat), e = .returned (.tuple #[.slice A 2 c, .int .i64 0]) ∧ W'.ownsRow w.heap.size 53 2 (.slice A 2 c) 2 [.int .i64 0, .bool false, .int .i64 1, .bool false] ∧ PortsAt W' base PB M qv 0 [2, 1] [X1, X2] [pGot, pGot] ∧ Kb [X1, X2] w.heap.size w W'

theorem come_example {w : World} {base PB M X1 X2 : Nat} {qv : Value} {g : Nat} (h : PortsAt w base PB M qv 0 [2, 1] [X1, X2] [pNew, pNew]) (hl : w.ownsRow 0 5 1 (.slice (some ⟨g, 0, none⟩) 2 2) 2 [.int .u8 0, .int .u8 7]) :
    Calls Try.prog 11 #[.pointer (some ⟨PB, 0, none⟩), .slice (some ⟨g, 0, none⟩) 2 2] w (ComeE w base PB M qv X1 X2) := by
  refine (come11_home h (some ⟨g, 0, none⟩) 2 [0, 7] hl (by decide) 0 rfl (by simp) (fun p hp => by simp [pNew] at hp; subst hp; decide) (fun p hp => by simp [pNew] at hp; subst hp; decide)).mono ?_
  rintro e W ⟨u, rfl, ho, hp, hk⟩
  have e1 : cameL [pNew, pNew] [0, 7] (comeK 0 0 [X1, X2]) = [(0, false), (1, false)] := by
    show cameL [pNew, pNew] [0, 7] 2 = _
    decide
  have e2 : stepTo [pNew, pNew] [0, 7] (comeK 0 0 [X1, X2]) = [pGot, pGot] := by
    show stepTo [pNew, pNew] [0, 7] 2 = _
    rfl
  rw [e1] at ho
  rw [e2] at hp
  obtain ⟨A, c, rfl⟩ := own_form ho
  exact ⟨A, c, rfl, ho, hp, hk⟩

theorem quotas_two : quotasOk [2, 1] := by
  refine ⟨by decide, by decide, fun k q hq => ?_⟩
  match k with
  | 0 => simp at hq; subst hq; simp
  | 1 => simp at hq; subst hq; simp
  | k + 2 => simp at hq

def ClaimOne (base PB M : Nat) (qv : Value) (xs : List Nat) (k : Nat) (w : World) (e : Ending) (w' : World) : Prop :=
  e = .returned (.tuple #[.int .i64 (k : Int), .int .i64 0]) ∧ ∃ X, w.heap.size ≤ X ∧ PortsAt w' base PB M qv 0 [2, 1] (xs ++ [X]) (List.replicate (k + 1) pNew) ∧ w.grownBy w' (some M)
theorem claim_one {w : World} {base PB M : Nat} {qv : Value} {xs : List Nat} (k : Nat) (h : PortsAt w base PB M qv 0 [2, 1] xs (List.replicate k pNew)) (hbase : base ≤ w.heap.size) (hk : k < 2) :
    Calls Try.prog 10 #[.pointer (some ⟨PB, 0, none⟩), .int .i64 0, .slice none 0 0] w (ClaimOne base PB M qv xs k w) := by
  refine (claim10 h hbase none 0 [] Sl.none_ rfl (by omega) (by decide) 2 rfl (by simp; omega) (by simp; omega)).mono ?_
  rintro e w' ⟨rfl, X, hX, hp, hg⟩
  refine ⟨by simp, X, hX, ?_, hg⟩
  rw [List.replicate_succ']
  exact hp
theorem claim_none {w : World} {base PB M : Nat} {qv : Value} {xs : List Nat} (h : PortsAt w base PB M qv 0 [2, 1] xs [pNew, pNew]) (hbase : base ≤ w.heap.size) :
    Calls Try.prog 10 #[.pointer (some ⟨PB, 0, none⟩), .int .i64 0, .slice none 0 0] w fun e w' => e = .returned (.tuple #[.int .i64 0, .int .i64 5]) ∧ Below w.heap.size w w' :=
  claim10_full h hbase none 0 [] Sl.none_ rfl (by omega) (by decide) 2 rfl (by simp) (by simp) (by simp)

theorem grown_none {w w' : World} (h : Below w.heap.size w w') : Fin' 0 w w' := Fin'.of_below h

theorem Fin'.drN {A B : World} {b : Nat} (h : Fin' b A B) (n : Nat) : Fin' b A (B.drewN n) := ⟨h.os, h.tape, h.output, h.size, h.keep⟩
/-- One port has changed. -/
theorem PortsAt.set {w w' : World} {base PB M : Nat} {qv : Value} {n : Int} {quotas : List Int} {xs : List Nat} {ps : List PortSt} (h : PortsAt w base PB M qv n quotas xs ps) {k X : Nat} {p p' : PortSt} (hx : xs[k]? = some X) (hp : ps[k]? = some p)
    (hP : PortAt w' X p') (hg : w.grownBy w' (some X)) : PortsAt w' base PB M qv n quotas xs (ps.set k p') := by
  obtain ⟨tvX, rsX, hbX, _, _⟩ := h.port k X p hx hp
  have hne : ∀ e v size n xs, e ≠ 75 → w.ownsRow 0 e size v n xs → v.ownBlock = none ∨ v.ownBlock ≠ some X := fun e v size n xs he ho => .inr (own_ne ho hbX he)
  refine ⟨(hg.block PB h.pb.lt (fun e => bk_ne' h.pb hbX (by decide) (by injection e))).trans h.pb, h.qs.kept hg (hne _ _ _ _ _ (by decide) h.qs), ?_, by rw [List.length_set]; exact h.len, ?_, h.nodup, h.lo⟩
  · refine (hg.block M (Array.getElem?_eq_some_iff.1 h.mp).1 (fun e => ?_)).trans h.mp
    injection e with e
    have e2 := h.mp
    unfold Bk at hbX
    rw [e, hbX] at e2
    cases e2
  · intro j x q hxj hq
    by_cases hj : j = k
    · subst hj
      rw [hx] at hxj
      injection hxj with hxj
      subst hxj
      rw [List.getElem?_set_self (List.getElem?_eq_some_iff.1 hp).1] at hq
      injection hq with hq
      subst hq
      exact hP
    · rw [List.getElem?_set_ne (fun e => hj e.symm)] at hq
      have hxX : x ≠ X := by
        rintro rfl
        obtain ⟨a1, a2⟩ := List.getElem?_eq_some_iff.1 hxj
        obtain ⟨b1, b2⟩ := List.getElem?_eq_some_iff.1 hx
        exact hj ((List.getElem_inj h.nodup).1 (a2.trans b2.symm))
      exact (h.port j x q hxj hq).kept hg (fun e => hxX (by injection e)) hne

set_option maxRecDepth 100000 in
set_option maxHeartbeats 4000000 in
theorem coming5 (w : World) : Calls Try.prog 5 #[] w fun e w' => e = .returned (.bool true) ∧ Below w.heap.size w w' := by
  have hn := hid (new6 (some ⟨w.heap.size, 0, none⟩) 2 [2, 1] 0 (w.alloc (.cells #[.int .i64 2, .int .i64 1] 3)) (Sl.pair w _ _ 3) quotas_two)
  go_enter Try.func5, Try.ntmps5
  go_wp2_with fail
  refine hn.out.mono ?_
  rintro e w1 ⟨PB, M, qv, rfl, hP, hb1⟩
  have hbl1 : Below w.heap.size w w1 := ((Below.refl _ w).alloc (Nat.le_refl _) _).trans (hb1.mono (by simp))
  have hz1 := hb1.size
  have hc1 := hid (claim_one 0 hP hz1 (by omega))
  have HB1 := hid hbl1
  have HP1 := hid hP
  have hz1' : w.heap.size < w1.heap.size := by simp at hz1; omega
  have hM := hP.lo.2.1
  simp only [World.size_alloc] at hM
  clear hP hb1 hbl1 hn hz1
  go_wp2_with fail
  refine hc1.out.mono ?_
  rintro e w2 ⟨rfl, X1, hX1, hP2, hg2⟩
  have hz2 : w1.heap.size ≤ w2.heap.size := hg2.size
  have HB2 := hid (HB1.out.trans (grown_below hg2 (show w.heap.size ≤ w1.heap.size by omega) (by omega)))
  have hc2 := hid (claim_one (xs := [X1]) 1 hP2 (by simp; omega) (by omega))
  clear hc1 hP2 hg2
  go_wp2_with fail
  refine hc2.out.mono ?_
  rintro e w3 ⟨rfl, X2, hX2, hP3, hg3⟩
  have hz3 : w2.heap.size ≤ w3.heap.size := hg3.size
  have HB3 := hid (HB2.out.trans (grown_below hg3 (show w.heap.size ≤ w2.heap.size by omega) (by omega)))
  have HP3 := hid (show PortsAt w3 _ PB M qv 0 [2, 1] [X1, X2] [pNew, pNew] from hP3)
  have hc3 := hid (claim_none HP3.out (by simp; omega))
  clear hc2 hP3 hg3
  go_wp2_with fail
  refine hc3.out.mono ?_
  rintro e w4 ⟨rfl, hb4⟩
  have hz4 : w3.heap.size ≤ w4.heap.size := hb4.size
  have HB4 := hid (HB3.out.trans (hb4.mono (show w.heap.size ≤ w3.heap.size by omega)))
  have HP4 := hid (HP3.out.fin (B := M + 1) (Fin'.of_below hb4) (Nat.lt_succ_self M))
  have hc4 := hid (come_example (HP4.out.fin (B := M + 1) ((Fin'.refl _ w4).alloc (.cells #[.int .u8 0, .int .u8 7] 5)) (Nat.lt_succ_self M)) (own_pair w4 _ _ 5))
  clear hc3 hb4
  go_wp2_with fail
  refine hc4.out.mono ?_
  rintro e w5 ⟨A, c, rfl, hown5, hP5, hkb⟩
  have hz5 : w4.heap.size + 1 ≤ w5.heap.size := by have := hkb.size; simpa using this
  have HB5 := hid (HB4.out.trans (((Below.refl _ w4).alloc (Nat.le_refl _) (.cells #[.int .u8 0, .int .u8 7] 5) |>.mono (show w.heap.size ≤ w4.heap.size by omega)).trans (hkb.below (C := w.heap.size) (by simp; omega) (by intro x hx; simp at hx; omega))))
  have HP5 := hid hP5
  have HO5 := hid hown5
  have hc5 := hid (take16_some hP5 0 X1 pGot rfl rfl (by omega) (by decide) [0, 7] [] rfl)
  clear hc4 hP5 hkb hown5
  go_wp2_with fail
  refine hc5.out.mono ?_
  rintro e w6 ⟨v6, rfl, hown6, hp6, hg6⟩
  have hz6 : w5.heap.size ≤ w6.heap.size := hg6.size
  have HB6 := hid (HB5.out.trans (grown_below hg6 (show w.heap.size ≤ w5.heap.size by omega) (by omega)))
  have HP6 := hid (HP5.out.set (k := 0) rfl rfl hp6 hg6)
  obtain ⟨tvX, rsX, hX1b, _, _⟩ := HP5.out.port 0 X1 pGot rfl rfl
  have HO6 := hid (HO5.out.kept hg6 (.inr (own_ne HO5.out hX1b (by decide))))
  have hc6 := hid (take16_none HP6.out 0 (takeSt pGot) rfl (by omega) (by decide) rfl)
  obtain ⟨A6, c6, rfl⟩ := own_form hown6
  have HV6 := hid hown6
  clear hc5 hown6 hp6 hg6 hX1b
  go_wp2_with fail
  refine hc6.out.mono ?_
  rintro e w' ⟨rfl, rfl⟩
  obtain ⟨g, gc, gcur, hgv, _, hgh, _, _, hgs, hgt⟩ : ∃ g cap cur, Value.slice A 2 c = .slice (some ⟨g, 0, none⟩) 2 cap ∧ (w4.alloc (.cells #[.int .u8 0, .int .u8 7] 5)).heap.size ≤ g ∧ w6.heap[g]? = some (.cells cur 53 (0, 0)) ∧ 2 ≤ cap ∧ cap ≤ maxLen ∧ cur.size = cap * 2 ∧ cur.toList.take (2 * 2) = [.int .i64 0, .bool false, .int .i64 1, .bool false] := by
    rcases HO6.out.2 with ⟨_, h⟩ | h
    · omega
    · exact h
  injection hgv with e1 e2 e3
  subst e1
  have d0 := (Sl.of_own HO6.out).at_ (by omega)
  obtain ⟨b, o, hbo, _, hcl⟩ := d0
  injection hbo with hbo
  injection hbo with hb1 hb2 _
  subst hb1; subst hb2
  have k0 := hcl 0 _ rfl
  have k1 := hcl 2 _ rfl
  simp only [Nat.zero_add] at k0 k1
  have q1 : (convert 39 9 (.slice A6 2 c6)).run Try.prog w6 = .ok (.string ⟨#[0, 7]⟩) w6 := (show Sl w6 1 A6 2 (bcells [0, 7]) from Sl.of_own HV6.out).str (l := [0, 7]) c6
  have hl := hid (len17 HP6.out 1 pGot rfl (by omega) (by decide))
  have HH := hid hgh
  clear hc6 hgh hgs hgt hcl
  go_wp2_with fail
  refine hl.out.mono ?_
  rintro e w' ⟨rfl, rfl⟩
  go_wp2_with fail
  go_ret
  exact ⟨rfl, HB6.out⟩
end Go.Proofs.Ythgfmkdgemepnaa
