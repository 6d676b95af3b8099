/- What a port does: put, Look, Take, Len, Lost. -/
import Derived.Test.YthgfmkdgemepnaaPorts
import Derived.StillTailTactics
import Derived.Deep.RegionHeld3
namespace Go.Proofs.Ythgfmkdgemepnaa
open Go.RowKit

set_option maxRecDepth 100000 in
set_option maxHeartbeats 400000 in
theorem lost15 {w : World} {base PB M : Nat} {qv : Value} {n : Int} {quotas : List Int} {xs : List Nat} {ps : List PortSt} (h : PortsAt w base PB M qv n quotas xs ps) (k : Nat) (p : PortSt) (hp : ps[k]? = some p) (h0 : 0 ≤ n) (h1 : n < quotas.length) :
    Calls Try.prog 15 #[.pointer (some ⟨PB, 0, none⟩), .int .i64 n, .int .i64 k] w fun e w' => e = .returned (.int .i64 p.lost) ∧ w = w' := by
  obtain ⟨x, hx, ⟨tv, rs, hb, _, hr⟩, _⟩ := h.ptr hp
  have hg := hid (get33 h k x hx h0 h1)
  have c := hb.cell 11
  rw [pc_lost hr.len] at c
  clear hx hp h hb
  go_enter Try.func15, Try.ntmps15
  go_wp2_with fail
  refine hg.out.mono ?_
  rintro e w' ⟨rfl, rfl⟩
  go_wp2_with fail
  go_ret
  exact ⟨rfl, rfl⟩

set_option maxRecDepth 100000 in
set_option maxHeartbeats 400000 in
theorem len17 {w : World} {base PB M : Nat} {qv : Value} {n : Int} {quotas : List Int} {xs : List Nat} {ps : List PortSt} (h : PortsAt w base PB M qv n quotas xs ps) (k : Nat) (p : PortSt) (hp : ps[k]? = some p) (h0 : 0 ≤ n) (h1 : n < quotas.length) :
    Calls Try.prog 17 #[.pointer (some ⟨PB, 0, none⟩), .int .i64 n, .int .i64 k] w fun e w' => e = .returned (.int .i64 p.ring.length) ∧ w = w' := by
  obtain ⟨x, hx, ⟨tv, rs, hb, _, hr⟩, _⟩ := h.ptr hp
  have hg := hid (get33 h k x hx h0 h1)
  have c := hb.cell 10
  rw [pc_n hr.len] at c
  clear hx hp h hb hr
  generalize p.ring.length = m at c ⊢
  go_enter Try.func17, Try.ntmps17
  go_wp2_with fail
  refine hg.out.mono ?_
  rintro e w' ⟨rfl, rfl⟩
  go_wp2_with fail
  go_ret
  exact ⟨rfl, rfl⟩

theorem grownBy_set (W : World) (b o : Nat) (v : Value) : W.grownBy (W.setCell ⟨b, o, none⟩ v) (some b) :=
  ⟨rfl, rfl, rfl, by simp [World.setCell], fun k _ hne => Below.heap_setCell W _ v k (fun e => hne (by rw [e]))⟩
theorem cell_set_off (w : World) (X a b : Nat) (v : Value) (h : a ≠ b) : (w.setCell ⟨X, b, none⟩ v).cell? ⟨X, a, none⟩ = w.cell? ⟨X, a, none⟩ :=
  World.cell?_setCell_other w _ _ v (fun e => h (by injection e with _ e2 _; exact e2.symm))
theorem pc_set_lost {tv : Value} {rs : List Value} {a b c d : Nat} (h : rs.length = 8) : (portCells tv rs a b c).setIfInBounds 11 (.int .i64 (d : Int)) = portCells tv rs a b d := by
  rw [← Array.toList_inj]
  match rs, h with
  | [_, _, _, _, _, _, _, _], _ => simp [portCells]
theorem pc_set_n {tv : Value} {rs : List Value} {a b c d : Nat} (h : rs.length = 8) : (portCells tv rs a b c).setIfInBounds 10 (.int .i64 (d : Int)) = portCells tv rs a d c := by
  rw [← Array.toList_inj]
  match rs, h with
  | [_, _, _, _, _, _, _, _], _ => simp [portCells]
theorem pc_set_first {tv : Value} {rs : List Value} {a b c d : Nat} (h : rs.length = 8) : (portCells tv rs a b c).setIfInBounds 9 (.int .i64 (d : Int)) = portCells tv rs d b c := by
  rw [← Array.toList_inj]
  match rs, h with
  | [_, _, _, _, _, _, _, _], _ => simp [portCells]
theorem pc_set_ring {tv v : Value} {rs : List Value} {a b c j : Nat} (h : j < rs.length) : (portCells tv rs a b c).setIfInBounds (1 + j) v = portCells tv (rs.set j v) a b c := by
  rw [← Array.toList_inj]
  simp only [portCells, Array.toList_setIfInBounds]
  rw [Nat.add_comm, List.set_cons_succ, List.set_append_left _ _ h]
theorem getElem8 {rs : List Value} (h : rs.length = 8) (j : Nat) : ∃ v, rs[j % 8]? = some v := ⟨_, List.getElem?_eq_getElem (by omega)⟩

/-- What a packet does to a port that it reaches. -/
def putSt (p : PortSt) (l : List UInt8) : PortSt := if p.ring.length = 8 then { p with lost := p.lost + 1 } else { p with ring := p.ring ++ [l] }

set_option maxRecDepth 100000 in
set_option maxHeartbeats 1000000 in
theorem put29 (X : Nat) (p : PortSt) (A : Option Addr) (c : Nat) (l : List UInt8) (w : World) (hp : PortAt w X p) (hl : Sl w 1 A l.length (bcells l)) (hlen : l.length ≤ 64) (hlost : p.lost < 4611686018427387904) :
    Calls Try.prog 29 #[.pointer (some ⟨X, 0, none⟩), .slice A l.length c] w fun e w' => e = .returned (.bool (decide (p.ring.length ≠ 8))) ∧ PortAt w' X (putSt p l) ∧ w.grownBy w' (some X) := by
  obtain ⟨tv, rs, hb, ht, hr⟩ := hp
  have c9 := hb.cell 9
  rw [pc_first hr.len] at c9
  have c10 := hb.cell 10
  rw [pc_n hr.len] at c10
  have c11 := hb.cell 11
  rw [pc_lost hr.len] at c11
  have z10 := hb.froz 10
  have z11 := hb.froz 11
  by_cases h8 : p.ring.length = 8
  · have hpost : Hid (putSt p l = { p with lost := p.lost + 1 }) := if_pos h8
    have e8 : (((p.ring.length : Nat) : Int) == 8) = true := by simp [h8]
    have HB := hid hb
    have HR := hid hr
    have HT := hid ht
    have H8 := hid h8
    clear hb hr ht h8
    go_enter Try.func29, Try.ntmps29
    go_wp2_with fail
    go_ret
    refine ⟨by simp [H8.out], ?_, grownBy_set _ _ _ _⟩
    rw [hpost.out]
    refine ⟨tv, rs, ?_, HT.out.kept (grownBy_set w X 11 _) (.inr (own_ne HT.out HB.out (by decide))), HR.out.kept (grownBy_set w X 11 _) (fun v n xs h => .inr (own_ne h HB.out (by decide)))⟩
    have := HB.out.set_ 11 (.int .i64 ((p.lost + 1 : Nat) : Int))
    rw [pc_set_lost HR.out.len, show ((p.lost + 1 : Nat) : Int) = (p.lost : Int) + 1 by omega] at this
    exact this
  · have hpost : Hid (putSt p l = { p with ring := p.ring ++ [l] }) := if_neg h8
    have e8 : (((p.ring.length : Nat) : Int) == 8) = false := by simp; omega
    have hX := hb.lt
    have hf := hr.few
    have hfst := hr.fst
    have hlt : p.first < 9223372036854775807 := by omega
    obtain ⟨k, hk⟩ : ∃ k, k = (p.first + p.ring.length) % 8 := ⟨_, rfl⟩
    have hk8 : k < 8 := by omega
    obtain ⟨u, hu⟩ := getElem8 hr.len (p.first + p.ring.length)
    rw [← hk] at hu
    have ct := hb.cell (1 + k)
    rw [pc_ring hu] at ct
    have zt := hb.froz (1 + k)
    have HB := hid hb
    have HR := hid hr
    have HT := hid ht
    have H8 := hid h8
    have HU := hid hu
    have hl' := hid hl.drew
    have hs1 : IntKind.i64.wrap ((p.first : Int) + (p.ring.length : Int)) = (p.first : Int) + (p.ring.length : Int) := IntWalk.i64_in _ (by omega)
    have hs2 : Int.tmod ((p.first : Int) + (p.ring.length : Int)) 8 = (k : Int) := by rw [Int.tmod_eq_emod_of_nonneg (by omega)]; omega
    have hs3 : IntKind.i64.wrap (k : Int) = (k : Int) := IntWalk.i64_in _ (by omega)
    have hs4 : (k : Int) < 8 := by omega
    have hs5 : (0 : Int) ≤ (k : Int) := by omega
    have HK := hid hk
    clear hb hr ht h8 hu hl hk
    go_enter Try.func29, Try.ntmps29
    go_wp2_with fail
    go_region_held3 (fun w' => w'.cell? ⟨X, 9, none⟩ = some (.int .i64 p.first) ∧ w'.cell? ⟨X, 10, none⟩ = some (.int .i64 p.ring.length)) (first | exact ⟨k9, k10⟩ | exact ⟨(cell_set_off _ X 9 (1 + k) _ (by omega)).trans k9, (cell_set_off _ X 10 (1 + k) _ (by omega)).trans k10⟩ | go_keep)
      (first | (go_at_call 43; refine (clone43 A l.length c (bcells l) _ hl'.out (bcells_one l) (by omega)).mono ?_; rintro e w1 ⟨v1, rfl, hown1, hb1⟩; obtain ⟨A1, c1, rfl⟩ := own_form hown1; obtain ⟨bc, bf⟩ := bcell hb1; have k1 := (bc X (1 + k) hX).trans ct; have k2 := (bf X (1 + k) hX).trans zt; have k9 := (bc X 9 hX).trans c9; have k10 := (bc X 10 hX).trans c10))
    have m10 := (cell_set_off w1 X 10 (1 + k) (.slice A1 l.length c1) (by omega)).trans k10
    have f10 : (w1.setCell ⟨X, 1 + k, none⟩ (.slice A1 l.length c1)).frozen? ⟨X, 10, none⟩ = false := by rw [World.frozen?_setCell]; exact (bf X 10 hX).trans z10
    have hb1' : Below w.heap.size w w1 := ⟨hb1.os, hb1.tape, hb1.output, hb1.size, hb1.block⟩
    have hBk1 := hid (HB.out.below (w' := w1) hb1' hX)
    have hg1 : w.grownBy w1 (some X) := ⟨hb1'.os, hb1'.tape, hb1'.output, hb1'.size, fun j hj _ => hb1'.block j hj⟩
    have HT1 := hid (own_below HT.out hb1' (Nat.le_refl _))
    have HR1 := hid (HR.out.kept hg1 (fun v n xs h => .inr (own_ne h HB.out (by decide))))
    have HO1 := hid (own_base hown1 (Nat.zero_le _))
    have HG1 := hid hg1
    clear bc bf hown1 hg1 hb1 hb1' ct zt c9 c10 c11 z10 z11 k1 k2 k9
    go_wp2_with fail
    go_ret
    refine ⟨by simp [H8.out], ?_, (HG1.out.trans (grownBy_set _ _ _ _)).trans (grownBy_set _ _ _ _)⟩
    rw [hpost.out]
    have hB2 := (hBk1.out.set_ (1 + k) (.slice A1 l.length c1)).set_ 10 (.int .i64 ((p.ring.length + 1 : Nat) : Int))
    rw [pc_set_ring (by rw [HR.out.len]; exact hk8), pc_set_n (by rw [List.length_set]; exact HR.out.len)] at hB2
    rw [show ((p.ring.length + 1 : Nat) : Int) = (p.ring.length : Int) + 1 by omega] at hB2
    have hne : ∀ e v size n xs, e ≠ 75 → w1.ownsRow 0 e size v n xs → v.ownBlock ≠ some X := fun e v size n xs he h => own_ne h hBk1.out he
    have kept : ∀ e v size n xs, e ≠ 75 → w1.ownsRow 0 e size v n xs → ((w1.setCell ⟨X, 1 + k, none⟩ (.slice A1 l.length c1)).setCell ⟨X, 10, none⟩ (.int .i64 ((p.ring.length : Int) + 1))).ownsRow 0 e size v n xs :=
      fun e v size n xs he h => h.kept ((grownBy_set w1 X (1 + k) _).trans (grownBy_set _ X 10 _)) (.inr (hne e v size n xs he h))
    refine ⟨tv, rs.set k (.slice A1 l.length c1), ?_, kept _ _ _ _ _ (by decide) HT1.out, ⟨by rw [List.length_set]; exact HR.out.len, hfst, ?_, ?_, ?_⟩⟩
    · show Bk _ _ _ (portCells tv _ p.first (p.ring ++ [l]).length p.lost)
      rw [List.length_append]
      exact hB2
    · show (p.ring ++ [l]).length ≤ 8
      rw [List.length_append]
      have := H8.out
      simp only [List.length_cons, List.length_nil]
      omega
    · intro x hx
      rcases List.mem_append.1 hx with h | h
      · exact HR.out.short x h
      · rw [List.mem_singleton.1 h]; exact hlen
    · intro i x hx
      show ∃ A c, (rs.set k (.slice A1 l.length c1))[(p.first + i) % 8]? = _ ∧ _
      have hkk := HK.out
      rcases Nat.lt_trichotomy i p.ring.length with h | h | h
      · rw [List.getElem?_append_left h] at hx
        obtain ⟨A2, c2, h1, h2⟩ := HR1.out.at_ i x hx
        refine ⟨A2, c2, ?_, kept _ _ _ _ _ (by decide) h2⟩
        have h8' := H8.out
        rw [List.getElem?_set_ne (by omega)]
        exact h1
      · subst h
        rw [List.getElem?_append_right (Nat.le_refl _), Nat.sub_self] at hx
        simp only [List.getElem?_cons_zero, Option.some.injEq] at hx
        subst hx
        refine ⟨A1, c1, ?_, kept _ _ _ _ _ (by decide) HO1.out⟩
        rw [← hkk, List.getElem?_set_self (by rw [HR.out.len]; exact hk8)]
      · rw [List.getElem?_eq_none (by simp; omega)] at hx
        cases hx
end Go.Proofs.Ythgfmkdgemepnaa
