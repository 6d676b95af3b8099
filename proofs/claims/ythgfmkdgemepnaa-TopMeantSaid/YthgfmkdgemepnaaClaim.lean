/- ports.Home, Claim. -/
import Derived.Test.YthgfmkdgemepnaaNew
import Derived.Test.YthgfmkdgemepnaaPut
namespace Go.Proofs.Ythgfmkdgemepnaa
open Go.RowKit

/-- A packet's home. -/
def homeOf (l : List UInt8) : Option Nat := match l with | [] => none | b :: _ => if b.toNat < 8 then some b.toNat else none

set_option maxRecDepth 100000 in
set_option maxHeartbeats 1000000 in
theorem home26_none (A : Option Addr) (c : Nat) (l : List UInt8) (w : World) (hr : Sl w 1 A l.length (bcells l)) (hl : l.length ≤ 64) (hh : homeOf l = none) :
    Calls Try.prog 26 #[.slice A l.length c] w fun e w' => e = .returned (.tuple #[.int .i64 0, .bool false]) ∧ w = w' := by
  cases l with
  | nil =>
    go_enter Try.func26, Try.ntmps26
    go_wp2
    go_ret2
    exact ⟨rfl, rfl⟩
  | cons b rest =>
    have h8 : 8 ≤ b.toNat := by
      by_cases h : b.toNat < 8
      · simp [homeOf, h] at hh
      · omega
    obtain ⟨bb, o, rfl, _, hc⟩ := hr.byte (k := 0) (by simp)
    simp at hc
    have e0 : ((((b :: rest).length : Nat) : Int) == 0) = false := by simp; omega
    have h8' : (8 : Int) ≤ (b.toNat : Int) := by omega
    have hm0 : 0 < (b :: rest).length := by simp
    clear hr hh
    generalize (b :: rest).length = m at *
    go_enter Try.func26, Try.ntmps26
    go_wp2
    go_ret2
    exact ⟨rfl, rfl⟩

set_option maxRecDepth 100000 in
set_option maxHeartbeats 1000000 in
theorem home26_some (A : Option Addr) (c : Nat) (l : List UInt8) (a : Nat) (w : World) (hr : Sl w 1 A l.length (bcells l)) (hl : l.length ≤ 64) (hh : homeOf l = some a) :
    Calls Try.prog 26 #[.slice A l.length c] w fun e w' => e = .returned (.tuple #[.int .i64 a, .bool true]) ∧ w = w' := by
  cases l with
  | nil => simp [homeOf] at hh
  | cons b rest =>
    have h8 : b.toNat < 8 ∧ a = b.toNat := by
      by_cases h : b.toNat < 8
      · simp [homeOf, h] at hh; omega
      · simp [homeOf, h] at hh
    obtain ⟨h8, rfl⟩ := h8
    obtain ⟨bb, o, rfl, _, hc⟩ := hr.byte (k := 0) (by simp)
    simp at hc
    have e0 : ((((b :: rest).length : Nat) : Int) == 0) = false := by simp; omega
    have h8' : ¬ (8 : Int) ≤ (b.toNat : Int) := by omega
    have hm0 : 0 < (b :: rest).length := by simp
    clear hr hh
    generalize (b :: rest).length = m at *
    go_enter Try.func26, Try.ntmps26
    go_wp2
    go_ret2
    exact ⟨rfl, rfl⟩

theorem cell_putObj (w : World) (M : Nat) (o : Obj) (b i : Nat) (h : b ≠ M) : (w.putObj M o).cell? ⟨b, i, none⟩ = w.cell? ⟨b, i, none⟩ :=
  World.cell?_of_block (World.putObj_heap_other h)
/-- Claim leaves one port more, or says that it could not. -/
def ClaimPost (base PB M : Nat) (qv : Value) (n : Int) (quotas : List Int) (xs : List Nat) (ps : List PortSt) (f : List Ts) (w : World) (e : Ending) (w' : World) : Prop :=
  e = .returned (.tuple #[.int .i64 ps.length, .int .i64 0]) ∧ ∃ X, w.heap.size ≤ X ∧ PortsAt w' base PB M qv n quotas (xs ++ [X]) (ps ++ [⟨f, [], 0, 0⟩]) ∧ w.grownBy w' (some M)

theorem claim_after {w w2 : World} {base PB M m B : Nat} {qv : Value} {quotas : List Int} {xs : List Nat} {ps : List PortSt} {f : List Ts} {A1 : Option Addr} {c1 : Nat} (h : PortsAt w base PB M qv (m : Int) quotas xs ps) (hbase : base ≤ w.heap.size)
    (hgr : w.grownBy ((w2.alloc (.cells #[.slice A1 f.length c1, .slice none 0 0, .slice none 0 0, .slice none 0 0, .slice none 0 0, .slice none 0 0, .slice none 0 0, .slice none 0 0, .slice none 0 0, .int .i64 0, .int .i64 0, .int .i64 0] 75)).putObj M (.map (ents (m : Int) (xs ++ [w2.heap.size]) 0).toArray (ps.length + 1))) (some M))
    (hM2 : (w2.alloc (.cells #[.slice A1 f.length c1, .slice none 0 0, .slice none 0 0, .slice none 0 0, .slice none 0 0, .slice none 0 0, .slice none 0 0, .slice none 0 0, .slice none 0 0, .int .i64 0, .int .i64 0, .int .i64 0] 75)).heap[M]? = some (.map (ents (m : Int) xs 0).toArray xs.length))
    (ho : w2.ownsRow B 45 3 (.slice A1 f.length c1) f.length (tsCells f)) (hs2 : w.heap.size ≤ w2.heap.size) :
    ClaimPost base PB M qv (m : Int) quotas xs ps f w (.returned (.tuple #[.int .i64 ps.length, .int .i64 0]))
      ((w2.alloc (.cells #[.slice A1 f.length c1, .slice none 0 0, .slice none 0 0, .slice none 0 0, .slice none 0 0, .slice none 0 0, .slice none 0 0, .slice none 0 0, .slice none 0 0, .int .i64 0, .int .i64 0, .int .i64 0] 75)).putObj M (.map (ents (m : Int) (xs ++ [w2.heap.size]) 0).toArray (ps.length + 1))) := by
  obtain ⟨ob, hob⟩ : ∃ ob, ob = Obj.cells #[.slice A1 f.length c1, .slice none 0 0, .slice none 0 0, .slice none 0 0, .slice none 0 0, .slice none 0 0, .slice none 0 0, .slice none 0 0, .slice none 0 0, .int .i64 0, .int .i64 0, .int .i64 0] 75 := ⟨_, rfl⟩
  rw [← hob] at hgr hM2 ⊢
  have hM : M < w.heap.size := (Array.getElem?_eq_some_iff.1 h.mp).1
  have hMl : M < (w2.alloc ob).heap.size := (Array.getElem?_eq_some_iff.1 hM2).1
  have hne : ∀ e v size n xs, w.ownsRow 0 e size v n xs → v.ownBlock = none ∨ v.ownBlock ≠ some M := fun e v size n xs ho => .inr (own_ne_map ho h.mp)
  have cells_ne : ∀ g t cs, Bk w g t cs → g ≠ M := by
    intro g t cs hb e
    have e2 := h.mp
    unfold Bk at hb
    rw [e, e2] at hb
    cases hb
  have hxlt : ∀ x ∈ xs, x < w.heap.size := by
    intro x hx
    obtain ⟨j, hj, e⟩ := List.getElem_of_mem hx
    have hj' : j < ps.length := by rw [← h.len]; exact hj
    obtain ⟨tv, rs, hb, _⟩ := h.port j x ps[j] (by rw [List.getElem?_eq_getElem hj, e]) (List.getElem?_eq_getElem hj')
    exact hb.lt
  refine ⟨rfl, w2.heap.size, hs2, ⟨?_, ?_, ?_, ?_, ?_, ?_, ?_⟩, hgr⟩
  · exact (hgr.block PB h.pb.lt (fun e => cells_ne _ _ _ h.pb (by injection e))).trans h.pb
  · exact h.qs.kept hgr (hne _ _ _ _ _ h.qs)
  · rw [World.putObj_heap_same hMl, List.length_append, h.len]; rfl
  · rw [List.length_append, List.length_append, h.len]; rfl
  · intro j x p hx hp
    rcases Nat.lt_trichotomy j xs.length with hj | hj | hj
    · rw [List.getElem?_append_left hj] at hx
      rw [List.getElem?_append_left (by rw [← h.len]; exact hj)] at hp
      have hP := h.port j x p hx hp
      refine hP.kept hgr (fun e => ?_) (fun e v size n xs _ ho => hne e v size n xs ho)
      obtain ⟨tv, rs, hb, _⟩ := hP
      exact cells_ne _ _ _ hb (by injection e)
    · subst hj
      rw [List.getElem?_append_right (Nat.le_refl _), Nat.sub_self] at hx
      rw [h.len, List.getElem?_append_right (Nat.le_refl _), Nat.sub_self] at hp
      simp only [List.getElem?_cons_zero, Option.some.injEq] at hx hp
      subst hx; subst hp
      have hnM : w2.heap.size ≠ M := by omega
      refine ⟨.slice A1 f.length c1, List.replicate 8 (.slice none 0 0), ?_, ?_, ⟨rfl, by show 0 < 8; omega, by show ([] : List (List UInt8)).length ≤ 8; simp, fun l hl => by simp at hl, fun i l hl => by simp at hl⟩⟩
      · show ((w2.alloc ob).putObj M _).heap[w2.heap.size]? = _
        rw [World.putObj_heap_other hnM, heap_alloc_new, hob]
        rfl
      · exact ((own_base ho (Nat.zero_le _)).alloc ob).kept (grownBy_putObj' _ M _) (.inr (own_ne_map ((own_base ho (Nat.zero_le _)).alloc ob) hM2))
    · rw [List.getElem?_eq_none (by simp; omega)] at hx
      cases hx
  · rw [List.nodup_append]
    refine ⟨h.nodup, by simp, ?_⟩
    intro a ha b hb e
    rw [List.mem_singleton.1 hb] at e
    have := hxlt a ha
    omega
  · refine ⟨h.lo.1, h.lo.2.1, fun x hx => ?_⟩
    rcases List.mem_append.1 hx with hx | hx
    · exact h.lo.2.2 x hx
    · rw [List.mem_singleton.1 hx]; omega

set_option maxRecDepth 100000 in
set_option maxHeartbeats 2000000 in
theorem claim10 {w : World} {base PB M : Nat} {qv : Value} {n : Int} {quotas : List Int} {xs : List Nat} {ps : List PortSt} (h : PortsAt w base PB M qv n quotas xs ps) (hbase : base ≤ w.heap.size)
    (A : Option Addr) (c : Nat) (f : List Ts) (hf : Sl w 3 A f.length (tsCells f)) (hm : mayF f = true) (h0 : 0 ≤ n) (h1 : n < quotas.length) (q : Int) (hq : quotas[n.toNat]? = some q) (hfree : (ps.length : Int) < q) (hps : ps.length ≤ 64) :
    Calls Try.prog 10 #[.pointer (some ⟨PB, 0, none⟩), .int .i64 n, .slice A f.length c] w (ClaimPost base PB M qv n quotas xs ps f w) := by
  have hlf : f.length ≤ 8 := by simp [mayF] at hm; exact hm.1
  obtain ⟨qA, qc, hqv⟩ := own_form h.qs
  have hacc := hid (account23 PB M qv n qA quotas.length qc w hqv h.pb h0 h1)
  have hck := check19 A c f w hf (by omega)
  rw [chkE_ok hm] at hck
  have HCK := hid hck
  have HPS := hid h
  have hPB := h.pb.lt
  have hM : M < w.heap.size := (Array.getElem?_eq_some_iff.1 h.mp).1
  have hlen := h.len
  obtain ⟨m, hm'⟩ := Int.eq_ofNat_of_zero_le h0
  subst hm'
  simp only [Int.toNat_natCast] at hq
  have c0 := h.pb.cell 0
  have cq := Sl.of_own (by rw [hqv] at h; exact h.qs)
  clear h hck hm
  go_enter Try.func10, Try.ntmps10
  go_wp2_with fail
  refine hacc.out.mono ?_
  rintro e w' ⟨rfl, rfl⟩
  go_wp2_with fail
  refine HCK.out.mono ?_
  rintro e w1 ⟨rfl, hb1⟩
  have d0 := (HPS.out.pb.below hb1 hPB).cell 0
  simp at d0
  rw [hqv] at d0
  obtain ⟨qb, qo, hqA, hqb, hqc⟩ := (cq.below hb1 (Nat.le_refl _)).at_ (by omega)
  have d1 := hqc m (.int .i64 q) (by simp [icells, hq])
  subst hqA
  clear hqc c0 hacc HCK
  have HB1 := hid hb1
  have hs1 := hb1.size
  clear hb1
  go_wp2_with fail
  go_loopw [30] (fun i wr => ∃ k : Nat, k ≤ ps.length ∧ i = .int .i64 k ∧ Below w.heap.size w wr) (fun i _ => ps.length + 1 - (intOf i).toNat)
  case atStart => exact ⟨0, Nat.zero_le _, rfl, HB1.out⟩
  case round =>
    obtain ⟨k, hk, rfl, hb⟩ := hrel
    clear d0 d1 hqb HB1 hs1
    have hbs := hb.size
    have hkq : (k : Int) < q := by omega
    have cp := (HPS.out.pb.below hb hPB).cell 1
    simp at cp
    have cp' : (wr.alloc (.cells #[.int .i64 (m : Int), .int .i64 (k : Int)] 70)).cell? ⟨PB, 1, none⟩ = some (.map (some M)) := by
      rw [World.cell?_alloc_lt _ _ _ (by show PB < _; omega)]; exact cp
    have hMr : (wr.alloc (.cells #[.int .i64 (m : Int), .int .i64 (k : Int)] 70)).heap[M]? = some (.map (ents (m : Int) xs 0).toArray xs.length) :=
      (Below.heap_alloc _ _ _ (by omega)).trans ((hb.block M hM).trans HPS.out.mp)
    have hlk := fun j => run_lookup56 (m : Int) m k M xs xs.length ((wr.alloc (.cells #[.int .i64 (m : Int), .int .i64 (k : Int)] 70)).drewN j) hMr
    unfold keyV at hlk
    have HB := hid hb
    have HMR := hid hMr
    clear hb hMr
    by_cases hlt : k < ps.length
    · have hpt : ptrAt (m : Int) xs m k = some ⟨xs[k]'(by omega), 0, none⟩ := by simp [ptrAt, show k < xs.length by omega]
      rw [hpt] at hlk
      clear hpt
      go_wp2_with fail
      go_quiet (fail)
      go_wp2_with fail
      exact ⟨⟨k + 1, by omega, by go_num, Below.drN (HB.out.alloc hbs _) nq⟩, by simp [intOf]; omega⟩
    · obtain rfl : k = ps.length := by omega
      have hpt : ptrAt (m : Int) xs m (ps.length : Int) = none := by simp [ptrAt, show xs.length ≤ ps.length by omega]
      rw [hpt] at hlk
      clear hpt
      go_wp2_with fail
      go_quiet (fail)
      go_wp2_with fail
      generalize hW : (wr.alloc (.cells #[.int .i64 (m : Int), .int .i64 (ps.length : Int)] 70)).drewN nq = W0
      have a1 : W0.cell? ⟨PB, 1, none⟩ = some (.map (some M)) := by rw [← hW]; exact cp'
      have a2 : W0.cell? ⟨wr.heap.size, 0, none⟩ = some (.int .i64 (m : Int)) := by rw [← hW]; exact cell_of_row _ _ 0 _ 70 (0, 0) (heap_alloc_new wr _)
      have a3 : W0.cell? ⟨wr.heap.size, 1, none⟩ = some (.int .i64 (ps.length : Int)) := by rw [← hW]; exact cell_of_row _ _ 1 _ 70 (0, 0) (heap_alloc_new wr _)
      have hWM : W0.heap[M]? = some (.map (ents (m : Int) xs 0).toArray xs.length) := by rw [← hW]; exact HMR.out
      have HWM := hid hWM
      have HWB : Hid (Below w.heap.size w W0) := by show Below _ _ _; rw [← hW]; exact Below.drN (HB.out.alloc hbs _) nq
      have hsz : wr.heap.size < W0.heap.size := by rw [← hW]; simp
      have hWf := hid (hf.below HWB.out (Nat.le_refl _))
      have hPB0 : PB < W0.heap.size := by omega
      have hPM : PB ≠ M := by
        intro e
        have e1 := HPS.out.pb
        have e2 := HPS.out.mp
        rw [e] at e1
        unfold Bk at e1
        rw [e1] at e2
        cases e2
      clear hW hlk cp cp' HMR HB hWM hf cq
      go_region_held3 (fun w' => w'.cell? ⟨PB, 1, none⟩ = some (.map (some M)) ∧ w'.cell? ⟨wr.heap.size, 0, none⟩ = some (.int .i64 (m : Int)) ∧ w'.cell? ⟨wr.heap.size, 1, none⟩ = some (.int .i64 (ps.length : Int))) (first | exact ⟨k1, k2, k3⟩ | exact ⟨l1, l2, l3⟩ | exact ⟨n1, n2, n3⟩ | go_keep)
        (first | (go_at_call 24; refine (clone24 A f.length c (tsCells f) _ hWf.out.drew (tsCells_one f) (by omega)).mono ?_; rintro e w2 ⟨v1, rfl, hown1, hb1⟩; obtain ⟨A1, c1, rfl⟩ := own_form hown1; obtain ⟨bc, bf⟩ := bcell hb1; have k1 := (bc PB 1 hPB0).trans a1; have k2 := (bc wr.heap.size 0 hsz).trans a2; have k3 := (bc wr.heap.size 1 hsz).trans a3; have hw2 : W0.heap.size ≤ w2.heap.size := hb1.size; have hM2 : (w2.alloc (.cells #[.slice A1 f.length c1, .slice none 0 0, .slice none 0 0, .slice none 0 0, .slice none 0 0, .slice none 0 0, .slice none 0 0, .slice none 0 0, .slice none 0 0, .int .i64 0, .int .i64 0, .int .i64 0] 75)).heap[M]? = some (.map (ents (m : Int) xs 0).toArray xs.length) := (Below.heap_alloc _ _ _ (by omega)).trans ((hb1.block M (by show M < W0.heap.size; omega)).trans HWM.out); have hmu := run_mapUpdate56 (m : Int) M w2.heap.size xs _ hM2; unfold keyV at hmu; rw [hlen] at hmu; have l1 := (World.cell?_alloc_lt w2 (.cells #[.slice A1 f.length c1, .slice none 0 0, .slice none 0 0, .slice none 0 0, .slice none 0 0, .slice none 0 0, .slice none 0 0, .slice none 0 0, .slice none 0 0, .int .i64 0, .int .i64 0, .int .i64 0] 75) ⟨PB, 1, none⟩ (by show PB < _; omega)).trans k1; have l2 := (World.cell?_alloc_lt w2 (.cells #[.slice A1 f.length c1, .slice none 0 0, .slice none 0 0, .slice none 0 0, .slice none 0 0, .slice none 0 0, .slice none 0 0, .slice none 0 0, .slice none 0 0, .int .i64 0, .int .i64 0, .int .i64 0] 75) ⟨wr.heap.size, 0, none⟩ (by show wr.heap.size < _; omega)).trans k2; have l3 := (World.cell?_alloc_lt w2 (.cells #[.slice A1 f.length c1, .slice none 0 0, .slice none 0 0, .slice none 0 0, .slice none 0 0, .slice none 0 0, .slice none 0 0, .slice none 0 0, .slice none 0 0, .int .i64 0, .int .i64 0, .int .i64 0] 75) ⟨wr.heap.size, 1, none⟩ (by show wr.heap.size < _; omega)).trans k3; have n1 := (cell_putObj _ M (.map (ents (m : Int) (xs ++ [w2.heap.size]) 0).toArray (ps.length + 1)) PB 1 hPM).trans l1; have n2 := (cell_putObj _ M (.map (ents (m : Int) (xs ++ [w2.heap.size]) 0).toArray (ps.length + 1)) wr.heap.size 0 (by omega)).trans l2; have n3 := (cell_putObj _ M (.map (ents (m : Int) (xs ++ [w2.heap.size]) 0).toArray (ps.length + 1)) wr.heap.size 1 (by omega)).trans l3; have HM2 := hid hM2; clear hM2) | fail)
      have hB0 : Below W0.heap.size W0 w2 := ⟨hb1.os, hb1.tape, hb1.output, hb1.size, hb1.block⟩
      have HO1 := hid hown1
      have HB2 := hid (HWB.out.trans (hB0.mono HWB.out.size))
      clear bc bf hown1 hb1 hB0 k1 k2 k3 l1 l2 l3 n1 n2 n3 a1 a2 a3 hmu hWf
      go_wp2_with fail
      go_ret2
      have hs2 := HB2.out.size
      have hgr : w.grownBy ((w2.alloc (.cells #[.slice A1 f.length c1, .slice none 0 0, .slice none 0 0, .slice none 0 0, .slice none 0 0, .slice none 0 0, .slice none 0 0, .slice none 0 0, .slice none 0 0, .int .i64 0, .int .i64 0, .int .i64 0] 75)).putObj M (.map (ents (m : Int) (xs ++ [w2.heap.size]) 0).toArray (ps.length + 1))) (some M) := by
        have hb := HB2.out.alloc hs2 (.cells #[.slice A1 f.length c1, .slice none 0 0, .slice none 0 0, .slice none 0 0, .slice none 0 0, .slice none 0 0, .slice none 0 0, .slice none 0 0, .slice none 0 0, .int .i64 0, .int .i64 0, .int .i64 0] 75)
        exact World.grownBy.trans ⟨hb.os, hb.tape, hb.output, hb.size, fun j hj _ => hb.block j hj⟩ (grownBy_putObj' _ M _)
      exact claim_after HPS.out hbase hgr HM2.out HO1.out hs2
end Go.Proofs.Ythgfmkdgemepnaa
