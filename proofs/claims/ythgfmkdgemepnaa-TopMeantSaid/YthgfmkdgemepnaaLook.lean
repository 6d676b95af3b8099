/- Look, Take. -/
import Derived.Test.YthgfmkdgemepnaaPut
namespace Go.Proofs.Ythgfmkdgemepnaa
open Go.RowKit

theorem ring_first {w : World} {rs : List Value} {first : Nat} {l : List UInt8} {rest : List (List UInt8)} (hr : RingOk w rs first (l :: rest)) :
    ∃ A c, rs[first]? = some (.slice A l.length c) ∧ w.ownsRow 0 5 1 (.slice A l.length c) l.length (bcells l) := by
  obtain ⟨A, c, h1, h2⟩ := hr.at_ 0 l rfl
  have := hr.fst
  rw [Nat.add_zero, Nat.mod_eq_of_lt this] at h1
  exact ⟨A, c, h1, h2⟩

set_option maxRecDepth 100000 in
set_option maxHeartbeats 1000000 in
theorem look34_some {w : World} {base PB M : Nat} {qv : Value} {n : Int} {quotas : List Int} {xs : List Nat} {ps : List PortSt} (h : PortsAt w base PB M qv n quotas xs ps) (k : Nat) (p : PortSt) (hp : ps[k]? = some p) (h0 : 0 ≤ n) (h1 : n < quotas.length)
    (l : List UInt8) (rest : List (List UInt8)) (hr : p.ring = l :: rest) :
    Calls Try.prog 34 #[.pointer (some ⟨PB, 0, none⟩), .int .i64 n, .int .i64 k] w fun e w' => ∃ v, e = .returned (.tuple #[v, .int .i64 0]) ∧ w'.ownsRow w.heap.size 5 1 v l.length (bcells l) ∧ Below w.heap.size w w' := by
  obtain ⟨X, hx, ⟨tv, rs, hb, _, hri⟩, _⟩ := h.ptr hp
  have hg := hid (get33 h k X hx h0 h1)
  have c9 := hb.cell 9
  rw [pc_first hri.len] at c9
  have c10 := hb.cell 10
  rw [pc_n hri.len] at c10
  have hlen : ((p.ring.length : Nat) : Int) = (rest.length : Int) + 1 := by rw [hr]; simp
  rw [hlen] at c10
  have hri2 := hri
  rw [hr] at hri2
  obtain ⟨A, c, hA, hown⟩ := ring_first hri2
  have ct := hb.cell (1 + p.first)
  rw [pc_ring hA] at ct
  have hfst := hri.fst
  have hl : l.length ≤ 64 := hri2.short l (List.mem_cons_self ..)
  have hsl := hid (Sl.of_own hown)
  have hX := hb.lt
  have hf1 : (p.first : Int) < 8 := by omega
  have hf0 : (0 : Int) ≤ (p.first : Int) := by omega
  have e0 : (((rest.length : Nat) : Int) + 1 == 0) = false := by simp; omega
  clear hx hp h hb hri hri2 hr hA hown hlen
  generalize p.first = first at *
  go_enter Try.func34, Try.ntmps34
  go_wp2_with fail
  refine hg.out.mono ?_
  rintro e w' ⟨rfl, rfl⟩
  clear hg
  go_wp2_with fail
  go_region_held3 (fun w' => w'.cell? ⟨X, 9, none⟩ = some (.int .i64 first) ∧ w'.cell? ⟨X, 1 + first, none⟩ = some (.slice A l.length c)) (go_keep)
    (first | (go_at_call 43; refine (clone43 A l.length c (bcells l) _ (hsl.out.drew) (bcells_one l) (by omega)).mono ?_; rintro e w1 ⟨v1, rfl, hown1, hb1⟩; obtain ⟨bc, bf⟩ := bcell hb1; have k1 := (bc X (1 + first) hX).trans ct; have k9 := (bc X 9 hX).trans c9))
  have hb1' : Below w.heap.size w w1 := ⟨hb1.os, hb1.tape, hb1.output, hb1.size, hb1.block⟩
  have HO := hid (show w1.ownsRow w.heap.size 5 1 v1 l.length (bcells l) from hown1)
  clear bc bf hown1 hb1 ct c9 c10 k1 k9
  go_wp2_with fail
  go_ret2
  exact ⟨_, rfl, HO.out, hb1'⟩

set_option maxRecDepth 100000 in
set_option maxHeartbeats 1000000 in
theorem look34_none {w : World} {base PB M : Nat} {qv : Value} {n : Int} {quotas : List Int} {xs : List Nat} {ps : List PortSt} (h : PortsAt w base PB M qv n quotas xs ps) (k : Nat) (p : PortSt) (hp : ps[k]? = some p) (h0 : 0 ≤ n) (h1 : n < quotas.length)
    (hr : p.ring = []) :
    Calls Try.prog 34 #[.pointer (some ⟨PB, 0, none⟩), .int .i64 n, .int .i64 k] w fun e w' => e = .returned (.tuple #[.slice none 0 0, .int .i64 6]) ∧ w = w' := by
  obtain ⟨X, hx, ⟨tv, rs, hb, _, hri⟩, _⟩ := h.ptr hp
  have hg := hid (get33 h k X hx h0 h1)
  have c10 := hb.cell 10
  rw [pc_n hri.len, hr] at c10
  simp at c10
  clear hx hp h hb hri hr
  go_enter Try.func34, Try.ntmps34
  go_wp2_with fail
  refine hg.out.mono ?_
  rintro e w' ⟨rfl, rfl⟩
  clear hg
  go_wp2_with fail
  go_ret2
  exact ⟨rfl, rfl⟩

/-- What Take leaves of a port. -/
def takeSt (p : PortSt) : PortSt := { p with ring := p.ring.tail, first := (p.first + 1) % 8 }

set_option maxRecDepth 100000 in
set_option maxHeartbeats 1000000 in
theorem take16_none {w : World} {base PB M : Nat} {qv : Value} {n : Int} {quotas : List Int} {xs : List Nat} {ps : List PortSt} (h : PortsAt w base PB M qv n quotas xs ps) (k : Nat) (p : PortSt) (hp : ps[k]? = some p) (h0 : 0 ≤ n) (h1 : n < quotas.length)
    (hr : p.ring = []) :
    Calls Try.prog 16 #[.pointer (some ⟨PB, 0, none⟩), .int .i64 n, .int .i64 k] w fun e w' => e = .returned (.tuple #[.slice none 0 0, .int .i64 6]) ∧ w = w' := by
  have hg := hid (look34_none h k p hp h0 h1 hr)
  clear h hp hr
  go_enter Try.func16, Try.ntmps16
  go_wp2_with fail
  refine hg.out.mono ?_
  rintro e w' ⟨rfl, rfl⟩
  clear hg
  go_wp2_with fail
  go_ret2
  exact ⟨rfl, rfl⟩

set_option maxRecDepth 100000 in
set_option maxHeartbeats 1000000 in
theorem take16_some {w : World} {base PB M : Nat} {qv : Value} {n : Int} {quotas : List Int} {xs : List Nat} {ps : List PortSt} (h : PortsAt w base PB M qv n quotas xs ps) (k X : Nat) (p : PortSt) (hp : ps[k]? = some p) (hx : xs[k]? = some X) (h0 : 0 ≤ n) (h1 : n < quotas.length)
    (l : List UInt8) (rest : List (List UInt8)) (hr : p.ring = l :: rest) :
    Calls Try.prog 16 #[.pointer (some ⟨PB, 0, none⟩), .int .i64 n, .int .i64 k] w fun e w' => ∃ v, e = .returned (.tuple #[v, .int .i64 0]) ∧ w'.ownsRow w.heap.size 5 1 v l.length (bcells l) ∧ PortAt w' X (takeSt p) ∧ w.grownBy w' (some X) := by
  have hg := hid (look34_some h k p hp h0 h1 l rest hr)
  obtain ⟨tv, rs, hb, ht, hri⟩ := h.port k X p hx hp
  have hpt : ptrAt n xs n k = some ⟨X, 0, none⟩ := by simp [ptrAt, hx]
  have hfst := hri.fst
  have hX := hb.lt
  have hPB := h.pb.lt
  have hM : M < w.heap.size := (Array.getElem?_eq_some_iff.1 h.mp).1
  have hmp := hid h.mp
  have hpb := hid h.pb
  obtain ⟨k2, hk2⟩ : ∃ k2, k2 = (p.first + 1) % 8 := ⟨_, rfl⟩
  have HB := hid hb
  have HT := hid ht
  have HR := hid hri
  have HK2 := hid hk2
  have HP := hid hr
  have HX := hid hpt
  have hfew := hri.few
  rw [hr] at hfew
  simp only [List.length_cons] at hfew
  have hf9 : (p.first : Int) < 8 := by omega
  have hlen : ((p.ring.length : Nat) : Int) = (rest.length : Int) + 1 := by rw [hr]; simp
  have HL := hid hlen
  have hs2 : ((p.first : Int) + 1) % 8 = (k2 : Int) := by omega
  have hs3 : Int.tmod ((p.first : Int) + 1) 8 = (k2 : Int) := by rw [Int.tmod_eq_emod_of_nonneg (by omega)]; omega
  clear hx hp h hb hri hr hlen ht hk2 hpt
  go_enter Try.func16, Try.ntmps16
  go_wp2_with fail
  refine hg.out.mono ?_
  rintro e w1 ⟨v1, rfl, hown1, hb1⟩
  clear hg
  obtain ⟨A1, c1, rfl⟩ := own_form hown1
  have hB1 := hid (HB.out.below hb1 hX)
  have c9 := hB1.out.cell 9
  rw [pc_first HR.out.len] at c9
  have c10 := hB1.out.cell 10
  rw [pc_n HR.out.len, HL.out] at c10
  have z9 := hB1.out.froz 9
  have z10 := hB1.out.froz 10
  have cp := (hpb.out.below hb1 hPB).cell 1
  simp at cp
  have hlk := run_lookup56 n n k M xs xs.length w1 ((hb1.block M hM).trans hmp.out)
  rw [HX.out] at hlk
  unfold keyV at hlk
  have HO := hid hown1
  have HBB := hid hb1
  clear hown1 hb1
  go_wp2_with fail
  go_ret2
  have hgr : w.grownBy w1 (some X) := ⟨HBB.out.os, HBB.out.tape, HBB.out.output, HBB.out.size, fun j hj _ => HBB.out.block j hj⟩
  have hne : ∀ e v size n xs, e ≠ 75 → w1.ownsRow 0 e size v n xs → v.ownBlock ≠ some X := fun e v size n xs he h => own_ne h hB1.out he
  have hB2 := (hB1.out.set_ 9 (.int .i64 (k2 : Int))).set_ 10 (.int .i64 ((rest.length : Nat) : Int))
  rw [pc_set_first HR.out.len, pc_set_n HR.out.len] at hB2
  have kept : ∀ base e v size n xs, e ≠ 75 → w1.ownsRow base e size v n xs → ((w1.setCell ⟨X, 9, none⟩ (.int .i64 (k2 : Int))).setCell ⟨X, 10, none⟩ (.int .i64 ((rest.length : Nat) : Int))).ownsRow base e size v n xs :=
    fun base e v size n xs he h => h.kept ((grownBy_set w1 X 9 _).trans (grownBy_set _ X 10 _)) (.inr (hne e v size n xs he (own_base h (Nat.zero_le _))))
  have hR1 := HR.out.kept hgr (fun v n xs h => .inr (own_ne h HB.out (by decide)))
  have hT1 := own_below HT.out HBB.out (Nat.le_refl _)
  refine ⟨_, rfl, kept _ _ _ _ _ _ (by decide) HO.out, ⟨tv, rs, ?_, kept _ _ _ _ _ _ (by decide) hT1, ⟨hR1.len, ?_, ?_, ?_, ?_⟩⟩, (hgr.trans (grownBy_set _ _ _ _)).trans (grownBy_set _ _ _ _)⟩
  · show Bk _ _ _ (portCells tv rs ((p.first + 1) % 8) p.ring.tail.length p.lost)
    rw [← HK2.out, HP.out]
    exact hB2
  · show (p.first + 1) % 8 < 8
    omega
  · show p.ring.tail.length ≤ 8
    rw [HP.out]
    simp only [List.tail_cons]
    omega
  · intro x hx
    exact HR.out.short x (List.mem_of_mem_tail hx)
  · intro i x hx
    have hx' : p.ring.tail[i]? = some x := hx
    have hx2 : p.ring[i + 1]? = some x := by
      rw [HP.out] at hx' ⊢
      simpa using hx'
    obtain ⟨A2, c2, e1, e2⟩ := hR1.at_ (i + 1) x hx2
    refine ⟨A2, c2, ?_, kept _ _ _ _ _ _ (by decide) e2⟩
    show rs[((p.first + 1) % 8 + i) % 8]? = _
    rw [show ((p.first + 1) % 8 + i) % 8 = (p.first + (i + 1)) % 8 by omega]
    exact e1
end Go.Proofs.Ythgfmkdgemepnaa
