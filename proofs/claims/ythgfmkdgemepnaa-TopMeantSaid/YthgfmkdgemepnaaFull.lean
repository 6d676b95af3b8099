/- ports.Claim where the account has as many ports as it may. -/
import Derived.Test.YthgfmkdgemepnaaClaim
namespace Go.Proofs.Ythgfmkdgemepnaa
open Go.RowKit

set_option maxRecDepth 100000 in
set_option maxHeartbeats 2000000 in
theorem claim10_full {w : World} {base PB M : Nat} {qv : Value} {n : Int} {quotas : List Int} {xs : List Nat} {ps : List PortSt} (h : PortsAt w base PB M qv n quotas xs ps) (hbase : base ≤ w.heap.size)
    (A : Option Addr) (c : Nat) (f : List Ts) (hf : Sl w 3 A f.length (tsCells f)) (hm : mayF f = true) (h0 : 0 ≤ n) (h1 : n < quotas.length) (q : Int) (hq : quotas[n.toNat]? = some q) (hfree : q ≤ (ps.length : Int)) (hfree2 : (ps.length : Int) ≤ q) (hps : ps.length ≤ 64) :
    Calls Try.prog 10 #[.pointer (some ⟨PB, 0, none⟩), .int .i64 n, .slice A f.length c] w fun e w' => e = .returned (.tuple #[.int .i64 0, .int .i64 5]) ∧ Below w.heap.size w w' := by
  have hlf : f.length ≤ 8 := by simp [mayF] at hm; exact hm.1
  obtain ⟨qA, qc, hqv⟩ := own_form h.qs
  have hacc := hid (account23 PB M qv n qA quotas.length qc w hqv h.pb h0 h1)
  have hck := check19 A c f w hf (by omega)
  rw [chkE_ok hm] at hck
  have HCK := hid hck
  have HPS := hid h
  have hPB := h.pb.lt
  have hM : M < w.heap.size := (Array.getElem?_eq_some_iff.1 h.mp).1
  have hlen := h.len
  obtain ⟨m, hm'⟩ := Int.eq_ofNat_of_zero_le h0
  subst hm'
  simp only [Int.toNat_natCast] at hq
  have c0 := h.pb.cell 0
  have cq := Sl.of_own (by rw [hqv] at h; exact h.qs)
  clear h hck hm
  go_enter Try.func10, Try.ntmps10
  go_wp2_with fail
  refine hacc.out.mono ?_
  rintro e w' ⟨rfl, rfl⟩
  go_wp2_with fail
  refine HCK.out.mono ?_
  rintro e w1 ⟨rfl, hb1⟩
  have d0 := (HPS.out.pb.below hb1 hPB).cell 0
  simp at d0
  rw [hqv] at d0
  obtain ⟨qb, qo, hqA, hqb, hqc⟩ := (cq.below hb1 (Nat.le_refl _)).at_ (by omega)
  have d1 := hqc m (.int .i64 q) (by simp [icells, hq])
  subst hqA
  clear hqc c0 hacc HCK
  have HB1 := hid hb1
  have hs1 := hb1.size
  clear hb1
  go_wp2_with fail
  go_loopw [30] (fun i wr => ∃ k : Nat, k ≤ ps.length ∧ i = .int .i64 k ∧ Below w.heap.size w wr) (fun i _ => ps.length + 1 - (intOf i).toNat)
  case atStart => exact ⟨0, Nat.zero_le _, rfl, HB1.out⟩
  case round =>
    obtain ⟨k, hk, rfl, hb⟩ := hrel
    clear d0 d1 hqb HB1 hs1
    have hbs := hb.size
    by_cases hlt : k < ps.length
    · have hkq : (k : Int) < q := by omega
      have cp := (HPS.out.pb.below hb hPB).cell 1
      simp at cp
      have cp' : (wr.alloc (.cells #[.int .i64 (m : Int), .int .i64 (k : Int)] 70)).cell? ⟨PB, 1, none⟩ = some (.map (some M)) := by
        rw [World.cell?_alloc_lt _ _ _ (by show PB < _; omega)]; exact cp
      have hMr : (wr.alloc (.cells #[.int .i64 (m : Int), .int .i64 (k : Int)] 70)).heap[M]? = some (.map (ents (m : Int) xs 0).toArray xs.length) :=
        (Below.heap_alloc _ _ _ (by omega)).trans ((hb.block M hM).trans HPS.out.mp)
      have hlk := fun j => run_lookup56 (m : Int) m k M xs xs.length ((wr.alloc (.cells #[.int .i64 (m : Int), .int .i64 (k : Int)] 70)).drewN j) hMr
      unfold keyV at hlk
      have HB := hid hb
      have HMR := hid hMr
      clear hb hMr
      have hpt : ptrAt (m : Int) xs m k = some ⟨xs[k]'(by omega), 0, none⟩ := by simp [ptrAt, show k < xs.length by omega]
      rw [hpt] at hlk
      clear hpt
      go_wp2_with fail
      go_quiet (fail)
      go_wp2_with fail
      exact ⟨⟨k + 1, by omega, by go_num, Below.drN (HB.out.alloc hbs _) nq⟩, by simp [intOf]; omega⟩
    · have hkq : ¬ (k : Int) < q := by omega
      have HB := hid hb
      clear hb
      go_wp2_with fail
      go_ret2
      exact ⟨rfl, HB.out⟩
end Go.Proofs.Ythgfmkdgemepnaa
