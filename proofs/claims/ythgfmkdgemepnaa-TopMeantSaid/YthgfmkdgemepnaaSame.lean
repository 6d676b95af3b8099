/- steadingref12.SameRing. -/
import Derived.Test.YthgfmkdgemepnaaPackets
import Derived.Test.YthgfmkdgemepnaaMay
namespace Go.Proofs.Ythgfmkdgemepnaa
open Go.RowKit

/-- Slices that read as the byte lists r. -/
structure SlsOf (w : World) (vs : List Value) (r : List (List UInt8)) : Prop where
  len : vs.length = r.length
  at_ : ∀ (i : Nat) (l : List UInt8), r[i]? = some l → ∃ (A : Option Addr) (c : Nat), vs[i]? = some (Value.slice A l.length c) ∧ Sl w 1 A l.length (bcells l)
theorem SlsOf.of_rows {w : World} {vs : List Value} {r : List (List UInt8)} (h : RowsOf w vs r) : SlsOf w vs r :=
  ⟨h.len, fun i l hl => by
    obtain ⟨A, c, h1, h2⟩ := h.at_ i l hl
    exact ⟨A, c, h1, Sl.of_own h2⟩⟩

theorem Sl.str {w : World} {A : Option Addr} {l : List UInt8} (h : Sl w 1 A l.length (bcells l)) (c : Nat) : (convert 39 9 (.slice A l.length c)).run Try.prog w = .ok (.string ⟨l.toArray⟩) w := by
  rcases A with _ | a
  · have hl : l = [] := by
      rcases Nat.eq_zero_or_pos l.length with h0 | h0
      · exact List.eq_nil_of_length_eq_zero h0
      · obtain ⟨_, _, e, _⟩ := h.at_ h0
        cases e
    subst hl
    show (convert 39 9 (.slice none 0 c)).run Try.prog w = _
    rw [run_convert_bytes_string w 39 9 5 none 0 c Try.underlying39 Try.underlying5 Try.underlying9]
    simp [Conv.bytesToString]
    rfl
  · refine run_convert_bytes_back w 39 9 5 a c l Try.underlying39 Try.underlying5 Try.underlying9 fun j hj => ?_
    obtain ⟨b, o, e, _, hc⟩ := h.at_ (by omega)
    injection e with e
    subst e
    rw [Addr.add_lit]
    exact hc j _ (by simp [bcells, List.getElem?_eq_getElem hj])

theorem str_ne {l m : List UInt8} : ((⟨l.toArray⟩ : ByteArray) = ⟨m.toArray⟩) ↔ l = m := by
  constructor
  · intro h
    have h1 : l.toArray = m.toArray := by injection h
    simpa using h1
  · rintro rfl; rfl

set_option maxRecDepth 100000 in
set_option maxHeartbeats 2000000 in
theorem same14 (A B : Option Addr) (c d : Nat) (vs us : List Value) (r s : List (List UInt8)) (w : World) (hA : Sl w 1 A vs.length vs) (hB : Sl w 1 B us.length us) (hr : SlsOf w vs r) (hs : SlsOf w us s) (hn : r.length ≤ 4096) (hm : s.length ≤ 4096) :
    Calls Try.prog 14 #[.slice A vs.length c, .slice B us.length d] w fun e w' => e = .returned (.bool (decide (r = s))) ∧ Below w.heap.size w w' := by
  have hvl := hr.len
  have hul := hs.len
  by_cases hlen : vs.length = us.length
  case neg =>
    have hno : decide (r = s) = false := by
      rw [decide_eq_false_iff_not]
      rintro rfl
      omega
    rw [hno]
    clear hno
    go_enter Try.func14, Try.ntmps14
    go_wp2
    go_ret
    exact ⟨rfl, Below.refl _ _⟩
  case pos =>
    have hrs : r.length = s.length := by omega
    have HR := hid hr
    have HS := hid hs
    have HRS := hid hrs
    have HV := hid hvl
    generalize hN : vs.length = N at *
    have hus : us.length = N := hlen.symm
    rw [hus] at hB ⊢
    have hrN : r.length = N := hvl.symm
    have hsN : s.length = N := by omega
    have HN := hid hN
    have HUS := hid hus
    have HRN := hid hrN
    have HSN := hid hsN
    have hNb : N ≤ 4096 := by omega
    clear hN hus hlen hvl hul hrs hr hs hrN hsN hn hm
    go_enter Try.func14, Try.ntmps14
    go_wp2
    go_loopw [5] (fun i wr => ∃ k : Nat, k ≤ N ∧ i = .int .i64 k ∧ r.take k = s.take k ∧ Below w.heap.size w wr) (fun i _ => N - (intOf i).toNat)
    case atStart => exact ⟨0, Nat.zero_le _, rfl, rfl, Below.refl _ _⟩
    case round =>
      obtain ⟨k, hk, rfl, heq, hb⟩ := hrel
      have HEQ := hid heq
      have HB := hid hb
      clear heq
      by_cases hlt : k < N
      · obtain ⟨x, hx⟩ : ∃ x, r[k]? = some x := ⟨_, List.getElem?_eq_getElem (by rw [HRN.out]; exact hlt)⟩
        obtain ⟨y, hy⟩ : ∃ y, s[k]? = some y := ⟨_, List.getElem?_eq_getElem (by rw [HSN.out]; exact hlt)⟩
        obtain ⟨XA, xc, hxv, hxs⟩ := HR.out.at_ k x hx
        obtain ⟨YA, yc, hyv, hys⟩ := HS.out.at_ k y hy
        obtain ⟨b, o, rfl, _, hc⟩ := (hA.below hb (Nat.le_refl _)).at_ (by omega)
        obtain ⟨b', o', rfl, _, hc'⟩ := (hB.below hb (Nat.le_refl _)).at_ (by omega)
        have c1 := hc k _ hxv
        have c2 := hc' k _ hyv
        have q1 := fun j => (show Sl (wr.drewN j) 1 XA x.length (bcells x) from ⟨(hxs.below hb (Nat.le_refl _)).len, (hxs.below hb (Nat.le_refl _)).at_⟩).str xc
        have q2 := fun j => (show Sl (wr.drewN j) 1 YA y.length (bcells y) from ⟨(hys.below hb (Nat.le_refl _)).len, (hys.below hb (Nat.le_refl _)).at_⟩).str yc
        have HX := hid hx
        have HY := hid hy
        clear hb hc hc' hxv hyv hxs hys hx hy
        go_wp2
        go_quiet (fail)
        go_wp2
        · rename_i hq
          go_ret
          have hno : decide (r = s) = false := by
            rw [decide_eq_false_iff_not]
            intro e
            have hxy : x = y := by
              have h1 := HX.out
              rw [e, HY.out] at h1
              injection h1 with h1
              exact h1.symm
            subst hxy
            simp at hq
          exact ⟨ret_bool hno.symm, Below.drN HB.out nq⟩
        · rename_i hq
          have hxy : x = y := by
            refine Classical.byContradiction fun hne => ?_
            first
              | exact hne (str_ne.1 (by simpa using hq))
              | (simp [str_ne] at hq; exact hne hq)
          refine ⟨⟨k + 1, by omega, by go_num, ?_, Below.drN HB.out nq⟩, by simp [intOf]; omega⟩
          rw [List.take_add_one, List.take_add_one, HX.out, HY.out, HEQ.out, hxy]
      · obtain rfl : k = N := by omega
        have hyes : decide (r = s) = true := by
          rw [decide_eq_true_eq]
          have := HEQ.out
          rwa [List.take_of_length_le (by rw [HRN.out]; exact Nat.le_refl _), List.take_of_length_le (by rw [HSN.out]; exact Nat.le_refl _)] at this
        have HYES := hid hyes
        clear hyes
        go_wp2
        go_ret
        exact ⟨ret_bool HYES.out.symm, HB.out⟩
end Go.Proofs.Ythgfmkdgemepnaa
