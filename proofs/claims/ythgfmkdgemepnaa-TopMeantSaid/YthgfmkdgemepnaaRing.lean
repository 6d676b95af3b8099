/- Ring and its closure. -/
import Derived.Test.YthgfmkdgemepnaaCome
import Derived.Test.YthgfmkdgemepnaaSame
namespace Go.Proofs.Ythgfmkdgemepnaa
open Go.RowKit Go.Shelf
attribute [local go_sem] Oper.semAt_some

set_option maxRecDepth 100000 in
theorem ring32 (v : Value) (X : Option Addr) (hv : v = .pointer X) (n k : Int) (w : World) :
    Calls Try.prog 32 #[v, .int .i64 n, .int .i64 k] w fun e w' => e = .returned (.func (.func 45) #[] #[.pointer (some ⟨w.heap.size, 0, none⟩), .pointer (some ⟨w.heap.size + 1, 0, none⟩), .pointer (some ⟨w.heap.size + 2, 0, none⟩)]) ∧
      w' = ((w.alloc (.cells #[v] 27)).alloc (.cells #[.int .i64 n] 3)).alloc (.cells #[.int .i64 k] 3) := by
  subst hv
  go_enter Try.func32, Try.ntmps32
  go_wp2
  go_ret
  exact ⟨rfl, rfl⟩

set_option maxRecDepth 100000 in
set_option maxHeartbeats 2000000 in
/-- Ring's closure: it hands the ring's packets on, in order. -/
theorem ring45 {w : World} {base PB M : Nat} {qv : Value} {n : Int} {quotas : List Int} {xs : List Nat} {ps : List PortSt} (h : PortsAt w base PB M qv n quotas xs ps) (k : Nat) (X : Nat) (p : PortSt) (hx : xs[k]? = some X) (hp : ps[k]? = some p) (h0 : 0 ≤ n) (h1 : n < quotas.length)
    (m l B0 B1 B2 : Nat) (Inv : World → Value → List Value → Nat → World → Prop)
    (hb0 : Bk w B0 27 #[.pointer (some ⟨PB, 0, none⟩)]) (hb1 : Bk w B1 3 #[.int .i64 n]) (hb2 : Bk w B2 3 #[.int .i64 (k : Int)])
    (hI0 : ∀ W46 v vs, W46.ownsRow w.heap.size 39 1 v p.ring.length vs → RowsOf W46 vs p.ring → Below w.heap.size w W46 → Inv W46 v vs 0 W46)
    (hI1 : ∀ W46 v vs i W1, Inv W46 v vs i W1 → W1.ownsRow 0 39 1 v p.ring.length vs ∧ RowsOf W1 vs p.ring)
    (hY : ∀ W46 v vs i W1 u, Inv W46 v vs i W1 → vs[i]? = some u → YieldAt Fence.wide (m - 1) Try.prog l #[.int .i64 i, u] W1 fun e W' => e = .returned (.bool true) ∧ Inv W46 v vs (i + 1) W') :
    CallsIn Fence.wide m Try.prog 45 #[.func (.yield l) #[] #[], .pointer (some ⟨B0, 0, none⟩), .pointer (some ⟨B1, 0, none⟩), .pointer (some ⟨B2, 0, none⟩)] w fun e W' => (∃ v, e = .returned v) ∧ ∃ W46 v vs, Inv W46 v vs p.ring.length W' := by
  have hfew : p.ring.length ≤ 8 := by
    obtain ⟨_, _, _, _, hr⟩ := h.port k X p hx hp
    exact hr.few
  have hget := hid (get33 h k X hx h0 h1)
  have hpk := hid (packets46 X p w (h.port k X p hx hp))
  have e0 := hb0.cell 0
  have e1 := hb1.cell 0
  have e2 := hb2.cell 0
  simp only [List.getElem?_toArray, List.getElem?_cons_zero] at e0 e1 e2
  have HI0 := hid hI0
  have HI1 := hid hI1
  have HY := hid hY
  clear hI0 hI1 hY hb0 hb1 hb2 h hx hp h0 h1
  refine callsIn_of_wp Try.func45 rfl trivial ?_ rfl
  simp only [Try.ntmps45, List.size_toArray, List.length_cons, List.length_nil, Nat.reduceAdd, Nat.reduceSub, Array.replicate_succ, Array.replicate_zero, List.push_toArray, List.append_toArray, List.nil_append, List.cons_append]
  gi_wp2_with fail
  refine ⟨trivial, (fun h => by cases h), (callsIn_wide.2 hget.out).mono ?_⟩
  rintro e w' ⟨rfl, rfl⟩
  gi_wp2_with fail
  refine ⟨trivial, (fun h => by cases h), (callsIn_wide.2 hpk.out).mono ?_⟩
  rintro e W46 ⟨v, vs, rfl, hown, hrows, hb⟩
  obtain ⟨vA, vc, rfl⟩ := own_form hown
  have hinv0 := HI0.out W46 _ vs hown hrows hb
  have hvl := hrows.len
  clear hown hrows hb HI0 hpk hget e0 e1 e2
  gi_wp2_with fail
  gi_loopw [21] (fun i wr => ∃ k : Nat, k ≤ p.ring.length ∧ i = .int .i64 k ∧ Inv W46 (.slice vA p.ring.length vc) vs k wr) (fun i _ => p.ring.length - (intOf i).toNat)
  case atStart => exact ⟨0, Nat.zero_le _, rfl, hinv0⟩
  case round =>
    obtain ⟨k, hk, rfl, hinv⟩ := hrel
    by_cases hlt : k < p.ring.length
    · obtain ⟨u, hu⟩ : ∃ u, vs[k]? = some u := ⟨_, List.getElem?_eq_getElem (by omega)⟩
      obtain ⟨hown, hrows⟩ := HI1.out _ _ _ _ _ hinv
      obtain ⟨b, o, rfl, _, hc⟩ := (Sl.of_own hown).at_ (by omega)
      have c1 := hc k u hu
      have hu1 := hrows.one u (List.mem_of_getElem? hu)
      obtain ⟨fn, tmps, assign, body, hy, hR⟩ := HY.out _ _ _ _ _ u hinv hu
      have HR := hid hR
      clear hR hc hown hrows hu
      gi_wp2
      refine ⟨(fun h => by cases h), HR.out.mono ?_⟩
      rintro e W' ⟨rfl, hi⟩
      gi_wp2
      exact ⟨⟨k + 1, by omega, by go_num, hi⟩, by simp [intOf]; omega⟩
    · obtain rfl : k = p.ring.length := by omega
      gi_wp2
      exact bodyPost_end (results_none rfl _ _ _) rfl ⟨⟨_, rfl⟩, _, _, _, hinv⟩
end Go.Proofs.Ythgfmkdgemepnaa
