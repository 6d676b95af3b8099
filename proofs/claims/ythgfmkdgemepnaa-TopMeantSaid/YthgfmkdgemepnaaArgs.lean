/- The arguments of TopMeant, opened: tests, packets. -/
import Derived.Test.YthgfmkdgemepnaaRows
import Derived.Test.YthgfmkdgemepnaaSame
import Derived.ProofKit
import Derived.Deep.Matrix
import Derived.Deep.Fields
import Derived.SizedLaws
namespace Go.Proofs.Ythgfmkdgemepnaa
open Go.ChangeShapes Go.WideShapes Go.RowKit Go.Deep

instance : Inhabited Ts := ⟨⟨0, 0, 0⟩⟩
theorem cells45 : Try.prog.cellsOf 45 = 3 := by kernel_rfl
theorem cells39 : Try.prog.cellsOf 39 = 1 := by kernel_rfl
theorem cells5 : Try.prog.cellsOf 5 = 1 := by kernel_rfl
theorem cells3 : Try.prog.cellsOf 3 = 1 := by kernel_rfl
theorem bytes5 : Try.prog.bytesOf 5 = 1 := by kernel_rfl

theorem cell_lt {w : World} {a : Addr} {v : Value} (h : w.cell? a = some v) : a.block < w.heap.size := by
  by_cases hl : a.block < w.heap.size
  · exact hl
  · have e : w.heap[a.block]? = none := by simp; omega
    simp [World.cell?, e] at h

theorem list3 {α : Type} {l : List α} (h : l.length = 3) : ∃ a b c, l = [a, b, c] := by
  match l, h with
  | [a, b, c], _ => exact ⟨a, b, c, rfl⟩

section
variable {H : Type} {enc : TypeId × Value → H} {w : World}

set_option maxRecDepth 100000 in
/-- The three numbers of a test. -/
theorem open_test {base fuel : Nat} {spare : Nat → Bool} {held : Bool} {cs : List Value} {x : DataW H × List MemPlace} (h : DataW.trod enc Try.prog w base spare held fuel 45 cs = some x) : ∃ t : Ts, cs = tcells t := by
  obtain ⟨xs, n, _, _, hlen, hx, hf⟩ := DataW.trod_struct Try.underlying45 h
  rw [cells45] at hlen
  have hx3 : xs.length = 3 := hx
  obtain ⟨a, b, c, rfl⟩ := list3 hlen
  have g0 : DataW.trod enc Try.prog w base spare held n 3 (([a, b, c].drop 0).take (Try.prog.cellsOf 3)) = xs[0]? := hf 0 _ rfl
  have g1 : DataW.trod enc Try.prog w base spare held n 3 (([a, b, c].drop 1).take (Try.prog.cellsOf 3)) = xs[1]? := hf 1 _ rfl
  have g2 : DataW.trod enc Try.prog w base spare held n 3 (([a, b, c].drop 2).take (Try.prog.cellsOf 3)) = xs[2]? := hf 2 _ rfl
  rw [cells3, List.getElem?_eq_getElem (by omega)] at g0 g1 g2
  obtain ⟨p, e0, _⟩ := DataW.trod_int Try.underlying3 g0
  obtain ⟨m, e1, _⟩ := DataW.trod_int Try.underlying3 g1
  obtain ⟨v, e2, _⟩ := DataW.trod_int Try.underlying3 g2
  simp at e0 e1 e2
  subst e0; subst e1; subst e2
  exact ⟨⟨p, m, v⟩, rfl⟩

/-- A slice of tests that came in. -/
theorem open_tests {fuel : Nat} {cs : List Value} {x : DataW H × List MemPlace} (h : DataW.trod enc Try.prog w 0 (fun _ => true) true fuel 22 cs = some x) :
    ∃ (A : Option Addr) (c : Nat) (f : List Ts), cs = [.slice A f.length c] ∧ Sl w 3 A f.length (tsCells f) := by
  rcases open_slice Try.underlying22 h with ⟨rfl, _⟩ | ⟨a, len, cap, m, n, D, Pl, rfl, _, hl, hm, hmm, _, hi⟩
  · exact ⟨none, 0, [], rfl, Sl.none_⟩
  · simp only [if_true] at hmm
    subst hmm
    rw [cells45] at hi
    have each : ∀ i, i < len → ∃ t : Ts, ∀ j u, (tcells t)[j]? = some u → w.cell? (a.add (i * 3 + j)) = some u := by
      intro i hlt
      obtain ⟨cs', h1, h2⟩ := hi i (by omega)
      obtain ⟨t, rfl⟩ := open_test h2
      obtain ⟨_, _, h3⟩ := World.cells?_some h1
      refine ⟨t, fun j u hu => ?_⟩
      have hj : j < 3 := by
        have := (List.getElem?_eq_some_iff.1 hu).1
        simpa [tcells] using this
      rw [← Deep.add_add, h3 j hj, hu]
    obtain ⟨F, hF⟩ := choose_lt each
    have hlen : ((List.range len).map F).length = len := by simp
    refine ⟨some a, m, (List.range len).map F, by rw [hlen], by rw [tsCells_length], fun hn => ?_⟩
    rw [hlen] at hn
    have h0 := hF 0 hn 0 _ rfl
    have hsp : a.spot = none := by simpa [Addr.add] using World.cell?_spot h0
    obtain ⟨b, o, sp⟩ := a
    simp only at hsp
    subst hsp
    refine ⟨b, o, rfl, by simpa [Addr.add] using cell_lt h0, fun j u hu => ?_⟩
    have hjl := (List.getElem?_eq_some_iff.1 hu).1
    rw [tsCells_length, hlen] at hjl
    have hi' : j / 3 < len := by omega
    have hfi : ((List.range len).map F)[j / 3]? = some (F (j / 3)) := by
      rw [List.getElem?_map, List.getElem?_range hi']; rfl
    obtain ⟨t0, t1, t2⟩ := tsCells_at _ _ _ hfi
    have hcell := hF (j / 3) hi'
    rw [← Addr.add_lit]
    rcases (show j % 3 = 0 ∨ j % 3 = 1 ∨ j % 3 = 2 by omega) with hr | hr | hr
    · have e : j = j / 3 * 3 + 0 := by omega
      rw [e] at hu ⊢
      exact hcell 0 u (by rw [← hu, Nat.add_zero, t0]; rfl)
    · have e : j = j / 3 * 3 + 1 := by omega
      rw [e] at hu ⊢
      exact hcell 1 u (by rw [← hu, t1]; rfl)
    · have e : j = j / 3 * 3 + 2 := by omega
      rw [e] at hu ⊢
      exact hcell 2 u (by rw [← hu, t2]; rfl)

theorem weights_in {P : Program} {e : TypeId} {d : DataW H} {ds : List (DataW H)} (h : d ∈ ds) {n : Nat} (hn : n ∈ d.weights P e) : n ∈ DataW.weightsAll P e ds := by
  induction ds with
  | nil => cases h
  | cons a ds ih =>
    simp only [DataW.weightsAll, List.mem_append]
    rcases List.mem_cons.1 h with rfl | h
    · exact .inl hn
    · exact .inr (ih h)

def bytesOfInts (l : List Int) : List UInt8 := l.map fun z => UInt8.ofNat z.toNat
theorem bytesOfInts_cell {l : List Int} (h : ∀ z ∈ l, (Lit.int .u8 z).wf = true) : bcells (bytesOfInts l) = l.map (Value.int .u8) := by
  unfold bcells bytesOfInts
  rw [List.map_map]
  apply List.map_congr_left
  intro z hz
  have := h z hz
  simp [Lit.wf, IntKind.min, IntKind.max, IntKind.bits, IntKind.signed] at this
  simp only [Function.comp]
  congr 1
  have h0 : 0 ≤ z := by omega
  have h1 : z < 256 := by omega
  rw [UInt8.toNat_ofNat_of_lt' (by simp [UInt8.size]; omega)]
  omega

/-- A slice of packets that came in. -/
theorem open_packets {fuel : Nat} {v : Value} {d : DataW H} {p : List MemPlace} (h : DataW.trod enc Try.prog w 0 (fun _ => true) true fuel 23 [v] = some (d, p)) :
    ∃ (C : Option Addr) (c : Nat) (us : List Value) (pk : List (List UInt8)), v = .slice C us.length c ∧ Sl w 1 C us.length us ∧ SlsOf w us pk ∧
      ((d.weights Try.prog 23).all (· ≤ reachBytes) = true → ∀ l ∈ pk, l.length ≤ 140737488351232) := by
  rcases open_int_rows Try.underlying23 Try.underlying39 Try.underlying5 cells39 cells5 h with ⟨hv, _⟩ | ⟨a, len, cap, A, L, C, Z, hv, _, hl, hm, hx, hrow⟩
  · simp only [List.cons.injEq, and_true] at hv
    exact ⟨none, 0, [], [], hv, Sl.none_, ⟨rfl, fun i l h => by simp at h⟩, fun _ l hl => by cases hl⟩
  · simp only [List.cons.injEq, and_true] at hv
    have hulen : ((List.range len).map fun r => Value.slice (A r) (L r) (C r)).length = len := by simp
    have hzl : ∀ r, r < len → (bytesOfInts ((Z r).take (L r))).length = L r := by
      intro r hr
      obtain ⟨_, h2, _, h4, _⟩ := hrow r (by omega)
      simp only [bytesOfInts, List.length_map, List.length_take]
      omega
    refine ⟨some a, cap, (List.range len).map fun r => .slice (A r) (L r) (C r), (List.range len).map fun r => bytesOfInts ((Z r).take (L r)), by rw [hulen]; exact hv, ⟨by simp, fun hn => ?_⟩, ⟨by simp, fun i l hi => ?_⟩, fun hw l hl' => ?_⟩
    · rw [hulen] at hn
      have h0 := (hrow 0 (by omega)).1
      have hsp : a.spot = none := by simpa [Addr.add] using World.cell?_spot h0
      obtain ⟨b, o, sp⟩ := a
      simp only at hsp
      subst hsp
      refine ⟨b, o, rfl, by simpa [Addr.add] using cell_lt h0, fun j u hu => ?_⟩
      have hj : j < len := by have := (List.getElem?_eq_some_iff.1 hu).1; simpa using this
      rw [List.getElem?_map, List.getElem?_range hj] at hu
      simp only [Option.map_some, Option.some.injEq] at hu
      rw [← Addr.add_lit, (hrow j (by omega)).1, hu]
    · have hir : i < len := by have := (List.getElem?_eq_some_iff.1 hi).1; simpa using this
      rw [List.getElem?_map, List.getElem?_range hir] at hi
      simp only [Option.map_some, Option.some.injEq] at hi
      subst hi
      obtain ⟨h1, h2, h3, h4, h5, h6, h7⟩ := hrow i (by omega)
      rw [hzl i hir]
      refine ⟨A i, C i, by rw [List.getElem?_map, List.getElem?_range hir]; rfl, by simp [bcells_length, hzl i hir], fun hn => ?_⟩
      rcases hA : A i with _ | a'
      · have := h6 hA
        omega
      · obtain ⟨_, hc⟩ := h7 a' hA
        have h0 := hc 0 (by omega)
        have hsp : a'.spot = none := by simpa [Addr.add] using World.cell?_spot h0
        obtain ⟨b, o, sp⟩ := a'
        simp only at hsp
        subst hsp
        refine ⟨b, o, rfl, by simpa [Addr.add] using cell_lt h0, fun j u hu => ?_⟩
        rw [bytesOfInts_cell (fun z hz => h5 z (List.mem_of_mem_take hz))] at hu
        have hj : j < L i := by have := (List.getElem?_eq_some_iff.1 hu).1; simp at this; omega
        have hjc : j < (Z i).length := by omega
        rw [← Addr.add_lit, hc j (by omega), List.getD, List.getElem?_eq_getElem hjc]
        rw [List.getElem?_map, List.getElem?_take, if_pos hj, List.getElem?_eq_getElem hjc] at hu
        simpa using hu
    · obtain ⟨r, hr, rfl⟩ := List.mem_map.1 hl'
      have hr' := List.mem_range.1 hr
      rw [hzl r hr']
      obtain ⟨h1, h2, h3, h4, h5, h6, h7⟩ := hrow r (by omega)
      rcases hA : A r with _ | a'
      · have := h6 hA
        omega
      · simp only [Prod.mk.injEq] at hx
        rw [hx.1] at hw
        have hmem : (C r) * 1 ∈ (DataW.weights (H := H) Try.prog 23 (.slice ((List.range len).map fun r => intRow .u8 (A r) (L r) (Z r)) ((List.range (cap - len)).map fun j => intRow .u8 (A (len + j)) (L (len + j)) (Z (len + j))))) := by
          simp only [DataW.weights, Try.underlying23, List.mem_cons, List.mem_append]
          right; left
          refine weights_in (List.mem_map.2 ⟨r, hr, rfl⟩) ?_
          simp only [intRow, hA, DataW.weights, Try.underlying39, List.mem_cons, bytes5]
          left
          simp [lits]
          omega
        have := List.all_eq_true.1 hw _ hmem
        simp [reachBytes] at this
        omega
end
end Go.Proofs.Ythgfmkdgemepnaa
