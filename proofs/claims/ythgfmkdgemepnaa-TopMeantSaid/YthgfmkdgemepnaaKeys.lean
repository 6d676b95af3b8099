/- maps.Keys' closure over the ports' map. -/
import Derived.Test.YthgfmkdgemepnaaIter
import Derived.Maps.RangeRun
namespace Go.Proofs.Ythgfmkdgemepnaa
open Go.RowKit Go.Shelf
attribute [local go_sem] Oper.semAt_some

theorem ents_get (a : Int) (xs : List Nat) : ∀ (i j : Nat), (ents a xs i)[j]? = (xs[j]?).map fun x => ⟨keyV a ((i + j : Nat) : Int), .pointer (some ⟨x, 0, none⟩), i + j⟩ := by
  induction xs with
  | nil => intro i j; simp [ents]
  | cons x xs ih =>
    intro i j
    cases j with
    | zero => simp [ents]
    | succ j =>
      simp only [ents, List.getElem?_cons_succ, ih]
      rw [show i + 1 + j = i + (j + 1) by omega]
theorem ents_mem {a : Int} {xs : List Nat} {e : MapEntry} (h : e ∈ ents a xs 0) : ∃ (j x : Nat), xs[j]? = some x ∧ e = ⟨keyV a (j : Int), .pointer (some ⟨x, 0, none⟩), j⟩ := by
  obtain ⟨j, hj⟩ := List.getElem?_of_mem h
  rw [ents_get] at hj
  obtain ⟨x, hx, e1⟩ := Option.map_eq_some_iff.1 hj
  exact ⟨j, x, hx, by rw [← e1]; simp⟩
theorem ents_of {a : Int} {xs : List Nat} {j x : Nat} (h : xs[j]? = some x) : (⟨keyV a (j : Int), .pointer (some ⟨x, 0, none⟩), j⟩ : MapEntry) ∈ ents a xs 0 := by
  refine List.mem_of_getElem? (i := j) ?_
  rw [ents_get, h]
  simp
theorem ents_born (a : Int) (xs : List Nat) (i : Nat) : (ents a xs i).map (·.born) = List.range' i xs.length := by
  induction xs generalizing i with
  | nil => rfl
  | cons x xs ih => simp [ents, ih, List.range'_succ]

theorem perm_range {pre : List Nat} {n : Nat} (hn : pre.Nodup) (hlt : ∀ j ∈ pre, j < n) (hall : ∀ j, j < n → j ∈ pre) : pre.Perm (List.range n) := by
  rw [List.perm_ext_iff_of_nodup hn List.nodup_range]
  intro a
  rw [List.mem_range]
  exact ⟨hlt a, hall a⟩

theorem walk_row {A : World} {R : Nat} {s c : Nat} {seen : Array Nat} {m : Option Nat} {B : Nat} (hR : A.heap[R]? = some (.mapIter m s seen c)) (hB : B ≤ R) :
    ∀ r, some R = some r → B ≤ r ∧ ∃ o : Obj, A.heap[r]? = some o ∧ o.isWalk = true := fun r e => by cases e; exact ⟨hB, _, hR, rfl⟩

set_option maxRecDepth 100000 in
set_option maxHeartbeats 2000000 in
theorem keys47 (m l MB M : Nat) (n : Int) (xs : List Nat) (W : World) (Inv : List Nat → World → Prop)
    (hMB : W.cell? ⟨MB, 0, none⟩ = some (.map (some M))) (hM : W.heap[M]? = some (.map (ents n xs 0).toArray xs.length))
    (hst : ∀ pre A C row, Inv pre A → A.grownBy C row → (∀ r, row = some r → W.heap.size ≤ r ∧ ∃ o : Obj, A.heap[r]? = some o ∧ o.isWalk = true) → Inv pre C)
    (hY : ∀ pre (j : Nat) W1, Inv pre W1 → j < xs.length → j ∉ pre → YieldAt Fence.wide (m - 1) Try.prog l #[keyV n (j : Int)] W1 fun e W' => e = .returned (.bool true) ∧ Inv (pre ++ [j]) W' ∧ KeepsWalks W1 W')
    (h0 : Inv [] W) :
    CallsIn Fence.wide m Try.prog 47 #[.func (.yield l) #[] #[], .pointer (some ⟨MB, 0, none⟩)] W fun e W' => (∃ v, e = .returned v) ∧ ∃ pre : List Nat, pre.Perm (List.range xs.length) ∧ Inv pre W' := by
  have HST := hid hst
  have HY := hid hY
  clear hst hY
  have hM' := hid hM
  have hml : M < W.heap.size := (Array.getElem?_eq_some_iff.1 hM).1
  have hrange := run_range_map (P := Try.prog) W 56 70 71 M (ents n xs 0).toArray xs.length Try.underlying56 hM
  clear hM
  refine callsIn_of_wp Try.func47 rfl trivial ?_ rfl
  simp only [Try.ntmps47, List.size_toArray, List.length_cons, List.length_nil, Nat.reduceAdd, Nat.reduceSub, Array.replicate_succ, Array.replicate_zero, List.push_toArray, List.append_toArray, List.nil_append, List.cons_append]
  gi_wp2
  clear hrange hMB
  gi_loopw [] (fun wr => ∃ (pre : List Nat), pre.Nodup ∧ (∀ j ∈ pre, j < xs.length) ∧ wr.heap[W.heap.size]? = some (.mapIter (some M) xs.length pre.toArray xs.length) ∧ wr.heap[M]? = some (.map (ents n xs 0).toArray xs.length) ∧ Inv pre wr) (fun wr => xs.length - (match wr.heap[W.heap.size]? with | some (.mapIter _ _ s _) => s.size | _ => 0))
  case atStart =>
    exact ⟨[], List.nodup_nil, (fun j h => by cases h), heap_alloc_new _ _, (Below.heap_alloc _ _ _ hml).trans hM'.out, HST.out _ _ _ none h0 (World.grownBy_alloc W _ none) (fun r e => by cases e)⟩
  case round =>
    obtain ⟨pre, hnd, hlt, hR, hMr, hinv⟩ := hrel
    have hold : ∀ x ∈ (ents n xs 0).toArray.toList, x.born < xs.length := by
      intro x hx
      obtain ⟨j, y, hj, rfl⟩ := ents_mem (by simpa using hx)
      exact (List.getElem?_eq_some_iff.1 hj).1
    rcases run_next_at (P := Try.prog) wr 0 W.heap.size M xs.length xs.length pre.toArray (ents n xs 0).toArray xs.length hR hMr hold (Nat.le_refl _) with ⟨hz, hrun⟩ | ⟨e, he, w1, hw1, hrun⟩
    · have hall : ∀ j, j < xs.length → j ∈ pre := by
        intro j hj
        have hmem := ents_of (a := n) (List.getElem?_eq_getElem hj)
        by_cases hp : j ∈ pre
        · exact hp
        · exfalso
          have : (⟨keyV n (j : Int), .pointer (some ⟨xs[j], 0, none⟩), j⟩ : MapEntry) ∈ leftOf (ents n xs 0).toArray pre.toArray := by
            unfold leftOf
            rw [Array.mem_filter]
            exact ⟨by simpa using hmem, by simp [hp]⟩
          have h2 := Array.size_eq_zero_iff.1 hz
          rw [h2] at this
          simp at this
      have HP := hid (perm_range hnd hlt hall)
      clear hall hold hnd hlt hR hMr
      gi_wp2
      exact bodyPost_end (results_none rfl _ _ _) rfl ⟨⟨_, rfl⟩, pre, HP.out, hinv⟩
    · obtain ⟨j, x, hj, rfl⟩ : ∃ (j x : Nat), xs[j]? = some x ∧ e = ⟨keyV n (j : Int), .pointer (some ⟨x, 0, none⟩), j⟩ := by
        have : e ∈ leftOf (ents n xs 0).toArray pre.toArray := by simpa using he
        unfold leftOf at this
        rw [Array.mem_filter] at this
        exact ents_mem (by simpa using this.1)
      have hjp : j ∉ pre := by
        have : (⟨keyV n (j : Int), .pointer (some ⟨x, 0, none⟩), j⟩ : MapEntry) ∈ leftOf (ents n xs 0).toArray pre.toArray := by simpa using he
        unfold leftOf at this
        rw [Array.mem_filter] at this
        simpa using this.2
      have hjl : j < xs.length := (List.getElem?_eq_some_iff.1 hj).1
      have hw1h : w1.heap = wr.heap := by rcases hw1 with rfl | rfl <;> rfl
      have hRl : W.heap.size < wr.heap.size := (Array.getElem?_eq_some_iff.1 hR).1
      have hg1 : wr.grownBy (ChangeMaps.setBlock w1 W.heap.size (.mapIter (some M) xs.length (pre.toArray.push j) xs.length)) (some W.heap.size) := by
        rcases hw1 with rfl | rfl
        · exact grownBy_putObj' _ _ _
        · exact (show wr.grownBy wr.drew (some W.heap.size) from ⟨rfl, rfl, rfl, Nat.le_refl _, fun _ _ _ => rfl⟩).trans (grownBy_putObj' wr.drew W.heap.size (.mapIter (some M) xs.length (pre.toArray.push j) xs.length))
      have hinv1 := HST.out pre _ _ _ hinv hg1 (walk_row hR (Nat.le_refl _))
      have hRm : M ≠ W.heap.size := by omega
      have hR1 : (ChangeMaps.setBlock w1 W.heap.size (.mapIter (some M) xs.length (pre.toArray.push j) xs.length)).heap[W.heap.size]? = some (.mapIter (some M) xs.length (pre.toArray.push j) xs.length) :=
        World.putObj_heap_same (w := w1) (by rw [hw1h]; exact hRl)
      have hM1 : (ChangeMaps.setBlock w1 W.heap.size (.mapIter (some M) xs.length (pre.toArray.push j) xs.length)).heap[M]? = some (.map (ents n xs 0).toArray xs.length) :=
        (World.putObj_heap_other (w := w1) hRm).trans (by rw [hw1h]; exact hMr)
      generalize hW2 : ChangeMaps.setBlock w1 W.heap.size (.mapIter (some M) xs.length (pre.toArray.push j) xs.length) = W2 at hinv1 hR1 hM1 hg1
      have hrun2 := hrun
      dsimp only at hrun2
      rw [hW2] at hrun2
      have hent := run_entry_at (P := Try.prog) W2 W.heap.size M xs.length pre.toArray (ents n xs 0).toArray xs.length ⟨keyV n (j : Int), .pointer (some ⟨x, 0, none⟩), j⟩ hR1 hM1 (by simpa using ents_of hj) (by simp only [List.toList_toArray]; rw [ents_born]; exact List.nodup_range')
      dsimp only at hent
      unfold keyV at hent hrun2
      have hinv2 := HST.out pre _ _ none hinv1 (World.grownBy_alloc W2 (.cells #[.int .i64 n, .int .i64 (j : Int)] 70) none) (fun r e => by cases e)
      obtain ⟨fn, tmps, assign, body, hy, hR'⟩ := HY.out pre j _ hinv2 hjl hjp
      have HR := hid hR'
      unfold keyV at hy
      clear hrun hW2 hw1 he hold hR' hinv hinv1 hw1h
      have HJ := hid hj
      have hpush : (pre ++ [j]).toArray = pre.toArray.push j := by simp
      have HPU := hid hpush
      have HND : Hid ((pre ++ [j]).Nodup) := by
        show (pre ++ [j]).Nodup
        rw [List.nodup_append]
        exact ⟨hnd, by simp, fun a ha b hb e => hjp (by rw [List.mem_singleton.1 hb] at e; rw [← e]; exact ha)⟩
      have HLT : Hid (∀ i ∈ pre ++ [j], i < xs.length) := by
        intro i hi
        rcases List.mem_append.1 hi with h | h
        · exact hlt i h
        · rw [List.mem_singleton.1 h]; exact hjl
      have HJP := hid hjp
      have hR2 := hid ((Below.heap_alloc W2 (.cells #[.int .i64 n, .int .i64 (j : Int)] 70) W.heap.size (Array.getElem?_eq_some_iff.1 hR1).1).trans hR1)
      have hM2 := hid ((Below.heap_alloc W2 (.cells #[.int .i64 n, .int .i64 (j : Int)] 70) M (Array.getElem?_eq_some_iff.1 hM1).1).trans hM1)
      have hsz : ∀ wv : World, wv.heap[W.heap.size]? = some (.mapIter (some M) xs.length (pre ++ [j]).toArray xs.length) → xs.length - (match wv.heap[W.heap.size]? with | some (.mapIter _ _ s _) => s.size | _ => 0) < xs.length - (match wr.heap[W.heap.size]? with | some (.mapIter _ _ s _) => s.size | _ => 0) := by
        intro wv h
        rw [h, hR]
        simp only [List.size_toArray, List.length_append, List.length_cons, List.length_nil]
        have hpl : pre.length < xs.length := by
          have hsub := (List.nodup_cons.2 ⟨hjp, hnd⟩).length_le_of_subset (l₂ := List.range xs.length) (by
            intro i hi
            rw [List.mem_range]
            rcases List.mem_cons.1 hi with h | h
            · rw [h]; exact hjl
            · exact hlt i h)
          simp at hsub
          omega
        omega
      have HSZ := hid hsz
      clear hj hpush hnd hlt hsz hjp hR hMr hR1 hM1 hg1 hinv2
      gi_wp2
      refine ⟨(fun h => by cases h), HR.out.mono ?_⟩
      rintro e W' ⟨rfl, hi, hkw⟩
      gi_wp2
      have hRf := hkw.same _ _ hR2.out rfl
      rw [← HPU.out] at hRf
      exact ⟨⟨pre ++ [j], HND.out, HLT.out, hRf, hkw.same _ _ hM2.out rfl, hi⟩, HSZ.out _ hRf⟩
end Go.Proofs.Ythgfmkdgemepnaa
