/- filter.plain. -/
import Derived.Test.YthgfmkdgemepnaaBytes
import Derived.Test.YthgfmkdgemepnaaDel
namespace Go.Proofs.Ythgfmkdgemepnaa
open Go.RowKit

/-- The tests of the first k bytes, put together. -/
def plainTo (ws : List Wa) : Nat → List Ts
  | 0 => []
  | k + 1 =>
    match ws[k]? with
    | some x => if x.is then (plainTo ws k).filter (fun t => !noMask t) ++ [⟨(k : Int), x.mask, x.value⟩] else plainTo ws k
    | none => plainTo ws k
theorem plainTo_yes {ws : List Wa} {k : Nat} {xm xv : Int} (h : ws[k]? = some ⟨true, xm, xv⟩) : plainTo ws (k + 1) = (plainTo ws k).filter (fun t => !noMask t) ++ [⟨(k : Int), xm, xv⟩] := by
  simp [plainTo, h]
theorem plainTo_no {ws : List Wa} {k : Nat} {xm xv : Int} (h : ws[k]? = some ⟨false, xm, xv⟩) : plainTo ws (k + 1) = plainTo ws k := by
  simp [plainTo, h]
/-- But for the last one all have a mask. -/
theorem plainTo_shape (ws : List Wa) (k : Nat) : (plainTo ws k).all (fun t => !noMask t) = true ∨ ∃ l t, plainTo ws k = l ++ [t] ∧ l.all (fun t => !noMask t) = true ∧ noMask t = true := by
  induction k with
  | zero => exact .inl rfl
  | succ k ih =>
    simp only [plainTo]
    split
    · rename_i x hx
      split
      · cases hm : noMask ⟨(k : Int), x.mask, x.value⟩ with
        | true => exact .inr ⟨_, _, rfl, by simp, hm⟩
        | false => left; simp [hm]
      · exact ih
    · exact ih
theorem filter_all {l : List Ts} (h : l.all (fun t => !noMask t) = true) : l.filter (fun t => !noMask t) = l := by
  rw [List.filter_eq_self]
  exact fun a ha => List.all_eq_true.1 h a ha
theorem filter_last {l : List Ts} {t : Ts} (h : l.all (fun t => !noMask t) = true) (ht : noMask t = true) : (l ++ [t]).filter (fun t => !noMask t) = l := by
  rw [List.filter_append, filter_all h]
  simp [ht]
theorem plainTo_length (ws : List Wa) (k : Nat) : (plainTo ws k).length ≤ k := by
  induction k with
  | zero => exact Nat.le_refl _
  | succ k ih =>
    simp only [plainTo]
    split
    · split
      · have := List.length_filter_le (fun t => !noMask t) (plainTo ws k)
        simp only [List.length_append, List.length_cons, List.length_nil]
        omega
      · omega
    · omega

/-- DeleteFunc, of what plain has collected. -/
theorem delete_plain (ws : List Wa) (k base : Nat) (v : Value) (w : World) (hk : k < 4096) (hown : w.ownsRow base 45 3 v (plainTo ws k).length (tsCells (plainTo ws k))) :
    Calls Try.prog 35 #[v, .func (.func 36) #[] #[]] w fun e w' => ∃ v', e = .returned v' ∧ v'.ownBlock = v.ownBlock ∧
      w'.ownsRow base 45 3 v' ((plainTo ws k).filter (fun t => !noMask t)).length (tsCells ((plainTo ws k).filter (fun t => !noMask t))) ∧ w.grownBy w' v.ownBlock := by
  have hl := plainTo_length ws k
  rcases plainTo_shape ws k with h | ⟨l, t, e, h1, h2⟩
  · rw [filter_all h]
    have hv : ∃ A c, v = .slice A (plainTo ws k).length c := by
      rcases hown.2 with ⟨rfl, h0⟩ | ⟨g, cap, _, rfl, _⟩
      · exact ⟨none, 0, by rw [h0]⟩
      · exact ⟨_, _, rfl⟩
    obtain ⟨A, c, rfl⟩ := hv
    refine (delete35_none base A c (plainTo ws k) w hown (by omega) h).mono ?_
    rintro e w' ⟨rfl, hb⟩
    exact ⟨_, rfl, rfl, own_below hown hb (Nat.le_refl _), ⟨hb.os, hb.tape, hb.output, hb.size, fun k hk _ => hb.block k hk⟩⟩
  · rw [e] at hown hl ⊢
    rw [filter_last h1 h2]
    simp only [List.length_append, List.length_cons, List.length_nil] at hown hl
    have hv : ∃ g c, v = .slice (some ⟨g, 0, none⟩) (l.length + 1) c := by
      rcases hown.2 with ⟨_, h0⟩ | ⟨g, cap, _, rfl, hg, _⟩
      · omega
      · exact ⟨_, _, rfl⟩
    obtain ⟨g, c, rfl⟩ := hv
    refine (delete35_last base g c l t w hown (by omega) h1 h2).mono ?_
    rintro e w' ⟨rfl, ho, hgr⟩
    exact ⟨_, rfl, rfl, ho, hgr⟩

/-- An element of the array, read out of it. -/
theorem run_index_want (ws : List Wa) (k : Nat) (x : Wa) (w : World) (hl : ws.length = 64) (hx : ws[k]? = some x) :
    (Instr.index 62 (.agg (wsCells ws)) (.int .i64 (k : Int))).run Try.prog w = .ok (.agg #[.bool x.is, .int .i64 x.mask, .int .i64 x.value]) w := by
  have hk : k < 64 := by rw [← hl]; exact (List.getElem?_eq_some_iff.1 hx).1
  obtain ⟨i1, hi1, hz1, hs1, _⟩ := info_parts info61
  have hagg : (isAgg 61).run Try.prog w = .ok true w := by
    unfold isAgg
    rw [Sem.run_bind, run_underlying Try.underlying61 w]
    rfl
  have hex : (wsCells ws).extract (k * 3) (k * 3 + 3) = #[.bool x.is, .int .i64 x.mask, .int .i64 x.value] := by
    rw [← Array.toList_inj, Array.toList_extract, wsCells_list]
    obtain ⟨h0, h1, h2⟩ := wsL_at ws k x hx
    have hlen := wsL_length ws
    have hkl : k * 3 + 3 ≤ (ws.flatMap wcells).length := by omega
    apply List.ext_getElem?
    intro j
    rw [List.extract_eq_take_drop, List.getElem?_take]
    rcases j with _ | _ | _ | j
    · simp [h0]
    · simp [h1]
    · simp [h2]
    · rw [if_neg (by omega)]
      rfl
  have hkk : 0 ≤ (k : Int) ∧ (k : Int) < (64 : Nat) := by omega
  simp [Instr.index, run_underlying Try.underlying62, asIntOf, sizeOf, typeInfo, hi1, hs1, part, hagg, hex, hk, go_sem]

set_option maxRecDepth 100000 in
set_option maxHeartbeats 2000000 in
theorem plain21 (A : Option Addr) (c : Nat) (f : List Ts) (w : World) (hr : Sl w 3 A f.length (tsCells f)) (hn : f.length ≤ 4096) (hm : f.all may1 = true) :
    Calls Try.prog 21 #[.slice A f.length c] w fun e w' => ∃ v, e = .returned (.tuple #[v, .bool (bytesF f).2]) ∧ Below w.heap.size w w' ∧
      w'.ownsRow w.heap.size 45 3 v (if (bytesF f).2 then plainTo (bytesF f).1 64 else []).length (tsCells (if (bytesF f).2 then plainTo (bytesF f).1 64 else [])) := by
  obtain ⟨i2, hi2, hz2, hs2, _⟩ := info_parts info62
  have hlen := foldB_length f (ws0, true)
  rw [ws0_length] at hlen
  have hby := bytes20 A c f w hr hn hm
  have hl2 : (bytesF f).1.length = 64 := hlen
  clear hlen
  generalize bytesF f = s at hby hl2 ⊢
  obtain ⟨ws, b⟩ := s
  dsimp only at hby hl2 ⊢
  have HBY := hid hby
  clear hby
  have hsz : (Try.prog.info? 62).map (·.size) = some (wsCells ws).size := by rw [hi2]; simp [hs2, wsCells_size, hl2]
  have hsz0 : (wsCells ws0).size = (wsCells ws).size := by simp [wsCells_size, hl2, ws0_length]
  have h1c : (wsCells ws).all (·.oneCell') = true := wsCells_one _
  cases b with
  | false =>
    go_enter Try.func21, Try.ntmps21
    go_wp2_with fail
    refine HBY.out.mono ?_
    rintro e w1 ⟨rfl, hb1⟩
    go_wp2_with (first | (refine wpList_alloc_row rfl 62 rfl i2 _ hi2 hz2 ?_) | (refine wpList_store_row rfl 62 (.tmp 4) (.tmp 12) rfl w1.heap.size _ rfl rfl 62 _ (heap_alloc_new w1 _) hsz hsz0 h1c ?_))
    go_ret2
    exact ⟨_, rfl, hb1.trans (((Below.refl _ w1).alloc (Nat.le_refl _) _).trans (below_setRow _ _ _ (Nat.le_refl _)) |>.mono hb1.size), World.ownsRow_nil _ _ _ _⟩
  | true =>
    go_enter Try.func21, Try.ntmps21
    go_wp2_with fail
    refine HBY.out.mono ?_
    rintro e w1 ⟨rfl, hb1⟩
    have hB : Below w.heap.size w ((w1.alloc (.cells (wsCells ws0) 62)).setRow w1.heap.size (wsCells ws)) :=
      hb1.trans ((((Below.refl _ w1).alloc (Nat.le_refl _) _).trans (below_setRow _ _ _ (Nat.le_refl _))).mono hb1.size)
    have hK : Bk ((w1.alloc (.cells (wsCells ws0) 62)).setRow w1.heap.size (wsCells ws)) w1.heap.size 62 (wsCells ws) := setRow_heap _ _ _ _ _ _ (heap_alloc_new w1 _)
    go_wp2_with (first | (refine wpList_alloc_row rfl 62 rfl i2 _ hi2 hz2 ?_) | (refine wpList_store_row rfl 62 (.tmp 4) (.tmp 12) rfl w1.heap.size _ rfl rfl 62 _ (heap_alloc_new w1 _) hsz hsz0 h1c ?_) | (refine wpList_load_row rfl 62 (.tmp 4) rfl w1.heap.size rfl 62 _ (0, 0) _ hK Try.underlying62 rfl hsz ?_))
    clear hK
    obtain ⟨i0, hi0, hz0, hz1, hz2'⟩ := info_parts info45
    go_loopw [6, 17] (fun o i wr => ∃ k : Nat, k ≤ 64 ∧ i = .int .i64 k ∧ wr.ownsRow w.heap.size 45 3 o (plainTo ws k).length (tsCells (plainTo ws k)) ∧ Below w.heap.size w wr) (fun _ i _ => 64 - (intOf i).toNat)
    case atStart => exact ⟨0, by omega, rfl, World.ownsRow_nil _ _ _ _, hB⟩
    case round =>
      clear hB
      obtain ⟨k, hk, rfl, hown, hb⟩ := hrel
      by_cases hlt : k < 64
      · obtain ⟨x, hx⟩ : ∃ x, ws[k]? = some x := ⟨_, List.getElem?_eq_getElem (by omega)⟩
        have hidx := fun w => run_index_want ws k x w hl2 hx
        obtain ⟨xi, xm, xv⟩ := x
        have HX := hid hx
        clear hx
        dsimp only at hidx
        have HO := hid hown
        have HB := hid hb
        have hbs := hb.size
        clear hown hb
        cases xi with
        | false =>
          go_wp2_with fail
          refine ⟨⟨k + 1, by omega, by go_num, ?_, HB.out.alloc hbs _⟩, by simp [intOf]; omega⟩
          rw [plainTo_no HX.out]
          exact HO.out.alloc _
        | true =>
          have hK : Bk (wr.alloc (.cells #[.bool true, .int .i64 xm, .int .i64 xv] 61)) wr.heap.size 61 #[.bool true, .int .i64 xm, .int .i64 xv] := heap_alloc_new wr _
          go_wp2_with fail
          have hO1 := HO.out.alloc (.cells #[.bool true, .int .i64 xm, .int .i64 xv] 61)
          refine (delete_plain ws k w.heap.size u6 _ (by omega) hO1).mono ?_
          rintro e w2 ⟨v2, rfl, hvb, hown2, hg2⟩
          have hne : some wr.heap.size ≠ u6.ownBlock := fun h => by have := (HO.out.lt _ h.symm).2; omega
          have hK2 : Bk w2 wr.heap.size 61 #[.bool true, .int .i64 xm, .int .i64 xv] := (hg2.block _ (by simp) hne).trans hK
          have k1 := hK2.cell 1
          have k2 := hK2.cell 2
          have hb2 : Below w.heap.size w w2 := (HB.out.alloc hbs _).grown hg2 (by simp; omega) (fun k hk => (HO.out.lt _ hk).1)
          have hs2 := hb2.size
          have hpl := List.length_filter_le (fun t => !noMask t) (plainTo ws k)
          have hpl2 := plainTo_length ws k
          have hb3 : Below w.heap.size w (w2.alloc (.cells #[.int .i64 (k : Int), .int .i64 xm, .int .i64 xv] 45)) := hb2.alloc hs2 _
          have HB3 := hid hb3
          have hown3 := hown2.alloc (.cells #[.int .i64 (k : Int), .int .i64 xm, .int .i64 xv] 45)
          have hsl : Sl (w2.alloc (.cells #[.int .i64 (k : Int), .int .i64 xm, .int .i64 xv] 45)) 3 (some ⟨w2.heap.size, 0, none⟩) 1 (tsCells [⟨(k : Int), xm, xv⟩]) := by
            refine ⟨rfl, fun _ => ⟨w2.heap.size, 0, rfl, by simp, fun j u hu => ?_⟩⟩
            rw [Nat.zero_add, cell_of_row _ _ _ _ 45 (0, 0) (heap_alloc_new w2 _)]
            simpa [tsCells, tcells] using hu
          clear hK hO1 hne hg2 hK2 hb2 hb3 hidx hvb
          simp at k1 k2
          go_wp2_with (at_builtin; refine wpList_append_sl _ rfl (.tmp 25) (.tmp 32) _ rfl w.heap.size 45 i0 _ 3 24 Try.underlying22 hi0 hz0 hz1 hz2' rfl (by omega) v2 _ _ rfl hown3 _ 1 1 _ rfl hsl (tsCells_one _) (by unfold maxLen; omega) (by omega) (by simp; omega) ?_; intro v4 w4 hown4 hg4 hat4)
          refine ⟨⟨k + 1, by omega, by go_num, ?_, HB3.out.grown hg4 (by simp; omega) (fun k hk => (hown2.lt _ hk).1)⟩, by simp [intOf]; omega⟩
          rw [plainTo_yes HX.out, tsCells_append, List.length_append]
          exact hown4
      · have hke : k = 64 := by omega
        subst hke
        go_wp2_with fail
        go_ret2
        exact ⟨_, rfl, hb, hown⟩
end Go.Proofs.Ythgfmkdgemepnaa
