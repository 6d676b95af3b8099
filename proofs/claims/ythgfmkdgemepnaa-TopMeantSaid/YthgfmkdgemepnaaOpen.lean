/- An account's open ports. -/
import Derived.Test.YthgfmkdgemepnaaSort
namespace Go.Proofs.Ythgfmkdgemepnaa
open Go.RowKit Go.Shelf
attribute [local go_sem] Oper.semAt_some

/-- What is no walk stays where the iterator's own steps go. -/
theorem walk_keeps {A C : World} {row : Option Nat} {B k : Nat} {o : Obj} (hg : A.grownBy C row) (hr : ∀ r, row = some r → B ≤ r ∧ ∃ o : Obj, A.heap[r]? = some o ∧ o.isWalk = true) (hk : A.heap[k]? = some o) (ho : o.isWalk = false) : C.heap[k]? = some o := by
  refine (hg.block k (Array.getElem?_eq_some_iff.1 hk).1 (fun e => ?_)).trans hk
  obtain ⟨_, o', h1, h2⟩ := hr k e.symm
  rw [hk] at h1
  injection h1 with h1
  rw [← h1, ho] at h2
  cases h2
theorem walk_own {A C : World} {row : Option Nat} {B base n size : Nat} {e : TypeId} {v : Value} {xs : List Value} (hg : A.grownBy C row) (hr : ∀ r, row = some r → B ≤ r ∧ ∃ o : Obj, A.heap[r]? = some o ∧ o.isWalk = true) (h : A.ownsRow base e size v n xs) : C.ownsRow base e size v n xs := by
  refine h.kept hg ?_
  rcases hv : v.ownBlock with _ | g
  · exact .inl rfl
  · right
    obtain ⟨cs, hcs⟩ := own_block h hv
    intro e'
    obtain ⟨_, o', h1, h2⟩ := hr g e'.symm
    unfold Bk at hcs
    rw [hcs] at h1
    injection h1 with h1
    rw [← h1] at h2
    cases h2
theorem walk_below {W A C : World} {row : Option Nat} {B B' : Nat} (hg : A.grownBy C row) (hr : ∀ r, row = some r → B ≤ r ∧ ∃ o : Obj, A.heap[r]? = some o ∧ o.isWalk = true) (h : Below B' W A) (hB : B' ≤ B) (hA : B' ≤ A.heap.size) : Below B' W C :=
  h.grown hg hA (fun k hk => Nat.le_trans hB (hr k hk).1)

set_option maxRecDepth 100000 in
theorem keys38 (M : Nat) (w : World) :
    Calls Try.prog 38 #[.map (some M)] w fun e w' => e = .returned (.func (.func 47) #[] #[.pointer (some ⟨w.heap.size, 0, none⟩)]) ∧ w' = w.alloc (.cells #[.map (some M)] 56) := by
  go_enter Try.func38, Try.ntmps38
  go_wp2
  go_ret
  exact ⟨rfl, rfl⟩

/-- What Open has collected. -/
def openL (n a : Int) (pre : List Nat) : List Int := if a = n then pre.map Int.ofNat else []

theorem openL_sorted (n a : Int) {pre : List Nat} {k : Nat} (h : pre.Perm (List.range k)) : (openL n a pre).mergeSort (fun x y => decide (x ≤ y)) = openL n a (List.range k) := by
  unfold openL
  split
  · refine List.Perm.eq_of_pairwise (le := fun (x y : Int) => x ≤ y) (fun x y _ _ h1 h2 => by omega) ?_ ?_ ?_
    · have := List.pairwise_mergeSort (le := fun (x y : Int) => decide (x ≤ y)) (by intro x y z; simp; omega) (by intro x y; simp; omega) (pre.map Int.ofNat)
      exact this.imp (fun hh => by simpa using hh)
    · rw [List.pairwise_map]
      exact (List.pairwise_lt_range (n := k)).imp (fun hh => by simp only [Int.ofNat_eq_natCast]; omega)
    · exact (List.mergeSort_perm _ _).trans (h.map _)
  · simp

/-- What holds between two rounds of Open's loop. -/
structure OpenInv (w : World) (D : Nat) (LO : Obj) (n a : Int) (len : Nat) (pre : List Nat) (W : World) : Prop where
  loop : W.heap[D + 1]? = some LO
  dfr : W.heap[D]? = some (.deferred (some []))
  box0 : Bk W w.heap.size 3 #[.int .i64 a]
  box1 : ∃ v, Bk W (w.heap.size + 1) 26 #[v] ∧ W.ownsRow (w.heap.size + 3) 3 1 v (openL n a pre).length (icells (openL n a pre))
  bel : Below w.heap.size w W
  nodup : pre.Nodup
  lt : ∀ i ∈ pre, i < len

theorem own_ne_obj {w : World} {base : Nat} {e : TypeId} {size n : Nat} {v : Value} {xs : List Value} {g : Nat} {o : Obj} (h : w.ownsRow base e size v n xs) (hg : w.heap[g]? = some o) (ho : o.isCells = false) : v.ownBlock ≠ some g := by
  intro hv
  obtain ⟨cs, hcs⟩ := own_block h hv
  unfold Bk at hcs
  rw [hcs] at hg
  injection hg with hg
  rw [← hg] at ho
  cases ho
theorem own_putObj {w : World} {base : Nat} {e : TypeId} {size n : Nat} {v : Value} {xs : List Value} {g : Nat} {o : Obj} (o' : Obj) (h : w.ownsRow base e size v n xs) (hg : w.heap[g]? = some o) (ho : o.isCells = false) : (w.putObj g o').ownsRow base e size v n xs :=
  h.kept (grownBy_putObj' _ _ _) (.inr (own_ne_obj h hg ho))

theorem openInv_put {w W : World} {D : Nat} {LO BO : Obj} {n a : Int} {len : Nat} {pre : List Nat} {v : Value} (hD : w.heap.size + 3 ≤ D) (hB : W.heap[D + 1]? = some BO) (hbc : BO.isCells = false) (hd : W.heap[D]? = some (.deferred (some [])))
    (h0 : Bk W w.heap.size 3 #[.int .i64 a]) (h1 : Bk W (w.heap.size + 1) 26 #[v]) (ho : W.ownsRow (w.heap.size + 3) 3 1 v (openL n a pre).length (icells (openL n a pre))) (hb : Below w.heap.size w W) (hn : pre.Nodup) (hl : ∀ i ∈ pre, i < len) :
    OpenInv w D LO n a len pre (W.putObj (D + 1) LO) :=
  ⟨World.putObj_heap_same (Array.getElem?_eq_some_iff.1 hB).1, (World.putObj_heap_other (by omega)).trans hd, (World.putObj_heap_other (by omega)).trans h0,
    ⟨v, (World.putObj_heap_other (by omega)).trans h1, own_putObj LO ho hB hbc⟩, hb.grown (grownBy_putObj' _ _ _) hb.size (fun k e => by cases e; omega), hn, hl⟩

set_option maxRecDepth 100000 in
set_option maxHeartbeats 2000000 in
theorem open27 {w : World} {base PB M : Nat} {qv : Value} {n : Int} {quotas : List Int} {xs : List Nat} {ps : List PortSt} (h : PortsAt w base PB M qv n quotas xs ps) (hfew : xs.length ≤ 16) (a : Int) :
    Calls Try.prog 27 #[.pointer (some ⟨PB, 0, none⟩), .int .i64 a] w fun e w' => ∃ v, e = .returned v ∧ w'.ownsRow w.heap.size 3 1 v (openL n a (List.range xs.length)).length (icells (openL n a (List.range xs.length))) ∧ Below w.heap.size w w' := by
  have hth := hid (there25 PB M qv w h.pb)
  have c1 := h.pb.cell 1
  simp at c1
  have HMP := hid h.mp
  have hPB := h.pb.lt
  have HPB := hid h.pb
  have hml : M < w.heap.size := (Array.getElem?_eq_some_iff.1 h.mp).1
  clear h
  obtain ⟨i0, hi0, hz0, hz1, hz2⟩ := info_parts info3
  rw [← callsIn_wide (n := 3)]
  refine callsIn_of_wp_marks Try.func27 rfl trivial ?_ rfl
  simp only [Try.ntmps27, List.size_toArray, List.length_cons, List.length_nil, Nat.reduceAdd, Nat.reduceSub, Array.replicate_succ, Array.replicate_zero, List.push_toArray, List.append_toArray, List.nil_append, List.cons_append]
  gi_wp2_with fail
  refine ⟨trivial, (callsIn_wide.2 (there25 PB M qv _ ((HPB.out.alloc _).alloc _))).mono ?_⟩
  rintro e w' ⟨rfl, rfl⟩
  have d1 : ((w.alloc (.cells #[.int .i64 a] 3)).alloc (.cells #[.slice none 0 0] 26)).cell? ⟨PB, 1, none⟩ = some (.map (some M)) := by
    rw [World.cell?_alloc_lt _ _ _ (by show PB < _; simp; omega), World.cell?_alloc_lt _ _ _ hPB]; exact c1
  gi_wp2_with fail
  refine ⟨trivial, (callsIn_wide.2 (keys38 M _)).mono ?_⟩
  rintro e w' ⟨rfl, rfl⟩
  gi_wp2_with fail
  generalize hW0 : (((w.alloc (.cells #[.int .i64 a] 3)).alloc (.cells #[.slice none 0 0] 26)).alloc (.cells #[.map (some M)] 56)) = W0
  have hsz0 : w.heap.size + 3 ≤ W0.heap.size := by rw [← hW0]; simp
  have f0 : Bk W0 w.heap.size 3 #[.int .i64 a] := by rw [← hW0]; exact (Bk.alloc (Bk.alloc (heap_alloc_new w _) _) _)
  have f1 : Bk W0 (w.heap.size + 1) 26 #[.slice none 0 0] := by rw [← hW0]; exact Bk.alloc (heap_alloc2_new w _ _) _
  have f2 : W0.cell? ⟨w.heap.size + 2, 0, none⟩ = some (.map (some M)) := by
    rw [← hW0]
    have := cell_of_row _ _ 0 _ 56 (0, 0) (heap_alloc_new ((w.alloc (.cells #[.int .i64 a] 3)).alloc (.cells #[.slice none 0 0] 26)) (.cells #[.map (some M)] 56))
    simpa using this
  have f3 : W0.heap[M]? = some (.map (ents n xs 0).toArray xs.length) := by
    rw [← hW0]
    exact (Below.heap_alloc _ _ _ (by simp; omega)).trans ((Below.heap_alloc _ _ _ (by simp; omega)).trans ((Below.heap_alloc _ _ _ (by omega)).trans HMP.out))
  have f4 : Below w.heap.size w W0 := by rw [← hW0]; exact (((Below.refl _ w).alloc (Nat.le_refl _) _).alloc (by simp) _).alloc (by simp; omega) _
  have F0 := hid f0
  have F1 := hid f1
  have F2 := hid f2
  have F3 := hid f3
  have F4 := hid f4
  clear f0 f1 f2 f3 f4 hW0 d1 c1
  refine range_outer (gf := 47) (lb := #[.pointer (some ⟨w.heap.size + 2, 0, none⟩)]) rfl (enters Try.func47 rfl (by kernel_rfl)) ?_
  intro fn
  generalize hLO : Obj.loop _ = LO
  have HLO := hid hLO
  have hLw : LO.isWalk = false := by rw [← hLO]; rfl
  clear hLO
  have g0 : ((W0.alloc (.deferred (some []))).alloc LO).heap[W0.heap.size + 1]? = some LO := heap_alloc2_new W0 _ _
  have g1 : ((W0.alloc (.deferred (some []))).alloc LO).heap[W0.heap.size]? = some (.deferred (some [])) := heap_alloc2_old W0 _ _
  have g2 : Below w.heap.size w ((W0.alloc (.deferred (some []))).alloc LO) := (F4.out.alloc (by omega) _).alloc (by simp; omega) _
  refine (keys47 2 (W0.heap.size + 1) (w.heap.size + 2) M n xs _ (fun pre W => OpenInv w W0.heap.size LO n a xs.length pre W) ?_ ?_ ?_ ?_ ?_).mono ?_
  · rw [World.cell?_alloc_lt _ _ _ (by show w.heap.size + 2 < _; simp; omega), World.cell?_alloc_lt _ _ _ (by show w.heap.size + 2 < _; omega)]
    exact F2.out
  · exact (Below.heap_alloc _ _ _ (by simp; omega)).trans ((Below.heap_alloc _ _ _ (by omega)).trans F3.out)
  · rintro pre A C row ⟨i1, i2, i3, ⟨v, i4, i5⟩, i6, i7, i8⟩ hg hr
    exact ⟨walk_keeps hg hr i1 hLw, walk_keeps hg hr i2 rfl, walk_keeps hg hr i3 rfl, ⟨v, walk_keeps hg hr i4 rfl, walk_own hg hr i5⟩, walk_below hg hr i6 (by simp; omega) i6.size, i7, i8⟩
  · rintro pre j W1 ⟨i1, i2, i3, ⟨v, i4, i5⟩, i6, i7, i8⟩ hj hjp
    have HND : Hid ((pre ++ [j]).Nodup) := by
      show (pre ++ [j]).Nodup
      rw [List.nodup_append]
      exact ⟨i7, by simp, fun x hx b hb e => hjp (by rw [List.mem_singleton.1 hb] at e; rw [← e]; exact hx)⟩
    have HLT : Hid (∀ i ∈ pre ++ [j], i < xs.length) := by
      intro i hi
      rcases List.mem_append.1 hi with h | h
      · exact i8 i h
      · rw [List.mem_singleton.1 h]; exact hj
    have hpl : pre.length ≤ 16 := by
      have hsub := i7.length_le_of_subset (l₂ := List.range xs.length) (fun i hi => List.mem_range.2 (i8 i hi))
      simp at hsub
      omega
    clear i7 i8 hjp
    refine yield_of HLO.out i1 rfl ?_
    intro BO hbc hbw
    have hL1 : W0.heap.size + 1 < W1.heap.size := (Array.getElem?_eq_some_iff.1 i1).1
    have hI1 := hid i1
    have hI2 := hid i2
    have hI3 := hid i3
    have hI4 := hid i4
    have hI5 := hid i5
    have hI6 := hid i6
    clear i1 i2 i3 i4 i5 i6
    unfold keyV
    gi_wp2
    refine ⟨(Below.heap_alloc _ _ _ hL1).trans hI1.out, ?_⟩
    have hkb : (W1.alloc (.cells #[.int .i64 n, .int .i64 (j : Int)] 70)).heap[W1.heap.size]? = some (.cells #[.int .i64 n, .int .i64 (j : Int)] 70) := heap_alloc_new W1 _
    have hput : ∀ k o, k ≠ W0.heap.size + 1 → W1.heap[k]? = some o → ((W1.alloc (.cells #[.int .i64 n, .int .i64 (j : Int)] 70)).putObj (W0.heap.size + 1) BO).heap[k]? = some o := by
      intro k o hk ho
      exact (World.putObj_heap_other hk).trans ((Below.heap_alloc _ _ _ (Array.getElem?_eq_some_iff.1 ho).1).trans ho)
    have hkey : Bk ((W1.alloc (.cells #[.int .i64 n, .int .i64 (j : Int)] 70)).putObj (W0.heap.size + 1) BO) W1.heap.size 70 #[.int .i64 n, .int .i64 (j : Int)] :=
      (World.putObj_heap_other (by omega)).trans (heap_alloc_new W1 _)
    have hbo : ((W1.alloc (.cells #[.int .i64 n, .int .i64 (j : Int)] 70)).putObj (W0.heap.size + 1) BO).heap[W0.heap.size + 1]? = some BO := World.putObj_heap_same (by simp; omega)
    have hkw : KeepsWalks W1 ((W1.alloc (.cells #[.int .i64 n, .int .i64 (j : Int)] 70)).putObj (W0.heap.size + 1) BO) :=
      (KeepsWalks.alloc W1 _).trans (KeepsWalks.putObj BO ((Below.heap_alloc _ _ _ hL1).trans hI1.out) hLw)
    have hbel : Below w.heap.size w ((W1.alloc (.cells #[.int .i64 n, .int .i64 (j : Int)] 70)).putObj (W0.heap.size + 1) BO) :=
      (hI6.out.alloc hI6.out.size _).grown (grownBy_putObj' _ _ _) (by have := hI6.out.size; simp; omega) (fun k e => by cases e; omega)
    have hown2 : ((W1.alloc (.cells #[.int .i64 n, .int .i64 (j : Int)] 70)).putObj (W0.heap.size + 1) BO).ownsRow (w.heap.size + 3) 3 1 v (openL n a pre).length (icells (openL n a pre)) := by
      refine (hI5.out.alloc _).kept (grownBy_putObj' _ (W0.heap.size + 1) BO) ?_
      rcases hv : v.ownBlock with _ | g
      · exact .inl rfl
      · right
        obtain ⟨cs, hcs⟩ := own_block hI5.out hv
        intro e
        injection e with e
        unfold Bk at hcs
        rw [e, hI1.out] at hcs
        injection hcs with hcs
        rw [hcs] at HLO
        exact absurd HLO.out (by intro h; cases h)
    have b0 := hid (show Bk _ w.heap.size 3 #[.int .i64 a] from hput _ _ (by omega) hI3.out)
    have b1 := hid (show Bk _ (w.heap.size + 1) 26 #[v] from hput _ _ (by omega) hI4.out)
    have b2 := hid (hput _ _ (by omega) hI2.out)
    have HKW := hid hkw
    have HBEL := hid hbel
    have HOWN := hid hown2
    have HBO := hid hbo
    have k0 := hkey.cell 0
    have k1 := hkey.cell 1
    have k2 := b0.out.cell 0
    have k3 := b1.out.cell 0
    have z1 := b1.out.froz 0
    simp only [List.getElem?_toArray, List.getElem?_cons_zero, List.getElem?_cons_succ] at k0 k1 k2 k3
    generalize hW2 : (W1.alloc (.cells #[.int .i64 n, .int .i64 (j : Int)] 70)).putObj (W0.heap.size + 1) BO = W2 at *
    clear hkw hbel hown2 hbo hput hkb hkey hW2
    by_cases han : a = n
    · subst han
      have hO : openL a a (pre ++ [j]) = openL a a pre ++ [(j : Int)] := by unfold openL; rw [if_pos rfl, if_pos rfl, List.map_append]; rfl
      have HO := hid hO
      have hol : (openL a a pre).length ≤ 4096 := by
        unfold openL
        rw [if_pos rfl, List.length_map]
        omega
      have hs2 := HBEL.out.size
      have hs3 : W0.heap.size + 1 < W2.heap.size := (Array.getElem?_eq_some_iff.1 HBO.out).1
      have hsl := Sl.one W2 (.int .i64 (j : Int)) 3
      clear hO
      generalize openL a a pre = ol at *
      gi_wp2_with (gi_at_builtin; refine appendIn_sl _ rfl (.tmp 20) (.tmp 23) 26 rfl (w.heap.size + 3) 3 i0 _ 1 8 Try.underlying26 hi0 hz0 hz1 hz2 rfl (by omega) v _ _ rfl (HOWN.out.alloc _) _ 1 1 _ rfl hsl (by simp [Value.oneCell']) (by unfold maxLen; omega) (by omega) (by simp; omega) ?_; intro v4 w4 hown4 hg4 hat4; obtain ⟨A4, c4, rfl⟩ := own_form hown4; have hc1 := (b1.out.alloc (.cells #[.int .i64 (j : Int)] 3)); have hk4 := (World.cell?_of_block (a := ⟨w.heap.size + 1, 0, none⟩) (hg4.block (w.heap.size + 1) hc1.lt (Ne.symm (own_ne (HOWN.out.alloc _) hc1 (by decide))))).trans (hc1.cell 0); have hz4 := (World.frozen?_of_block (a := ⟨w.heap.size + 1, 0, none⟩) (hg4.block (w.heap.size + 1) hc1.lt (Ne.symm (own_ne (HOWN.out.alloc _) hc1 (by decide))))).trans (hc1.froz 0))
      have hB4 := hid (HBEL.out.alloc hs2 (.cells #[.int .i64 (j : Int)] 3))
      have hfar : ∀ (k : Nat) (o : Obj), k ≠ w.heap.size + 1 → W2.heap[k]? = some o → (some k ≠ v.ownBlock) → (w4.setCell ⟨w.heap.size + 1, 0, none⟩ (.slice A4 (ol.length + 1) c4)).heap[k]? = some o := by
        intro k o hk ho hne
        rw [Below.heap_setCell _ _ _ _ hk]
        have hkl := (Array.getElem?_eq_some_iff.1 ho).1
        exact (hg4.block k (by simp; omega) hne).trans ((Below.heap_alloc _ _ _ hkl).trans ho)
      have hvlt : ∀ k, v.ownBlock = some k → w.heap.size + 3 ≤ k := fun k hk => (HOWN.out.lt k hk).1
      have hB4w : Below w.heap.size w w4 := hB4.out.grown hg4 (by simp; omega) (fun k hk => by have := hvlt k hk; omega)
      have hbk4 : Bk w4 (w.heap.size + 1) 26 #[v] := (hg4.block _ hc1.lt (fun e => by have := hvlt _ e.symm; omega)).trans hc1
      have hset := hbk4.set_ 0 (.slice A4 (ol.length + 1) c4)
      have e1 := hfar _ _ (by omega) HBO.out (Ne.symm (own_ne_obj HOWN.out HBO.out hbc))
      refine ⟨e1, rfl, ?_, ?_⟩
      · refine openInv_put (by omega) e1 hbc (hfar _ _ (by omega) b2.out (Ne.symm (own_ne_obj HOWN.out b2.out rfl)))
          (hfar _ _ (by omega) b0.out (fun e => by have := hvlt _ e.symm; omega)) (v := .slice A4 (ol.length + 1) c4) hset ?_ (hB4w.setCell (by simp) _) HND.out HLT.out
        have := ownsRow_setCell_below hown4 (a := ⟨w.heap.size + 1, 0, none⟩) (by simp) (.slice A4 (ol.length + 1) c4)
        rw [HO.out, List.length_append]
        show World.ownsRow _ _ _ _ _ _ (icells (ol ++ [(j : Int)]))
        rw [show icells (ol ++ [(j : Int)]) = icells ol ++ [.int .i64 (j : Int)] by simp [icells]]
        exact this
      · have k1 : KeepsWalks W2 w4 := (KeepsWalks.alloc W2 (.cells #[.int .i64 (j : Int)] 3)).trans (KeepsWalks.of_grownBy hg4 (fun k o hk ho => by
          obtain ⟨cs, hcs⟩ := own_block (HOWN.out.alloc (.cells #[.int .i64 (j : Int)] 3)) hk
          unfold Bk at hcs
          rw [hcs] at ho
          injection ho with ho
          rw [← ho]; rfl))
        exact HKW.out.trans (k1.trans ((KeepsWalks.setCell w4 ⟨w.heap.size + 1, 0, none⟩ (.slice A4 (ol.length + 1) c4)).trans (KeepsWalks.putObj LO e1 hbw)))
    · have hne : (n == a) = false := by simp; exact fun h => han h.symm
      have hO : openL n a (pre ++ [j]) = openL n a pre := by unfold openL; rw [if_neg han, if_neg han]
      have HO := hid hO
      clear hO han
      gi_wp2
      refine ⟨HBO.out, rfl, openInv_put (by omega) HBO.out hbc b2.out b0.out b1.out (by rw [HO.out]; exact HOWN.out) HBEL.out HND.out HLT.out, HKW.out.trans (KeepsWalks.putObj LO HBO.out hbw)⟩
  · refine ⟨g0, g1, ?_, ⟨.slice none 0 0, ?_, ?_⟩, g2, List.nodup_nil, fun i hi => by cases hi⟩
    · exact (F0.out.alloc _).alloc _
    · exact (F1.out.alloc _).alloc _
    · have : openL n a [] = [] := by unfold openL; split <;> rfl
      rw [this]
      exact World.ownsRow_nil _ _ _ _
  · rintro e W3 ⟨⟨v3, rfl⟩, pre, hperm, i1, i2, i3, ⟨v, i4, i5⟩, i6, i7, i8⟩
    refine range_end HLO.out i1 ?_
    intro EO hec hew
    have hLs : W0.heap.size + 1 < W3.heap.size := (Array.getElem?_eq_some_iff.1 i1).1
    have HE1 := hid (show Bk (W3.putObj (W0.heap.size + 1) EO) (w.heap.size + 1) 26 #[v] from (World.putObj_heap_other (by omega)).trans i4)
    have HE2 := hid (show (W3.putObj (W0.heap.size + 1) EO).heap[W0.heap.size]? = some (.deferred (some [])) from (World.putObj_heap_other (by omega)).trans i2)
    have HE3 := hid (own_putObj EO i5 i1 (by rw [← HLO.out]; rfl))
    have HE4 := hid (show Below w.heap.size w (W3.putObj (W0.heap.size + 1) EO) from i6.grown (grownBy_putObj' _ _ _) i6.size (fun k e => by cases e; omega))
    have hkc := HE1.out.cell 0
    simp only [List.getElem?_toArray, List.getElem?_cons_zero] at hkc
    generalize W3.putObj (W0.heap.size + 1) EO = W4 at *
    clear i1 i2 i3 i4 i5 i6 i7 i8 HLO g0 g1 g2
    have hol : (openL n a pre).length ≤ 4096 := by
      have hp := hperm.length_eq
      unfold openL
      split
      · rw [List.length_map, hp, List.length_range]; omega
      · simp
    have hso := hid (sort39 (w.heap.size + 3) v (openL n a pre) W4 HE3.out hol)
    have HPM := hid hperm
    clear hperm
    gi_wp2_with fail
    refine ⟨trivial, (callsIn_wide.2 hso.out).mono ?_⟩
    rintro e W5 ⟨rfl, ho5, hg5⟩
    have hvlt : ∀ k, v.ownBlock = some k → w.heap.size + 3 ≤ k := fun k hk => (HE3.out.lt k hk).1
    have hbk5 : Bk W5 (w.heap.size + 1) 26 #[v] := (hg5.block _ HE1.out.lt (fun e => by have := hvlt _ e.symm; omega)).trans HE1.out
    have hd5 : W5.heap[W0.heap.size]? = some (.deferred (some [])) := (hg5.block _ (Array.getElem?_eq_some_iff.1 HE2.out).1 (Ne.symm (own_ne_obj HE3.out HE2.out rfl))).trans HE2.out
    have hB5 : Below w.heap.size w W5 := HE4.out.grown hg5 HE4.out.size (fun k hk => by have := hvlt k hk; omega)
    have hk5 := hbk5.cell 0
    simp only [List.getElem?_toArray, List.getElem?_cons_zero] at hk5
    have HD5 := hid hd5
    have HO5 := hid ho5
    have HB5 := hid hB5
    clear hkc hso hg5 hbk5 hd5 hB5 ho5
    gi_wp2_with fail
    refine ⟨by simp, .inl ⟨_, _, rfl, run_takeDeferred HD5.out, ?_⟩⟩
    refine ⟨_, results_tmp rfl _ _ _, v, rfl, ?_, HB5.out.grown (grownBy_putObj' _ _ _) HB5.out.size (fun k e => by cases e; omega)⟩
    have hfin := own_base (own_putObj (.deferred none) HO5.out HD5.out rfl) (show w.heap.size ≤ w.heap.size + 3 by omega)
    rw [openL_sorted n a HPM.out] at hfin
    have hll : (openL n a (List.range xs.length)).length = (openL n a pre).length := by
      rw [← openL_sorted n a HPM.out, List.length_mergeSort]
    rw [hll]
    exact hfin
end Go.Proofs.Ythgfmkdgemepnaa
