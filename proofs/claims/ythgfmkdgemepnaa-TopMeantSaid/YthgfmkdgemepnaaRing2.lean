/- ring: the packets of a port, as TopMeant gathers them. -/
import Derived.Test.YthgfmkdgemepnaaRing
namespace Go.Proofs.Ythgfmkdgemepnaa
open Go.RowKit Go.Shelf
attribute [local go_sem] Oper.semAt_some

theorem run_equalIn80_nil (d : Nat) (f : Fn) (xs ys : Array Value) (w : World) : (Op.equalIn (d + 1) 80 (.func f xs ys) .nilFunc).run Try.prog w = .ok false w := by
  simp [Op.equalIn, run_underlying Try.underlying80]
theorem run_equal80_nil (f : Fn) (xs ys : Array Value) (w : World) : (Op.equal 80 (.func f xs ys) .nilFunc).run Try.prog w = .ok false w := run_equalIn80_nil 9999 f xs ys w
theorem run_eql80_nil (f : Fn) (xs ys : Array Value) (w : World) : (binOp .eql 80 (.func f xs ys) .nilFunc).run Try.prog w = .ok (.bool false) w := by
  simp only [binOp]
  simp [run_equal80_nil f xs ys w]

theorem Bk.at_ (w : World) {cs : Array Value} {t : TypeId} {g : Nat} (hg : g = w.heap.size) : Bk (w.alloc (.cells cs t)) g t cs := by subst hg; exact heap_alloc_new w _

theorem own_move {w w' : World} {base : Nat} {e : TypeId} {size n : Nat} {v : Value} {xs : List Value} (h : w.ownsRow base e size v n xs) (hk : ∀ g cs, v.ownBlock = some g → Bk w g e cs → Bk w' g e cs) : w'.ownsRow base e size v n xs := by
  obtain ⟨h1, h2⟩ := h
  refine ⟨h1, ?_⟩
  rcases h2 with h2 | ⟨g, cap, cur, hv, hg, hh, r⟩
  · exact .inl h2
  · exact .inr ⟨g, cap, cur, hv, hg, hk g cur (by rw [hv]; rfl) hh, r⟩

/-- Between two rounds of ring's loop. -/
structure RingInv (w : World) (D : Nat) (LO : Obj) (ring : List (List UInt8)) (v : Value) (vs : List Value) (i : Nat) (W : World) : Prop where
  loop : W.heap[D + 1]? = some LO
  dfr : W.heap[D]? = some (.deferred (some []))
  lst : W.ownsRow 0 39 1 v ring.length vs
  rows : RowsOf W vs ring
  out : ∃ u, Bk W w.heap.size 23 #[u] ∧ W.ownsRow (w.heap.size + 1) 39 1 u i (vs.take i) ∧ (u.ownBlock = none ∨ u.ownBlock ≠ v.ownBlock)
  bel : Below w.heap.size w W
  few : i ≤ ring.length

set_option maxRecDepth 100000 in
set_option maxHeartbeats 2000000 in
theorem ring13 {w : World} {base PB M : Nat} {qv : Value} {n : Int} {quotas : List Int} {xs : List Nat} {ps : List PortSt} (h : PortsAt w base PB M qv n quotas xs ps) (k : Nat) (X : Nat) (p : PortSt) (hx : xs[k]? = some X) (hp : ps[k]? = some p) (h0 : 0 ≤ n) (h1 : n < quotas.length) :
    Calls Try.prog 13 #[.pointer (some ⟨PB, 0, none⟩), .int .i64 n, .int .i64 (k : Int)] w fun e w' => ∃ v vs, e = .returned v ∧ w'.ownsRow w.heap.size 39 1 v p.ring.length vs ∧ RowsOf w' vs p.ring ∧ Below w.heap.size w w' := by
  have hM : M < w.heap.size := (Array.getElem?_eq_some_iff.1 h.mp).1
  obtain ⟨i0, hi0, hz0, hz1, hz2⟩ := info_parts info39
  have hfew : p.ring.length ≤ 8 := by
    obtain ⟨_, _, _, _, hr⟩ := h.port k X p hx hp
    exact hr.few
  have HP := hid h
  have HX := hid hx
  have HPP := hid hp
  have hr32 := hid (ring32 (.pointer (some ⟨PB, 0, none⟩)) _ rfl n (k : Int) (w.alloc (.cells #[.slice none 0 0] 23)))
  clear h hx hp
  rw [← callsIn_wide (n := 3)]
  refine callsIn_of_wp_marks Try.func13 rfl trivial ?_ rfl
  simp only [Try.ntmps13, List.size_toArray, List.length_cons, List.length_nil, Nat.reduceAdd, Nat.reduceSub, Array.replicate_succ, Array.replicate_zero, List.push_toArray, List.append_toArray, List.nil_append, List.cons_append]
  have hq := fun (xs ys : Array Value) (W : World) => run_eql80_nil (.func 45) xs ys W
  gi_wp2_with fail
  refine ⟨trivial, (callsIn_wide.2 hr32.out).mono ?_⟩
  rintro e w2 ⟨rfl, rfl⟩
  gi_wp2_with fail
  generalize hW0 : (((w.alloc (.cells #[.slice none 0 0] 23)).alloc (.cells #[.pointer (some ⟨PB, 0, none⟩)] 27)).alloc (.cells #[.int .i64 n] 3)).alloc (.cells #[.int .i64 (k : Int)] 3) = W0
  have hsz0 : w.heap.size + 4 ≤ W0.heap.size := by rw [← hW0]; simp
  have hf0 : Below w.heap.size w W0 := by rw [← hW0]; exact ((((Below.refl _ w).alloc (Nat.le_refl _) _).alloc (by simp) _).alloc (by simp; omega) _).alloc (by simp; omega) _
  have e0 : Bk W0 w.heap.size 23 #[.slice none 0 0] := by rw [← hW0]; exact (((show Bk (w.alloc (.cells #[.slice none 0 0] 23)) w.heap.size 23 #[.slice none 0 0] from heap_alloc_new w _).alloc _).alloc _).alloc _
  have e1 : Bk W0 (w.heap.size + 1) 27 #[.pointer (some ⟨PB, 0, none⟩)] := by rw [← hW0]; exact ((show Bk ((w.alloc (.cells #[.slice none 0 0] 23)).alloc (.cells #[.pointer (some ⟨PB, 0, none⟩)] 27)) (w.heap.size + 1) 27 #[.pointer (some ⟨PB, 0, none⟩)] from heap_alloc2_new w _ _).alloc _).alloc _
  have e2 : Bk W0 (w.heap.size + 2) 3 #[.int .i64 n] := by rw [← hW0]; exact (Bk.at_ _ (by simp)).alloc _
  have e3 : Bk W0 (w.heap.size + 3) 3 #[.int .i64 (k : Int)] := by rw [← hW0]; exact Bk.at_ _ (by simp)
  have E0 := hid e0
  have E1 := hid e1
  have E2 := hid e2
  have E3 := hid e3
  have F0 := hid hf0
  clear e0 e1 e2 e3 hf0 hW0 hr32 hq
  refine range_outer (gf := 45) (lb := #[.pointer (some ⟨w.heap.size + 1, 0, none⟩), .pointer (some ⟨w.heap.size + 2, 0, none⟩), .pointer (some ⟨w.heap.size + 3, 0, none⟩)]) rfl (enters Try.func45 rfl (by kernel_rfl)) ?_
  intro fn
  generalize hLO : Obj.loop _ = LO
  have HLO := hid hLO
  have hLw : LO.isCells = false := by rw [← hLO]; rfl
  clear hLO
  have g0 := hid (heap_alloc2_new W0 (.deferred (some [])) LO)
  have g1 := hid (heap_alloc2_old W0 (.deferred (some [])) LO)
  have hs6 : W0.heap.size + 2 ≤ ((W0.alloc (.deferred (some []))).alloc LO).heap.size := by simp
  have hb6 := hid ((F0.out.alloc (by omega) (.deferred (some []))).alloc (by simp; omega) LO)
  have q0 := hid ((E0.out.alloc (.deferred (some []))).alloc LO)
  have q1 := (E1.out.alloc (.deferred (some []))).alloc LO
  have q2 := (E2.out.alloc (.deferred (some []))).alloc LO
  have q3 := (E3.out.alloc (.deferred (some []))).alloc LO
  have hps6 := HP.out.fin (Fin'.of_below hb6.out) hM
  generalize (W0.alloc (.deferred (some []))).alloc LO = W6 at *
  refine (ring45 hps6 k X p HX.out HPP.out h0 h1 2 (W0.heap.size + 1) _ _ _ (fun W46 v vs i W => W6.heap.size ≤ W46.heap.size ∧ RingInv w W0.heap.size LO p.ring v vs i W) q1 q2 q3 ?_ ?_ ?_).mono ?_
  · intro W46 v vs ho hr hb
    refine ⟨hb.size, (hb.block _ (by omega)).trans g0.out, (hb.block _ (by omega)).trans g1.out, own_base ho (Nat.zero_le _), hr, ⟨.slice none 0 0, (hb.block _ (by omega)).trans q0.out, ?_, .inl rfl⟩, hb6.out.trans (hb.mono (by omega)), Nat.zero_le _⟩
    exact World.ownsRow_nil _ _ _ _
  · rintro W46 v vs i W ⟨_, hi⟩
    exact ⟨hi.lst, hi.rows⟩
  · rintro W46 v vs i W1 u ⟨hs46, hi⟩ hu
    obtain ⟨q, hq, hqo, hqne⟩ := hi.out
    have hu1 := hi.rows.one u (List.mem_of_getElem? hu)
    have hL1 := (Array.getElem?_eq_some_iff.1 hi.loop).1
    have hilt : i < p.ring.length := by have := (List.getElem?_eq_some_iff.1 hu).1; rw [hi.rows.len] at this; exact this
    obtain ⟨uA, uc, hue, _⟩ := hi.rows.at_ i _ (List.getElem?_eq_getElem hilt)
    rw [hu] at hue
    injection hue with hue
    subst hue
    generalize (p.ring[i]).length = ul at *
    have HI := hid hi
    have HQ := hid hq
    have HQO := hid hqo
    have HNE := hid hqne
    have HU := hid hu
    have HL1 := hid hL1
    clear hi hq hqo hqne hu q1 q2 q3 hL1
    refine yield_of HLO.out HI.out.loop rfl ?_
    intro BO hbc hbw
    gi_wp2
    refine ⟨HI.out.loop, ?_⟩
    have hbo : (W1.putObj (W0.heap.size + 1) BO).heap[W0.heap.size + 1]? = some BO := World.putObj_heap_same HL1.out
    have b2 : Bk (W1.putObj (W0.heap.size + 1) BO) w.heap.size 23 #[q] := (World.putObj_heap_other (by omega)).trans HQ.out
    have d2 : (W1.putObj (W0.heap.size + 1) BO).heap[W0.heap.size]? = some (.deferred (some [])) := (World.putObj_heap_other (by omega)).trans HI.out.dfr
    have o2 := own_putObj BO HQO.out HI.out.loop hLw
    have l2 := own_putObj BO HI.out.lst HI.out.loop hLw
    have r2 : RowsOf (W1.putObj (W0.heap.size + 1) BO) vs p.ring := HI.out.rows.kept (grownBy_putObj' _ _ _) (fun v n xs h => .inr (own_ne_obj h HI.out.loop hLw))
    have w2 : Below w.heap.size w (W1.putObj (W0.heap.size + 1) BO) := HI.out.bel.grown (grownBy_putObj' _ _ _) HI.out.bel.size (fun k e => by cases e; omega)
    have k2 := b2.cell 0
    have z2 := b2.froz 0
    simp only [List.getElem?_toArray, List.getElem?_cons_zero] at k2
    generalize W1.putObj (W0.heap.size + 1) BO = W2 at *
    have B2 := hid b2
    have D2 := hid d2
    have O2 := hid o2
    have L2 := hid l2
    have R2 := hid r2
    have E2 := hid w2
    have HBO := hid hbo
    have hs2 := w2.size
    have hs3 := b2.lt
    have hsl := Sl.one W2 (.slice uA ul uc) 39
    clear b2 d2 o2 l2 r2 w2 hbo
    gi_wp2_with (gi_at_builtin; refine appendIn_sl _ rfl (.tmp 20) (.tmp 22) 23 rfl (w.heap.size + 1) 39 i0 _ 1 24 Try.underlying23 hi0 hz0 hz1 hz2 rfl (by omega) q _ _ rfl (O2.out.alloc _) _ 1 1 _ rfl hsl (by intro x hx; rw [List.mem_singleton.1 hx]; exact hu1) (by unfold maxLen; omega) (by omega) (by simp; omega) ?_; intro v4 w4 hown4 hg4 hat4; obtain ⟨A4, c4, rfl⟩ := own_form hown4; have hc1 := (B2.out.alloc (.cells #[.slice uA ul uc] 39)); have hk4 := (World.cell?_of_block (a := ⟨w.heap.size, 0, none⟩) (hg4.block w.heap.size hc1.lt (Ne.symm (own_ne (O2.out.alloc _) hc1 (by decide))))).trans (hc1.cell 0); have hz4 := (World.frozen?_of_block (a := ⟨w.heap.size, 0, none⟩) (hg4.block w.heap.size hc1.lt (Ne.symm (own_ne (O2.out.alloc _) hc1 (by decide))))).trans (hc1.froz 0))
    have hB4 := hid (E2.out.alloc hs2 (.cells #[.slice uA ul uc] 39))
    have hvlt : ∀ k, q.ownBlock = some k → w.heap.size + 1 ≤ k ∧ k < W2.heap.size := fun k hk => O2.out.lt k hk
    have hfar : ∀ (k : Nat) (o : Obj), k ≠ w.heap.size → W2.heap[k]? = some o → (some k ≠ q.ownBlock) → (w4.setCell ⟨w.heap.size, 0, none⟩ (.slice A4 (i + 1) c4)).heap[k]? = some o := by
      intro k o hk ho hne
      rw [Below.heap_setCell _ _ _ _ hk]
      have hkl := (Array.getElem?_eq_some_iff.1 ho).1
      exact (hg4.block k (by simp; omega) hne).trans ((Below.heap_alloc _ _ _ hkl).trans ho)
    have hB4w : Below w.heap.size w w4 := hB4.out.grown hg4 (by simp; omega) (fun k hk => by have := hvlt k hk; omega)
    have hbk4 : Bk w4 w.heap.size 23 #[q] := (hg4.block _ hc1.lt (fun e => by have := hvlt _ e.symm; omega)).trans hc1
    have hset := hbk4.set_ 0 (.slice A4 (i + 1) c4)
    have e1 := hfar _ _ (by omega) HBO.out (Ne.symm (own_ne_obj O2.out HBO.out hbc))
    have e2 := hfar _ _ (by omega) D2.out (Ne.symm (own_ne_obj O2.out D2.out rfl))
    have hlst := own_move L2.out (w' := w4.setCell ⟨w.heap.size, 0, none⟩ (.slice A4 (i + 1) c4)) (fun g cs hv hb => hfar g _ (bk_ne' hb B2.out (by decide)) hb (fun e => by
      rcases HNE.out with h | h
      · rw [h] at e; cases e
      · exact h (e.symm.trans hv.symm)))
    refine ⟨e1, rfl, World.putObj_heap_same (Array.getElem?_eq_some_iff.1 e1).1, (World.putObj_heap_other (by omega)).trans e2, own_putObj LO hlst e1 hbc, ⟨R2.out.len, fun j l hl => ?_⟩, ⟨.slice A4 (i + 1) c4, (World.putObj_heap_other (by omega)).trans hset, ?_, ?_⟩, ?_, by omega⟩
    · obtain ⟨xA, xc, f1, f2⟩ := R2.out.at_ j l hl
      refine ⟨xA, xc, f1, own_putObj LO (own_move f2 (fun g cs hv hb => hfar g _ (bk_ne' hb B2.out (by decide)) hb (fun e => own_ne O2.out hb (by decide) e.symm))) e1 hbc⟩
    · have hh := ownsRow_setCell_below hown4 (a := ⟨w.heap.size, 0, none⟩) (by simp) (.slice A4 (i + 1) c4)
      rw [List.take_add_one, HU.out]
      exact own_putObj LO hh e1 hbc
    · right
      rcases hat4 with h | h
      · rw [h]
        rcases HNE.out with h2 | h2
        · rw [h2] at h
          rw [h2]
          intro e
          rcases hown4.2 with ⟨e2, _⟩ | ⟨g', _, _, e2, _⟩
          · injection e2 with _ e3; omega
          · rw [e2] at h; cases h
        · exact h2
      · rw [h]
        intro e
        have := (L2.out.lt _ e.symm).2
        simp at this
        omega
    · exact (hB4w.setCell (Nat.le_refl _) _).grown (grownBy_putObj' _ _ _) (by have := hB4w.size; simpa using this) (fun k e => by cases e; omega)
  · rintro e W3 ⟨⟨v3, rfl⟩, W46, v, vs, _, hi⟩
    refine range_end HLO.out hi.loop ?_
    intro EO hec hew
    obtain ⟨q, hq, hqo, hqne⟩ := hi.out
    have hL3 := (Array.getElem?_eq_some_iff.1 hi.loop).1
    have HE1 := hid (show Bk (W3.putObj (W0.heap.size + 1) EO) w.heap.size 23 #[q] from (World.putObj_heap_other (by omega)).trans hq)
    have HE2 := hid (show (W3.putObj (W0.heap.size + 1) EO).heap[W0.heap.size]? = some (.deferred (some [])) from (World.putObj_heap_other (by omega)).trans hi.dfr)
    have HE3 := hid (own_putObj EO hqo hi.loop hLw)
    have HE4 := hid (show Below w.heap.size w (W3.putObj (W0.heap.size + 1) EO) from hi.bel.grown (grownBy_putObj' _ _ _) hi.bel.size (fun k e => by cases e; omega))
    have HE5 := hid (show RowsOf (W3.putObj (W0.heap.size + 1) EO) vs p.ring from hi.rows.kept (grownBy_putObj' _ _ _) (fun v n xs h => .inr (own_ne_obj h hi.loop hLw)))
    have hkc := HE1.out.cell 0
    simp only [List.getElem?_toArray, List.getElem?_cons_zero] at hkc
    generalize W3.putObj (W0.heap.size + 1) EO = W4 at *
    have HVL := hid hi.rows.len
    clear hi hq hqo hqne q1 q2 q3
    gi_wp2_with fail
    refine ⟨by simp, .inl ⟨_, _, rfl, run_takeDeferred HE2.out, ?_⟩⟩
    refine ⟨_, results_tmp rfl _ _ _, q, rfl, vs, ?_, HE5.out.kept (grownBy_putObj' _ _ _) (fun v n xs h => .inr (own_ne_obj h HE2.out rfl)), HE4.out.grown (grownBy_putObj' _ _ _) HE4.out.size (fun k e => by cases e; omega)⟩
    have h := own_base (own_putObj (.deferred none) HE3.out HE2.out rfl) (show w.heap.size ≤ w.heap.size + 1 by omega)
    rw [List.take_of_length_le (by rw [HVL.out]; exact Nat.le_refl _)] at h
    exact h
end Go.Proofs.Ythgfmkdgemepnaa
