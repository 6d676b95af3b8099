/- Come. -/
import Derived.Test.YthgfmkdgemepnaaCome0
namespace Go.Proofs.Ythgfmkdgemepnaa
open Go.RowKit Go.Shelf
attribute [local go_sem] Oper.semAt_some

/-- append, behind a name that the walk does not open. -/
def appendHid (ts : Array TypeId) (t : TypeId) (vs : Array Value) : Sem Value := Builtin.append_ ts t vs
theorem append_hid (ts : Array TypeId) (t : TypeId) (vs : Array Value) : Builtin.append_ ts t vs = appendHid ts t vs := rfl
attribute [local go_sem ↓] append_hid

/-- How many ports a packet for account a is shown to. -/
def comeK (n : Int) (a : Nat) (xs : List Nat) : Nat := if (a : Int) = n then xs.length else 0
def ComePost (w : World) (base PB M : Nat) (qv : Value) (n : Int) (quotas : List Int) (xs : List Nat) (ps : List PortSt) (l : List UInt8) (a : Nat) (e : Ending) (W' : World) : Prop :=
  ∃ u, e = .returned (.tuple #[u, .int .i64 0]) ∧ W'.ownsRow w.heap.size 53 2 u (cameL ps l (comeK n a xs)).length (cameCells (cameL ps l (comeK n a xs))) ∧ PortsAt W' base PB M qv n quotas xs (stepTo ps l (comeK n a xs)) ∧ Kb xs w.heap.size w W'

theorem openL_come (n : Int) (a : Nat) (xs : List Nat) : (openL n a (List.range xs.length)).length = comeK n a xs := by
  unfold openL comeK
  split <;> simp
theorem openL_at {n : Int} {a : Nat} {xs : List Nat} {k : Nat} (hk : k < comeK n a xs) : (a : Int) = n ∧ k < xs.length ∧ (openL n a (List.range xs.length))[k]? = some (k : Int) := by
  unfold comeK at hk
  split at hk
  · rename_i h
    refine ⟨h, hk, ?_⟩
    unfold openL
    rw [if_pos h, List.getElem?_map, List.getElem?_range hk]
    rfl
  · omega

theorem Fin'.drew {A B : World} {b : Nat} (h : Fin' b A B) : Fin' b A B.drew := ⟨h.os, h.tape, h.output, h.size, h.keep⟩
theorem PassPost.below {f : List Ts} {l : List UInt8} {w : World} {e : Ending} {w' : World} (h : PassPost f l w e w') : Below w.heap.size w w' := by
  obtain ⟨_, _, _, _, _, _, _, _, _, h, _⟩ := h
  exact h
theorem bk_ne' {g g' : Nat} {t t' : TypeId} {cs cs' : Array Value} {V : World} (h1 : Bk V g t cs) (h2 : Bk V g' t' cs') (hne : t ≠ t') : g ≠ g' := by
  intro e
  subst e
  unfold Bk at h1 h2
  rw [h1] at h2
  injection h2 with h2
  injection h2 with _ h2
  exact hne h2
theorem info53 : (Try.prog.info? 53).map (fun i => (i.zero, i.size, i.bytes)) = some (some (.agg #[.int .i64 0, .bool false]), 2, 16) := by kernel_rfl
theorem Sl.two (w : World) (u v : Value) (t : TypeId) : Sl (w.alloc (.cells #[u, v] t)) 2 (some ⟨w.heap.size, 0, none⟩) 1 [u, v] := by
  refine ⟨rfl, fun _ => ⟨w.heap.size, 0, rfl, by simp, fun j x hx => ?_⟩⟩
  rw [Nat.zero_add, cell_of_row _ _ _ _ t (0, 0) (heap_alloc_new w _)]
  simpa using hx
theorem wp_cut {P : Program} {c : Code} {Q : Exit → Act → World → Prop} {a : Act} {w : World} (A : Act) (W : World) (h : c.wp P (fun e a' w' => e = .normal ∧ a' = A ∧ w' = W) a w) (hq : Q .normal A W) : c.wp P Q a w :=
  wp_mono h fun e a' w' ⟨h1, h2, h3⟩ => by rw [h1, h2, h3]; exact hq
theorem wp_cutX {T : Type} {P : Program} {c : Code} {Q : Exit → Act → World → Prop} {a : Act} {w : World} (A : T → Act) (R : T → World → Prop) (h : c.wp P (fun e a' w' => e = .normal ∧ ∃ t, R t w' ∧ a' = A t) a w) (hq : ∀ t w', R t w' → Q .normal (A t) w') : c.wp P Q a w :=
  wp_mono h fun e a' w' ⟨h1, t, h2, h3⟩ => by rw [h1, h3]; exact hq t w' h2

set_option maxRecDepth 100000 in
set_option maxHeartbeats 4000000 in
theorem come11_home {w : World} {base PB M : Nat} {qv : Value} {n : Int} {quotas : List Int} {xs : List Nat} {ps : List PortSt} (h : PortsAt w base PB M qv n quotas xs ps) (A : Option Addr) (c : Nat) (l : List UInt8)
    (hl : w.ownsRow 0 5 1 (.slice A l.length c) l.length (bcells l)) (hll : l.length ≤ 64) (a : Nat) (hh : homeOf l = some a) (hfew : xs.length ≤ 16) (hlost : ∀ p ∈ ps, p.lost < 4611686018427387904) (htl : ∀ p ∈ ps, p.tests.length ≤ 64) :
    Calls Try.prog 11 #[.pointer (some ⟨PB, 0, none⟩), .slice A l.length c] w (ComePost w base PB M qv n quotas xs ps l a) := by
  obtain ⟨i53, hi53, hz53, hs53, hb53⟩ := info_parts info53
  have hM : M < w.heap.size := (Array.getElem?_eq_some_iff.1 h.mp).1
  have hf0 : Fin' w.heap.size w ((w.alloc (.cells #[.slice A l.length c] 39)).alloc (.cells #[.slice none 0 0] 40)) := ((Fin'.refl _ w).alloc _).alloc _
  have hP2 : PortsAt ((w.alloc (.cells #[.slice A l.length c] 39)).alloc (.cells #[.slice none 0 0] 40)) base PB M qv n quotas xs ps := h.fin hf0 hM
  have hth := hid (there25 PB M qv _ (h.pb.alloc (.cells #[.slice A l.length c] 39)))
  have hho := hid (home26_some A c l a (w.alloc (.cells #[.slice A l.length c] 39)) ((Sl.of_own hl).alloc _) hll hh)
  have hop := hid (open27 hP2 hfew (a : Int))
  have HF0 := hid hf0
  have HP := hid h
  have HL := hid hl
  clear h hl hh hf0 hP2
  rw [← callsIn_wide (n := 3)]
  refine callsIn_of_wp_marks Try.func11 rfl trivial ?_ rfl
  simp only [Try.ntmps11, List.size_toArray, List.length_cons, List.length_nil, Nat.reduceAdd, Nat.reduceSub, Array.replicate_succ, Array.replicate_zero, List.push_toArray, List.append_toArray, List.nil_append, List.cons_append]
  refine wpIn_wide.2 ?_
  go_wp2_with fail
  refine hth.out.mono ?_
  rintro e w' ⟨rfl, rfl⟩
  go_wp2_with fail
  refine hho.out.mono ?_
  rintro e w' ⟨rfl, rfl⟩
  go_wp2_with fail
  refine hop.out.mono ?_
  rintro e W1 ⟨v, rfl, hown1, hb1⟩
  obtain ⟨vA, vc, rfl⟩ := own_form hown1
  rw [openL_come] at hown1 ⊢
  go_wp2_with fail
  have hsz2 : ((w.alloc (.cells #[.slice A l.length c] 39)).alloc (.cells #[.slice none 0 0] 40)).heap.size = w.heap.size + 2 := by simp
  rw [hsz2] at hown1 hb1
  have hb1' : Below w.heap.size w W1 := (((Below.refl _ w).alloc (Nat.le_refl _) _).alloc (by simp) _).trans (hb1.mono (by omega))
  have hcr : CR w base PB M qv n quotas xs ps l A c (.slice vA (comeK n a xs) vc) (openL n a (List.range xs.length)) [] 0 W1 := by
    refine ⟨?_, ?_, own_below HL.out hb1' (Nat.le_refl _), ?_, ⟨.slice none 0 0, ?_, World.ownsRow_nil _ _ _ _⟩, Kb.of_below hb1', (fun D h => absurd h (by simp)), (fun D h => absurd h (by simp)), List.nodup_nil⟩
    · rw [stepTo_zero]
      exact HP.out.fin (Fin'.of_below (B := w.heap.size) hb1') hM
    · exact (hb1.block w.heap.size (by omega)).trans (heap_alloc2_old w _ _)
    · rw [openL_come]; exact hown1
    · exact (hb1.block (w.heap.size + 1) (by omega)).trans (heap_alloc2_new w _ _)
  have HCR := hid hcr
  clear hcr hown1 hb1 hb1' hop hth hho HF0 HP hsz2
  refine wp_loop (fun a' W' => ∃ (k : Nat) (Ds : List Nat) (u1 u2 u4 u5 u7 u9 u10 u11 u12 u13 u14 u15 u16 u17 u18 u19 u20 u21 u22 u23 u24 u25 u26 u27 u28 u32 u33 u34 u35 u36 u37 u38 u39 u40 u41 u42 u43 u44 u45 u46 u47 u48 u49 u50 u51 u52 u53 u54 u55 u56 u57 u58 u59 u60 u61 u62 : Value), (k ≤ comeK n a xs ∧ CR w base PB M qv n quotas xs ps l A c (.slice vA (comeK n a xs) vc) (openL n a (List.range xs.length)) Ds k W') ∧ a' = ⟨#[.pointer (some ⟨PB, 0, none⟩), u1, u2, .pointer (some ⟨w.heap.size, 0, none⟩), u4, u5, .int .i64 (a : Int), u7, .pointer (some ⟨w.heap.size + 1, 0, none⟩), u9, u10, u11, u12, u13, u14, u15, u16, u17, u18, u19, u20, u21, u22, u23, u24, u25, u26, u27, u28, .slice vA (comeK n a xs) vc, .int .i64 (comeK n a xs : Int), .int .i64 (k : Int), u32, u33, u34, u35, u36, u37, u38, u39, u40, u41, u42, u43, u44, u45, u46, u47, u48, u49, u50, u51, u52, u53, u54, u55, u56, u57, u58, u59, u60, u61, u62], Ds.map fun D => ⟨.collected D, #[]⟩⟩) (fun a' _ => comeK n a xs + 1 - (intOf (a'.tmps.getD 31 undef)).toNat) ?_ ?_
  · refine ⟨0, [], ?_⟩
    (repeat apply Exists.intro)
    exact ⟨⟨Nat.zero_le _, HCR.out⟩, rfl⟩
  clear HCR
  rintro _ wr ⟨k, Ds, u1, u2, u4, u5, u7, u9, u10, u11, u12, u13, u14, u15, u16, u17, u18, u19, u20, u21, u22, u23, u24, u25, u26, u27, u28, u32, u33, u34, u35, u36, u37, u38, u39, u40, u41, u42, u43, u44, u45, u46, u47, u48, u49, u50, u51, u52, u53, u54, u55, u56, u57, u58, u59, u60, u61, u62, ⟨hk, hcr⟩, rfl⟩
  by_cases hlt : k < comeK n a xs
  · obtain ⟨han, hkx, hLk⟩ := openL_at hlt
    have hlen : xs.length = ps.length := by rw [hcr.pa.len, stepTo_length]
    obtain ⟨X, hX⟩ : ∃ X, xs[k]? = some X := ⟨_, List.getElem?_eq_getElem hkx⟩
    obtain ⟨p, hp⟩ : ∃ p, ps[k]? = some p := ⟨_, List.getElem?_eq_getElem (by omega)⟩
    clear hlen
    have hpl := hlost p (List.mem_of_getElem? hp)
    have hpt := htl p (List.mem_of_getElem? hp)
    have hpat := hcr.pa.port k X p hX (by rw [stepTo_at, hp]; simp)
    obtain ⟨tv, rs, hbX, hto, hro⟩ := id hpat
    obtain ⟨tA, tc, rfl⟩ := own_form hto
    have hlv := hcr.lv
    rw [openL_come] at hlv
    obtain ⟨b, o, hvA, _, hc⟩ := (Sl.of_own hlv).at_ (by omega)
    subst hvA
    have hvk := hc k (.int .i64 (k : Int)) (by simp [icells, hLk])
    have hK : comeK n a xs ≤ 16 := by unfold comeK; split <;> omega
    have HAN := hid han
    clear han
    have HCR := hid hcr
    have HPAT := hid hpat
    have HTO := hid hto
    have HBX := hid hbX
    have HX := hid hX
    have HPP := hid hp
    clear hcr hlv hc hro hpat hto hbX hLk
    go_wp2_with fail
    have hf0 : Fin' wr.heap.size wr (wr.alloc (.cells #[.int .i64 (k : Int)] 3)) := (Fin'.refl _ wr).alloc _
    have ht0 : Bk (wr.alloc (.cells #[.int .i64 (k : Int)] 3)) wr.heap.size 3 #[.int .i64 (k : Int)] := heap_alloc_new wr _
    have hs0 : (wr.alloc (.cells #[.int .i64 (k : Int)] 3)).heap.size = wr.heap.size + 1 := by simp
    generalize wr.alloc (.cells #[.int .i64 (k : Int)] 3) = W0 at *
    have hMr : M < wr.heap.size := Nat.lt_of_lt_of_le hM HCR.out.kb.size
    have hpb0 := HCR.out.pa.pb.fin hf0
    have hmp0 := hf0.keep _ _ HCR.out.pa.mp (.inr hMr)
    have a1 := hpb0.cell 1
    have a2 := ht0.cell 0
    simp only [List.getElem?_toArray, List.getElem?_cons_zero, List.getElem?_cons_succ] at a1 a2
    have hlk1 := run_lookup56 n a k M xs xs.length W0.drew hmp0
    have hlk2 := run_lookup56 n a k M xs xs.length (W0.alloc (.cells #[.pointer none] 71)).drew ((Below.heap_alloc _ _ _ (by show M < W0.heap.size; omega)).trans hmp0)
    have hpt2 : ptrAt n xs a k = some ⟨X, 0, none⟩ := by simp [ptrAt, HAN.out, HX.out]
    rw [hpt2] at hlk1 hlk2
    unfold keyV at hlk1 hlk2
    have HF0 := hid hf0
    have HT0 := hid ht0
    have HPB0 := hid hpb0
    clear hf0 ht0 hpb0 hmp0 hpt2
    refine wp_cut ⟨#[.pointer (some ⟨PB, 0, none⟩), u1, u2, .pointer (some ⟨w.heap.size, 0, none⟩), u4, u5, .int .i64 (a : Int), u7, .pointer (some ⟨w.heap.size + 1, 0, none⟩), u9, .pointer (some ⟨wr.heap.size, 0, none⟩), .pointer (some ⟨wr.heap.size + 1, 0, none⟩), u12, u13, u14, u15, u16, u17, u18, u19, u20, u21, u22, u23, u24, u25, u26, u27, u28, .slice (some ⟨b, o, none⟩) (comeK n a xs) vc, .int .i64 (comeK n a xs : Int), .int .i64 (k : Int), .bool true, .pointer (some ⟨b, o + k, none⟩), .int .i64 (k : Int), .pointer (some ⟨PB, 0, none⟩), .pointer (some ⟨PB, 0, none⟩), .pointer (some ⟨PB, 1, none⟩), .map (some M), .int .i64 (a : Int), .int .i64 (k : Int), .agg #[.int .i64 (a : Int), .int .i64 (k : Int)], .pointer (some ⟨X, 0, none⟩), u43, u44, u45, u46, u47, u48, u49, u50, u51, u52, u53, u54, u55, u56, u57, u58, u59, u60, u61, u62], Ds.map fun D => ⟨.collected D, #[]⟩⟩ (W0.alloc (.cells #[.pointer (some ⟨X, 0, none⟩)] 71)).drew ?hreg ?hrest
    case hreg =>
      go_region_held3 (fun w' => w'.cell? ⟨PB, 1, none⟩ = some (.map (some M)) ∧ w'.cell? ⟨wr.heap.size, 0, none⟩ = some (.int .i64 (k : Int))) (first | exact ⟨a1, a2⟩ | go_keep) (fail)
      all_goals exact ⟨rfl, rfl, rfl⟩
    have hf1 : Fin' wr.heap.size wr (W0.alloc (.cells #[.pointer (some ⟨X, 0, none⟩)] 71)).drew := (HF0.out.alloc (.cells #[.pointer (some ⟨X, 0, none⟩)] 71)).drew
    have ht1 : Bk (W0.alloc (.cells #[.pointer (some ⟨X, 0, none⟩)] 71)).drew wr.heap.size 3 #[.int .i64 (k : Int)] := HT0.out.alloc (.cells #[.pointer (some ⟨X, 0, none⟩)] 71)
    have hx1 : Bk (W0.alloc (.cells #[.pointer (some ⟨X, 0, none⟩)] 71)).drew (wr.heap.size + 1) 71 #[.pointer (some ⟨X, 0, none⟩)] := by rw [← hs0]; exact heap_alloc_new W0 (.cells #[.pointer (some ⟨X, 0, none⟩)] 71)
    generalize (W0.alloc (.cells #[.pointer (some ⟨X, 0, none⟩)] 71)).drew = W1 at *
    have HF1 := hid hf1
    have HT1 := hid ht1
    have HX1 := hid hx1
    have hpb1 := hid (HBX.out.fin hf1)
    have hbx1 := hid (HCR.out.bx.fin hf1)
    have hto1 := hid (own_fin HTO.out hf1)
    have hpk1 := hid (own_fin HCR.out.pk hf1)
    have b1 := hx1.cell 0
    have b2 := hpb1.out.cell 0
    have b3 := hbx1.out.cell 0
    rw [pc_tests] at b2
    simp only [List.getElem?_toArray, List.getElem?_cons_zero] at b1 b3
    clear hf1 ht1 hx1 a1 a2 hlk1 hlk2 HF0 HT0 HPB0 hs0 hvk
    go_wp2_with fail
    have f1 : (W1.alloc (.cells #[.slice A l.length c] 39)).drew.cell? ⟨wr.heap.size + 1, 0, none⟩ = some (.pointer (some ⟨X, 0, none⟩)) := ((HX1.out.alloc (.cells #[.slice A l.length c] 39)).cell 0).trans (by simp)
    have f2 : (W1.alloc (.cells #[.slice A l.length c] 39)).drew.cell? ⟨X, 0, none⟩ = some (.slice tA p.tests.length tc) := (World.cell?_alloc_lt W1 (.cells #[.slice A l.length c] 39) ⟨X, 0, none⟩ hpb1.out.lt).trans b2
    have f3 : (W1.alloc (.cells #[.slice A l.length c] 39)).drew.cell? ⟨w.heap.size, 0, none⟩ = some (.slice A l.length c) := (World.cell?_alloc_lt W1 (.cells #[.slice A l.length c] 39) ⟨w.heap.size, 0, none⟩ hbx1.out.lt).trans b3
    have g1 : wr.heap.size + 1 < (W1.alloc (.cells #[.slice A l.length c] 39)).drew.heap.size := (HX1.out.alloc (.cells #[.slice A l.length c] 39)).lt
    have g2 : X < (W1.alloc (.cells #[.slice A l.length c] 39)).drew.heap.size := (hpb1.out.alloc (.cells #[.slice A l.length c] 39)).lt
    have g3 : w.heap.size < (W1.alloc (.cells #[.slice A l.length c] 39)).drew.heap.size := (hbx1.out.alloc (.cells #[.slice A l.length c] 39)).lt
    refine wp_cutX (fun clo => ⟨#[.pointer (some ⟨PB, 0, none⟩), u1, u2, .pointer (some ⟨w.heap.size, 0, none⟩), u4, u5, .int .i64 (a : Int), u7, .pointer (some ⟨w.heap.size + 1, 0, none⟩), u9, .pointer (some ⟨wr.heap.size, 0, none⟩), .pointer (some ⟨wr.heap.size + 1, 0, none⟩), u12, u13, u14, u15, u16, u17, u18, u19, u20, u21, u22, u23, u24, u25, u26, u27, u28, .slice (some ⟨b, o, none⟩) (comeK n a xs) vc, .int .i64 (comeK n a xs : Int), .int .i64 (k : Int), .bool true, .pointer (some ⟨b, o + k, none⟩), .int .i64 (k : Int), .pointer (some ⟨PB, 0, none⟩), .pointer (some ⟨PB, 0, none⟩), .pointer (some ⟨PB, 1, none⟩), .map (some M), .int .i64 (a : Int), .int .i64 (k : Int), .agg #[.int .i64 (a : Int), .int .i64 (k : Int)], .pointer (some ⟨X, 0, none⟩), .pointer (some ⟨X, 0, none⟩), .pointer (some ⟨X, 0, none⟩), .pointer (some ⟨X, 0, none⟩), .slice tA p.tests.length tc, .slice A l.length c, .slice (some ⟨W1.heap.size, 0, none⟩) 1 1, clo, u50, u51, u52, u53, u54, u55, u56, u57, u58, u59, u60, u61, u62], Ds.map fun D => ⟨.collected D, #[]⟩⟩) (fun clo w' => PassPost p.tests l (W1.alloc (.cells #[.slice A l.length c] 39)).drew (.returned clo) w') ?hreg2 ?hrest2
    case hreg2 =>
      go_region_held3 (fun w' => w'.cell? ⟨wr.heap.size + 1, 0, none⟩ = some (.pointer (some ⟨X, 0, none⟩)) ∧ w'.cell? ⟨X, 0, none⟩ = some (.slice tA p.tests.length tc) ∧ w'.cell? ⟨w.heap.size, 0, none⟩ = some (.slice A l.length c)) (first | exact ⟨b1, b2, b3⟩ | exact ⟨m1, m2, m3⟩ | go_keep)
        (first | (go_at_call 28; refine (pass28 tA tc p.tests W1.heap.size A c l (W1.alloc (.cells #[.slice A l.length c] 39)).drew ((Sl.of_own hto1.out).alloc _).drew hpt (Bk.drew (heap_alloc_new W1 (.cells #[.slice A l.length c] 39))) ((Sl.of_own hpk1.out).alloc _).drew hll).mono ?_; rintro e w5 hpost; obtain ⟨clo, rfl⟩ : ∃ clo, e = .returned clo := (by obtain ⟨_, _, _, _, _, _, _, _, he, _⟩ := hpost; exact ⟨_, he⟩); obtain ⟨bc, bf⟩ := bcell hpost.below; have m1 := (bc (wr.heap.size + 1) 0 g1).trans f1; have m2 := (bc X 0 g2).trans f2; have m3 := (bc w.heap.size 0 g3).trans f3) | fail)
      all_goals exact ⟨rfl, clo, hpost, rfl⟩
    rintro clo W5 hpost
    obtain ⟨LB, FB, fA, fc, PA, pc, A1, c1, hclo, p1, p2, p3, p4, p5, p6, p7, p8⟩ := hpost
    injection hclo with hclo
    subst hclo
    go_wp2_with fail
    have hf5 : Fin' wr.heap.size wr W5 := ((HF1.out.alloc (.cells #[.slice A l.length c] 39)).drew).trans (Fin'.of_below p1)
    have hs5 := hf5.size
    have hDlt : ∀ D ∈ Ds, D < wr.heap.size := fun D hD => (Array.getElem?_eq_some_iff.1 (HCR.out.ds D hD)).1
    have hws : w.heap.size ≤ wr.heap.size := HCR.out.kb.size
    have hT5 := hid ((HT1.out.fin ((Fin'.refl wr.heap.size W1).alloc (.cells #[.slice A l.length c] 39)).drew).fin (Fin'.of_below (B := wr.heap.size) p1))
    have hX5 := hid ((HX1.out.fin ((Fin'.refl wr.heap.size W1).alloc (.cells #[.slice A l.length c] 39)).drew).fin (Fin'.of_below (B := wr.heap.size) p1))
    have HF5 := hid hf5
    have P4 := hid p4
    have P5 := hid p5
    have P6 := hid p6
    have P7 := hid p7
    have P8 := hid p8
    have HDLT := hid hDlt
    clear hf5 p1 p2 p3 p4 p5 p6 p7 p8 hDlt f1 f2 f3 g1 g2 g3 b1 b2 b3
    refine (wpIn_wide (n := 4)).1 ?_
    refine range_outer (gf := 41) (lb := #[.pointer (some ⟨LB, 0, none⟩), .pointer (some ⟨FB, 0, none⟩)]) rfl (enters Try.func41 rfl (by kernel_rfl)) ?_
    intro fn
    generalize hLO : Obj.loop _ = LO
    have HLO := hid hLO
    have hLw : LO.isCells = false := by rw [← hLO]; rfl
    clear hLO
    have g0 := hid (heap_alloc2_new W5 (.deferred (some [])) LO)
    have g1 := hid (heap_alloc2_old W5 (.deferred (some [])) LO)
    have hf6 := hid ((HF5.out.alloc (.deferred (some []))).alloc LO)
    have hs6 : ((W5.alloc (.deferred (some []))).alloc LO).heap.size = W5.heap.size + 2 := by simp
    have q4 := (P4.out.alloc (.deferred (some []))).alloc LO
    have q5 := own_base ((P5.out.alloc (.deferred (some []))).alloc LO) (Nat.zero_le _)
    have q6 := (P6.out.alloc (.deferred (some []))).alloc LO
    have q7 := own_base ((P7.out.alloc (.deferred (some []))).alloc LO) (Nat.zero_le _)
    have q8 := own_base ((P8.out.alloc (.deferred (some []))).alloc LO) (Nat.zero_le _)
    have hT6 := hid ((hT5.out.alloc (.deferred (some []))).alloc LO)
    have hX6 := hid ((hX5.out.alloc (.deferred (some []))).alloc LO)
    have hcr6 : CR w base PB M qv n quotas xs ps l A c (.slice (some ⟨b, o, none⟩) (comeK n a xs) vc) (openL n a (List.range xs.length)) (W5.heap.size :: Ds) k ((W5.alloc (.deferred (some []))).alloc LO) :=
      (HCR.out.fin hf6.out hMr HDLT.out hws).addD g1.out (fun hD => by have := HDLT.out _ hD; omega) (by omega)
    have HCR6 := hid hcr6
    clear hT5 hX5 P4 P5 P6 P7 P8 hcr6
    generalize (W5.alloc (.deferred (some []))).alloc LO = W6 at *
    rcases hm : matchF p.tests l with _ | _
    · refine (pass41_no (W5.heap.size + 1) LB FB fA fc p.tests PA pc A1 c1 l W6 q4 q5 q6 q7 q8 hpt hm).mono ?_
      rintro e W7 ⟨⟨v7, rfl⟩, hb7⟩
      have hl7 := (hb7.block (W5.heap.size + 1) (by omega)).trans g0.out
      refine range_end HLO.out hl7 ?_
      intro EO hec hew
      have hf7 : Fin' W5.heap.size.succ W6 (W7.putObj (W5.heap.size + 1) EO) := (Fin'.of_below hb7).put _ (Nat.le_refl _) hl7 hLw
      have hcr7 := hid ((HCR6.out.fin hf7 (by omega) (fun D hD => by rcases List.mem_cons.1 hD with rfl | hD; exact Nat.lt_succ_self _; have := HDLT.out _ hD; omega) (by omega)).skip HPP.out hm)
      clear hf7 hl7 hb7
      go_wp2_with fail
      refine ⟨⟨k + 1, W5.heap.size :: Ds, ?_⟩, ?_⟩
      · (repeat apply Exists.intro)
        exact ⟨⟨by omega, hcr7.out⟩, ⟨by omega, rfl⟩⟩
      · simp [intOf]
        omega
    · refine (pass41_yes (W5.heap.size + 1) LB FB fA fc p.tests PA pc A1 c1 l W6 (fun _ W' => CR w base PB M qv n quotas xs ps l A c (.slice (some ⟨b, o, none⟩) (comeK n a xs) vc) (openL n a (List.range xs.length)) (W5.heap.size :: Ds) (k + 1) W' ∧ W'.heap[W5.heap.size + 1]? = some LO) q4 q5 q6 q7 q8 hpt hll hm (by omega) ?_).mono ?_
      · intro Wy vy hby
        have hly := (hby.block (W5.heap.size + 1) (by omega)).trans g0.out
        have hsy := hby.size
        refine yield_of HLO.out hly rfl ?_
        intro BO hbc hbw
        gi_wp2
        have hf8 : Fin' W5.heap.size.succ W6 (Wy.putObj (W5.heap.size + 1) BO) := (Fin'.of_below hby).put _ (Nat.le_refl _) hly hLw
        have hcr8 := HCR6.out.fin hf8 (by omega) (fun D hD => by rcases List.mem_cons.1 hD with rfl | hD; exact Nat.lt_succ_self _; have := HDLT.out _ hD; omega) (by omega)
        have hT8 := hT6.out.fin hf8
        have hX8 := hX6.out.fin hf8
        have hbo : (Wy.putObj (W5.heap.size + 1) BO).heap[W5.heap.size + 1]? = some BO := World.putObj_heap_same (by omega)
        have hkb8 : KeepsBut (W5.heap.size + 1) Wy (Wy.putObj (W5.heap.size + 1) BO) := ⟨by simp [World.putObj], fun i oo hi ho hc => (World.putObj_heap_other hi).trans ho⟩
        have HKB8 := hid hkb8
        have HBO := hid hbo
        have HX8 := hid hX8
        have HT8 := hid hT8
        have HCR8 := hid hcr8
        clear hf8 hly hkb8 hbo
        generalize Wy.putObj (W5.heap.size + 1) BO = W8 at *
        obtain ⟨u, hu, hou⟩ := hcr8.out
        have hpat8 := hcr8.pa.port k X p hX (by rw [stepTo_at, HPP.out]; simp)
        have hput := put29 X p A c l W8.drew (hpat8.fin (Fin'.refl 0 W8).drew) (Sl.of_own hcr8.pk).drew hll hpl
        obtain ⟨bb, hbb⟩ : ∃ bb, bb = decide (p.ring.length ≠ 8) := ⟨_, rfl⟩
        rw [← hbb] at hput
        have HBB := hid hbb
        have HPUT := hid hput
        have HU := hid hu
        have HOU := hid hou
        have hXlt := hid hX8.lt
        have c1' := hu.cell 0
        have c2' := hT8.cell 0
        have c3' := hX8.cell 0
        have c4' := hcr8.bx.cell 0
        have z1' := hu.froz 0
        simp only [List.getElem?_toArray, List.getElem?_cons_zero] at c1' c2' c3' c4'
        obtain ⟨tvX, rsX, hbX8, _, _⟩ := hpat8
        have hne1 : w.heap.size + 1 ≠ X := bk_ne' hu hbX8 (by decide)
        have hne2 : wr.heap.size ≠ X := bk_ne' hT8 hbX8 (by decide)
        have HNE := hid (own_ne hou hbX8 (by decide))
        have HUO := hid (own_ne hou hu (by decide))
        have hUlt := hu.lt
        have hTlt := hT8.lt
        have HHX := hid hbX8
        have hcl := cameL_length ps l k
        clear hbb hput hu hou hbX8 hT8 hX8 hcr8
        have haft : ∀ w3 : World, W8.drew.grownBy w3 (some X) → w3.cell? ⟨w.heap.size + 1, 0, none⟩ = some u ∧ w3.frozen? ⟨w.heap.size + 1, 0, none⟩ = false ∧ w3.cell? ⟨wr.heap.size, 0, none⟩ = some (.int .i64 (k : Int)) ∧ (w3.alloc (.cells #[.int .i64 (k : Int), .bool (!bb)] 53)).cell? ⟨w.heap.size + 1, 0, none⟩ = some u ∧
            ∃ A4 c4 w4, (appendHid #[40, 40] 40 #[u, .slice (some ⟨w3.heap.size, 0, none⟩) 1 1]).run Try.prog (w3.alloc (.cells #[.int .i64 (k : Int), .bool (!bb)] 53)) = .ok (.slice A4 ((cameL ps l k).length + 1) c4) w4 ∧
              w4.ownsRow (w.heap.size + 2) 53 2 (.slice A4 ((cameL ps l k).length + 1) c4) ((cameL ps l k).length + 1) (cameCells (cameL ps l k) ++ [.int .i64 (k : Int), .bool (!bb)]) ∧ (w3.alloc (.cells #[.int .i64 (k : Int), .bool (!bb)] 53)).grownBy w4 u.ownBlock ∧
              w4.cell? ⟨w.heap.size + 1, 0, none⟩ = some u ∧ w4.frozen? ⟨w.heap.size + 1, 0, none⟩ = false := by
          intro w3 hg3
          have hu3 : Bk w3 (w.heap.size + 1) 40 #[u] := (hg3.block (w.heap.size + 1) hUlt (by intro e; injection e with e; exact hne1 e)).trans HU.out
          have hT3 : Bk w3 wr.heap.size 3 #[.int .i64 (k : Int)] := (hg3.block wr.heap.size hTlt (by intro e; injection e with e; exact hne2 e)).trans HT8.out
          have hs3 : W8.heap.size ≤ w3.heap.size := hg3.size
          have hlo : w.heap.size + 2 ≤ w3.heap.size := by omega
          have hou3 : w3.ownsRow (w.heap.size + 2) 53 2 u (cameL ps l k).length (cameCells (cameL ps l k)) := (own_fin HOU.out (Fin'.refl 0 W8).drew).kept hg3 (.inr HNE.out)
          obtain ⟨v4, w4, hrun, hown4, hg4, _⟩ := run_append_sl (P := Try.prog) (w3.alloc (.cells #[.int .i64 (k : Int), .bool (!bb)] 53)) (w.heap.size + 2) 40 40 53 i53 _ 2 16 Try.underlying40 hi53 hz53 hs53 hb53 rfl (by omega) u _ _ (hou3.alloc _) (some ⟨w3.heap.size, 0, none⟩) 1 1 _ (Sl.two w3 _ _ 53) (by simp [Value.oneCell']) (by unfold maxLen; omega) (by omega) (by simp; omega)
          obtain ⟨A4, c4, rfl⟩ := own_form hown4
          have hu4 : Bk w4 (w.heap.size + 1) 40 #[u] := (hg4.block _ (by simp; omega) (Ne.symm HUO.out)).trans (hu3.alloc _)
          exact ⟨hu3.cell 0, hu3.froz 0, hT3.cell 0, (hu3.alloc _).cell 0, A4, c4, w4, hrun, hown4, hg4, hu4.cell 0, hu4.froz 0⟩
        have HAFT := hid haft
        clear haft
        have hbb2 : Hid ((!bb) = decide (p.ring.length = 8)) := by show _ = _; rw [HBB.out]; simp
        have hfin : ∀ (w3 : World) (A4 : Option Addr) (c4 : Nat) (w4 : World), PortAt w3 X (putSt p l) → W8.drew.grownBy w3 (some X) →
            w4.ownsRow (w.heap.size + 2) 53 2 (.slice A4 ((cameL ps l k).length + 1) c4) ((cameL ps l k).length + 1) (cameCells (cameL ps l k) ++ [.int .i64 (k : Int), .bool (!bb)]) →
            (w3.alloc (.cells #[.int .i64 (k : Int), .bool (!bb)] 53)).grownBy w4 u.ownBlock →
            CR w base PB M qv n quotas xs ps l A c (.slice (some ⟨b, o, none⟩) (comeK n a xs) vc) (openL n a (List.range xs.length)) (W5.heap.size :: Ds) (k + 1) (w4.setCell ⟨w.heap.size + 1, 0, none⟩ (.slice A4 ((cameL ps l k).length + 1) c4)) ∧
              (w4.setCell ⟨w.heap.size + 1, 0, none⟩ (.slice A4 ((cameL ps l k).length + 1) c4)).heap[W5.heap.size + 1]? = some BO ∧
              KeepsBut (W5.heap.size + 1) W8 (w4.setCell ⟨w.heap.size + 1, 0, none⟩ (.slice A4 ((cameL ps l k).length + 1) c4)) := by
          intro w3 A4 c4 w4 hP3 hg3 hown4 hg4
          have hd : Fin' W8.heap.size W8 W8.drew := (Fin'.refl _ W8).drew
          have hb8 := Array.getElem?_eq_some_iff.1 HBO.out
          have hcr8' := HCR8.out.fin hd (by have := hb8.1; omega) (fun D hD => by have := hb8.1; rcases List.mem_cons.1 hD with rfl | hD; omega; have := HDLT.out _ hD; omega) (by have := hb8.1; omega)
          rw [hbb2.out] at hown4
          have far := @effect_far X (w.heap.size + 1) _ _ u (.slice A4 ((cameL ps l k).length + 1) c4) _ _ W8.drew w3 w4 (HHX.out.fin hd) (HU.out.fin hd) (own_fin HOU.out hd) hg3 _ hg4
          refine ⟨hcr8'.effect hX HPP.out hm (HU.out.fin hd) (own_fin HOU.out hd) hP3 hg3 _ hg4 hown4, far HBO.out hbc, ?_, fun i oo hi ho hc => far ho hc⟩
          have h1 : W8.heap.size ≤ w3.heap.size := hg3.size
          have h2 := hg4.size
          simp at h2 ⊢
          omega
        have HFIN := hid hfin
        clear hfin
        gi_wp2_with fail
        refine wpIn_mono (Q := fun e _ w' => e = .normal ∧ CR w base PB M qv n quotas xs ps l A c (.slice (some ⟨b, o, none⟩) (comeK n a xs) vc) (openL n a (List.range xs.length)) (W5.heap.size :: Ds) (k + 1) w' ∧ w'.heap[W5.heap.size + 1]? = some BO ∧ KeepsBut (W5.heap.size + 1) W8 w') ?_ ?_
        · gi_region_with (refine ⟨trivial, rfl, ?_⟩; gi_at_call 29; refine (CallsIn.inRound _ (callsIn_wide.2 HPUT.out)).mono ?_; rintro e w3 ⟨rfl, hP3, hg3⟩; obtain ⟨d1, d2, d3, d6, A4, c4, w4, hrun, hown4, hg4, d4, d5⟩ := HAFT.out w3 hg3)
          all_goals exact ⟨rfl, HFIN.out w3 A4 c4 w4 hP3 hg3 hown4 hg4⟩
        rintro _ a9 w9 ⟨rfl, f1, f2, f3⟩
        have F1 := hid f1
        have F2 := hid f2
        have F3 := hid f3
        clear f1 f2 f3
        gi_wp2
        have hl9 := (Array.getElem?_eq_some_iff.1 F2.out).1
        have hput9 : Fin' W5.heap.size.succ w9 (w9.putObj (W5.heap.size + 1) LO) := (Fin'.refl _ w9).put _ (Nat.le_refl _) F2.out hbc
        exact ⟨F2.out, rfl, ⟨F1.out.fin hput9 (by omega) (fun D hD => by rcases List.mem_cons.1 hD with rfl | hD; exact Nat.lt_succ_self _; have := HDLT.out _ hD; omega) (by omega), World.putObj_heap_same hl9⟩, by have h1 := HKB8.out.1; have h2 := F3.out.1; simp [World.putObj] at h1 h2 ⊢; omega, fun i oo hi ho hc => (World.putObj_heap_other hi).trans (F3.out.2 i oo hi (HKB8.out.2 i oo hi ho hc) hc)⟩
      · rintro e W9 ⟨⟨v9, rfl⟩, Wa, Wb, _, ⟨hcb, hlb⟩, hfin⟩
        have hl9 := hfin.keep _ _ hlb (.inr (by omega))
        refine range_end HLO.out hl9 ?_
        intro EO hec hew
        have hf9 : Fin' W5.heap.size.succ W9 (W9.putObj (W5.heap.size + 1) EO) := (Fin'.refl _ W9).put _ (Nat.le_refl _) hl9 hLw
        have hcr9 := hid ((hcb.fin hfin (by omega) (fun D hD => by rcases List.mem_cons.1 hD with rfl | hD; omega; have := HDLT.out _ hD; omega) (by omega)).fin hf9 (by omega) (fun D hD => by rcases List.mem_cons.1 hD with rfl | hD; exact Nat.lt_succ_self _; have := HDLT.out _ hD; omega) (by omega))
        clear hf9 hl9 hfin hcb hlb
        go_wp2_with fail
        refine ⟨⟨k + 1, W5.heap.size :: Ds, ?_⟩, ?_⟩
        · (repeat apply Exists.intro)
          exact ⟨⟨by omega, hcr9.out⟩, ⟨by omega, rfl⟩⟩
        · simp [intOf]
          omega
  · obtain rfl : k = comeK n a xs := by omega
    have HCR := hid hcr
    obtain ⟨u, hu, hou⟩ := hcr.out
    have k1 := hu.cell 0
    simp only [List.getElem?_toArray, List.getElem?_cons_zero] at k1
    clear hcr
    go_wp2_with fail
    refine leaves_marks (I := fun W' => CR w base PB M qv n quotas xs ps l A c (.slice vA (comeK n a xs) vc) (openL n a (List.range xs.length)) [] (comeK n a xs) W' ∧ Bk W' (w.heap.size + 1) 40 #[u] ∧ W'.ownsRow (w.heap.size + 2) 53 2 u (cameL ps l (comeK n a xs)).length (cameCells (cameL ps l (comeK n a xs)))) w.heap.size ?_ ?_ Ds wr HCR.out.dn (fun D hD => ⟨HCR.out.dlo D hD, HCR.out.ds D hD⟩) ⟨HCR.out.noD, hu, hou⟩
    · rintro W D ⟨e1, e2, e3⟩ hD hd
      have hf : Fin' w.heap.size W (W.putObj D (.deferred none)) := (Fin'.refl _ W).put _ hD hd rfl
      exact ⟨e1.fin hf hM (fun D h => absurd h (by simp)) (Nat.le_refl _), e2.fin hf, own_fin e3 hf⟩
    · rintro W ⟨e1, e2, e3⟩
      refine ⟨_, results_tmp2 rfl _ _ _, u, ?_, own_base e3 (by omega), e1.pa, e1.kb⟩
      rfl
end Go.Proofs.Ythgfmkdgemepnaa
