/- What holds while Come goes over the ports. -/
import Derived.Test.YthgfmkdgemepnaaPass3
import Derived.Test.YthgfmkdgemepnaaClaim
namespace Go.Proofs.Ythgfmkdgemepnaa
open Go.RowKit Go.Shelf

def stepP (l : List UInt8) (p : PortSt) : PortSt := if matchF p.tests l then putSt p l else p
/-- The first k ports have seen the packet. -/
def stepTo (ps : List PortSt) (l : List UInt8) (k : Nat) : List PortSt := ps.mapIdx fun j p => if j < k then stepP l p else p
def cameL (ps : List PortSt) (l : List UInt8) : Nat → List (Nat × Bool)
  | 0 => []
  | k + 1 => cameL ps l k ++ (match ps[k]? with | some p => if matchF p.tests l then [(k, decide (p.ring.length = 8))] else [] | none => [])
def cameCells (r : List (Nat × Bool)) : List Value := r.flatMap fun x => [.int .i64 (x.1 : Int), .bool x.2]

theorem stepTo_length (ps : List PortSt) (l : List UInt8) (k : Nat) : (stepTo ps l k).length = ps.length := by simp [stepTo]
theorem stepTo_at (ps : List PortSt) (l : List UInt8) (k j : Nat) : (stepTo ps l k)[j]? = (ps[j]?).map fun p => if j < k then stepP l p else p := by simp [stepTo]
theorem stepTo_zero (ps : List PortSt) (l : List UInt8) : stepTo ps l 0 = ps := by
  apply List.ext_getElem?
  intro j
  rw [stepTo_at]
  cases ps[j]? <;> simp
theorem stepTo_all (ps : List PortSt) (l : List UInt8) : stepTo ps l ps.length = ps.map (stepP l) := by
  apply List.ext_getElem?
  intro j
  rw [stepTo_at, List.getElem?_map]
  rcases h : ps[j]? with _ | p
  · rfl
  · have := (List.getElem?_eq_some_iff.1 h).1
    simp [this]
theorem stepTo_skip {ps : List PortSt} {l : List UInt8} {k : Nat} {p : PortSt} (hp : ps[k]? = some p) (hm : matchF p.tests l = false) : stepTo ps l (k + 1) = stepTo ps l k := by
  apply List.ext_getElem?
  intro j
  rw [stepTo_at, stepTo_at]
  rcases Nat.lt_trichotomy j k with h | h | h
  · have : j < k + 1 := by omega
    simp [this, h]
  · subst h
    rw [hp]
    simp [stepP, hm]
  · have h1 : ¬ j < k + 1 := by omega
    have h2 : ¬ j < k := by omega
    simp [h1, h2]
theorem cameL_skip {ps : List PortSt} {l : List UInt8} {k : Nat} {p : PortSt} (hp : ps[k]? = some p) (hm : matchF p.tests l = false) : cameL ps l (k + 1) = cameL ps l k := by
  simp [cameL, hp, hm]
theorem cameL_yes {ps : List PortSt} {l : List UInt8} {k : Nat} {p : PortSt} (hp : ps[k]? = some p) (hm : matchF p.tests l = true) : cameL ps l (k + 1) = cameL ps l k ++ [(k, decide (p.ring.length = 8))] := by
  simp [cameL, hp, hm]
theorem cameL_length (ps : List PortSt) (l : List UInt8) (k : Nat) : (cameL ps l k).length ≤ k := by
  induction k with
  | zero => simp [cameL]
  | succ k ih =>
    simp only [cameL, List.length_append]
    rcases ps[k]? with _ | p
    · simp; omega
    · simp only
      split <;> simp <;> omega
theorem cameCells_append (r s : List (Nat × Bool)) : cameCells (r ++ s) = cameCells r ++ cameCells s := by simp [cameCells]

/-- What stays but for the blocks S. -/
structure Kb (S : List Nat) (B : Nat) (w w' : World) : Prop where
  os : w'.os = w.os
  tape : w'.tape = w.tape
  output : w'.output = w.output
  size : w.heap.size ≤ w'.heap.size
  block : ∀ k, k < B → k ∉ S → w'.heap[k]? = w.heap[k]?
theorem Kb.of_below {S : List Nat} {B : Nat} {w w' : World} (h : Below B w w') : Kb S B w w' := ⟨h.os, h.tape, h.output, h.size, fun k hk _ => h.block k hk⟩

theorem own_fin {W W' : World} {B base : Nat} {e : TypeId} {size n : Nat} {v : Value} {xs : List Value} (h : W.ownsRow base e size v n xs) (hf : Fin' B W W') : W'.ownsRow base e size v n xs := by
  obtain ⟨h1, h2⟩ := h
  refine ⟨h1, ?_⟩
  rcases h2 with h2 | ⟨g, cap, cur, hv, hg, hh, r⟩
  · exact .inl h2
  · exact .inr ⟨g, cap, cur, hv, hg, hf.keep _ _ hh (.inl rfl), r⟩
theorem Bk.fin {W W' : World} {B g : Nat} {t : TypeId} {cs : Array Value} (h : Bk W g t cs) (hf : Fin' B W W') : Bk W' g t cs := hf.keep _ _ h (.inl rfl)
theorem PortAt.fin {W W' : World} {B X : Nat} {p : PortSt} (h : PortAt W X p) (hf : Fin' B W W') : PortAt W' X p := by
  obtain ⟨tv, rs, h1, h2, h3⟩ := h
  refine ⟨tv, rs, h1.fin hf, own_fin h2 hf, h3.len, h3.fst, h3.few, h3.short, fun i l hl => ?_⟩
  obtain ⟨A, c, e1, e2⟩ := h3.at_ i l hl
  exact ⟨A, c, e1, own_fin e2 hf⟩
theorem PortsAt.fin {W W' : World} {B base PB M : Nat} {qv : Value} {n : Int} {quotas : List Int} {xs : List Nat} {ps : List PortSt} (h : PortsAt W base PB M qv n quotas xs ps) (hf : Fin' B W W') (hM : M < B) : PortsAt W' base PB M qv n quotas xs ps :=
  ⟨h.pb.fin hf, own_fin h.qs hf, hf.keep _ _ h.mp (.inr hM), h.len, fun j x p hx hp => (h.port j x p hx hp).fin hf, h.nodup, h.lo⟩
theorem Fin'.of_below {W W' : World} {B : Nat} (h : Below W.heap.size W W') : Fin' B W W' :=
  ⟨h.os, h.tape, h.output, h.size, fun k o hk _ => (h.block k (Array.getElem?_eq_some_iff.1 hk).1).trans hk⟩
theorem Fin'.trans {A B C : World} {b : Nat} (h : Fin' b A B) (k : Fin' b B C) : Fin' b A C :=
  ⟨k.os.trans h.os, k.tape.trans h.tape, k.output.trans h.output, Nat.le_trans h.size k.size, fun i o hi ho => k.keep i o (h.keep i o hi ho) ho⟩
theorem Fin'.alloc {A B : World} {b : Nat} (h : Fin' b A B) (o : Obj) : Fin' b A (B.alloc o) :=
  ⟨h.os, h.tape, h.output, by have := h.size; simp; omega, fun i x hi hx => (Below.heap_alloc B o i (Array.getElem?_eq_some_iff.1 (h.keep i x hi hx)).1).trans (h.keep i x hi hx)⟩

structure CR (w : World) (base PB M : Nat) (qv : Value) (n : Int) (quotas : List Int) (xs : List Nat) (ps : List PortSt) (l : List UInt8) (A : Option Addr) (c : Nat) (v : Value) (L : List Int) (Ds : List Nat) (k : Nat) (W : World) : Prop where
  pa : PortsAt W base PB M qv n quotas xs (stepTo ps l k)
  bx : Bk W w.heap.size 39 #[.slice A l.length c]
  pk : W.ownsRow 0 5 1 (.slice A l.length c) l.length (bcells l)
  lv : W.ownsRow (w.heap.size + 2) 3 1 v L.length (icells L)
  out : ∃ u, Bk W (w.heap.size + 1) 40 #[u] ∧ W.ownsRow (w.heap.size + 2) 53 2 u (cameL ps l k).length (cameCells (cameL ps l k))
  kb : Kb xs w.heap.size w W
  ds : ∀ D ∈ Ds, W.heap[D]? = some (.deferred (some []))
  dlo : ∀ D ∈ Ds, w.heap.size ≤ D
  dn : Ds.Nodup

section
variable {w : World} {base PB M : Nat} {qv : Value} {n : Int} {quotas : List Int} {xs : List Nat} {ps : List PortSt} {l : List UInt8} {A : Option Addr} {c : Nat} {v : Value} {L : List Int} {Ds : List Nat} {k : Nat} {W W' : World}
theorem CR.fin {B : Nat} (h : CR w base PB M qv n quotas xs ps l A c v L Ds k W) (hf : Fin' B W W') (hM : M < B) (hD : ∀ D ∈ Ds, D < B) (hw : w.heap.size ≤ B) : CR w base PB M qv n quotas xs ps l A c v L Ds k W' := by
  obtain ⟨u, h1, h2⟩ := h.out
  refine ⟨h.pa.fin hf hM, h.bx.fin hf, own_fin h.pk hf, own_fin h.lv hf, ⟨u, h1.fin hf, own_fin h2 hf⟩,
    ⟨hf.os.trans h.kb.os, hf.tape.trans h.kb.tape, hf.output.trans h.kb.output, Nat.le_trans h.kb.size hf.size, fun i hi hn => ?_⟩, fun D hd => hf.keep _ _ (h.ds D hd) (.inr (hD D hd)), h.dlo, h.dn⟩
  have e := h.kb.block i hi hn
  rw [← e]
  obtain ⟨o, ho⟩ : ∃ o, W.heap[i]? = some o := by
    have : i < W.heap.size := Nat.lt_of_lt_of_le hi h.kb.size
    exact ⟨_, Array.getElem?_eq_getElem this⟩
  rw [ho]
  exact hf.keep _ _ ho (.inr (by omega))
theorem CR.skip {p : PortSt} (h : CR w base PB M qv n quotas xs ps l A c v L Ds k W) (hp : ps[k]? = some p) (hm : matchF p.tests l = false) : CR w base PB M qv n quotas xs ps l A c v L Ds (k + 1) W := by
  refine ⟨by rw [stepTo_skip hp hm]; exact h.pa, h.bx, h.pk, h.lv, by rw [cameL_skip hp hm]; exact h.out, h.kb, h.ds, h.dlo, h.dn⟩
theorem CR.addD (h : CR w base PB M qv n quotas xs ps l A c v L Ds k W) {D : Nat} (hd : W.heap[D]? = some (.deferred (some []))) (hn : D ∉ Ds) (hlo : w.heap.size ≤ D) : CR w base PB M qv n quotas xs ps l A c v L (D :: Ds) k W :=
  ⟨h.pa, h.bx, h.pk, h.lv, h.out, h.kb, (fun E hE => (List.mem_cons.1 hE).elim (fun e => by subst e; exact hd) (h.ds E)), (fun E hE => (List.mem_cons.1 hE).elim (fun e => by subst e; exact hlo) (h.dlo E)), List.nodup_cons.2 ⟨hn, h.dn⟩⟩
theorem CR.noD (h : CR w base PB M qv n quotas xs ps l A c v L Ds k W) : CR w base PB M qv n quotas xs ps l A c v L [] k W :=
  ⟨h.pa, h.bx, h.pk, h.lv, h.out, h.kb, (fun E hE => absurd hE (by simp)), (fun E hE => absurd hE (by simp)), List.nodup_nil⟩

/-- What is no cells stays where the packet reaches port k. -/
theorem effect_far {X O b0 n0 : Nat} {u v' : Value} {cs : Array Value} {ys : List Value} {W1 W2 W4 : World} (hbX : Bk W1 X 75 cs) (hu : Bk W1 O 40 #[u]) (hou : W1.ownsRow b0 53 2 u n0 ys) (hg : W1.grownBy W2 (some X)) (o : Obj) (hg4 : (W2.alloc o).grownBy W4 u.ownBlock)
    {i : Nat} {o' : Obj} (hi : W1.heap[i]? = some o') (hc : o'.isCells = false) : (W4.setCell ⟨O, 0, none⟩ v').heap[i]? = some o' := by
  have h1 : i ≠ X := by
    rintro rfl
    unfold Bk at hbX
    rw [hbX] at hi
    injection hi with hi
    rw [← hi] at hc; cases hc
  have h3 : i ≠ O := by
    rintro rfl
    unfold Bk at hu
    rw [hu] at hi
    injection hi with hi
    rw [← hi] at hc; cases hc
  have hil := (Array.getElem?_eq_some_iff.1 hi).1
  have hs := hg.size
  rw [Below.heap_setCell _ _ _ _ h3]
  refine (hg4.block i (by simp; omega) (Ne.symm (own_ne_obj hou hi hc))).trans ((Below.heap_alloc _ _ _ (by omega)).trans ?_)
  exact (hg.block i hil (by intro e; injection e with e; exact h1 e)).trans hi

/-- The packet reaches port k. -/
theorem CR.effect {p : PortSt} {X : Nat} {u v' : Value} {W1 W2 W4 : World} (h : CR w base PB M qv n quotas xs ps l A c v L Ds k W1) (hx : xs[k]? = some X) (hp : ps[k]? = some p) (hm : matchF p.tests l = true)
    (hu : Bk W1 (w.heap.size + 1) 40 #[u]) (hou : W1.ownsRow (w.heap.size + 2) 53 2 u (cameL ps l k).length (cameCells (cameL ps l k)))
    (hP : PortAt W2 X (putSt p l)) (hg : W1.grownBy W2 (some X)) (o : Obj) (hg4 : (W2.alloc o).grownBy W4 u.ownBlock)
    (ho4 : W4.ownsRow (w.heap.size + 2) 53 2 v' ((cameL ps l k).length + 1) (cameCells (cameL ps l k) ++ [.int .i64 (k : Int), .bool (decide (p.ring.length = 8))])) :
    CR w base PB M qv n quotas xs ps l A c v L Ds (k + 1) (W4.setCell ⟨w.heap.size + 1, 0, none⟩ v') := by
  have hkk : k < xs.length := (List.getElem?_eq_some_iff.1 hx).1
  obtain ⟨tvX, rsX, hbX, _, _⟩ := h.pa.port k X p hx (by rw [stepTo_at, hp]; simp)
  -- far from the three blocks
  have far : ∀ i o', W1.heap[i]? = some o' → i ≠ X → some i ≠ u.ownBlock → i ≠ w.heap.size + 1 → (W4.setCell ⟨w.heap.size + 1, 0, none⟩ v').heap[i]? = some o' := by
    intro i o' hi h1 h2 h3
    have hil := (Array.getElem?_eq_some_iff.1 hi).1
    have hs := hg.size
    rw [Below.heap_setCell _ _ _ _ h3]
    refine (hg4.block i (by simp; omega) h2).trans ((Below.heap_alloc _ _ _ (by omega)).trans ?_)
    exact (hg.block i hil (by intro e; injection e with e; exact h1 e)).trans hi
  have far2 : ∀ i o', W2.heap[i]? = some o' → some i ≠ u.ownBlock → i ≠ w.heap.size + 1 → (W4.setCell ⟨w.heap.size + 1, 0, none⟩ v').heap[i]? = some o' := by
    intro i o' hi h2 h3
    have hil := (Array.getElem?_eq_some_iff.1 hi).1
    rw [Below.heap_setCell _ _ _ _ h3]
    exact (hg4.block i (by simp; omega) h2).trans ((Below.heap_alloc _ _ _ hil).trans hi)
  have bk_ne : ∀ {g g' : Nat} {t t' : TypeId} {cs cs' : Array Value} {V : World}, Bk V g t cs → Bk V g' t' cs' → t ≠ t' → g ≠ g' := by
    intro g g' t t' cs cs' V h1 h2 hne e
    subst e
    unfold Bk at h1 h2
    rw [h1] at h2
    injection h2 with h2
    injection h2 with _ h2
    exact hne h2
  have farB : ∀ {g : Nat} {t : TypeId} {cs : Array Value}, Bk W1 g t cs → t ≠ 75 → t ≠ 53 → t ≠ 40 → Bk (W4.setCell ⟨w.heap.size + 1, 0, none⟩ v') g t cs := by
    intro g t cs hb h1 h2 h3
    exact far _ _ hb (bk_ne hb hbX h1) (Ne.symm (own_ne hou hb (Ne.symm h2))) (bk_ne hb hu h3)
  have farO : ∀ {b : Nat} {e : TypeId} {size m : Nat} {y : Value} {ys : List Value}, W1.ownsRow b e size y m ys → e ≠ 75 → e ≠ 53 → e ≠ 40 → (W4.setCell ⟨w.heap.size + 1, 0, none⟩ v').ownsRow b e size y m ys := by
    intro b e size m y ys ho h1 h2 h3
    obtain ⟨e1, e2⟩ := ho
    refine ⟨e1, ?_⟩
    rcases e2 with e2 | ⟨g, cap, cur, hv, hg', hh, r⟩
    · exact .inl e2
    · exact .inr ⟨g, cap, cur, hv, hg', farB (show Bk W1 g e cur from hh) h1 h2 h3, r⟩
  have ou2 : W2.ownsRow (w.heap.size + 2) 53 2 u (cameL ps l k).length (cameCells (cameL ps l k)) := hou.kept hg (.inr (own_ne hou hbX (by decide)))
  have hu2 : Bk W2 (w.heap.size + 1) 40 #[u] := (hg.block _ hu.lt (by intro e; injection e with e; exact bk_ne hu hbX (by decide) e)).trans hu
  have farB2 : ∀ {g : Nat} {t : TypeId} {cs : Array Value}, Bk W2 g t cs → t ≠ 53 → t ≠ 40 → Bk (W4.setCell ⟨w.heap.size + 1, 0, none⟩ v') g t cs := by
    intro g t cs hb h2 h3
    exact far2 _ _ hb (Ne.symm (own_ne ou2 hb (Ne.symm h2))) (bk_ne hb hu2 h3)
  have farO2 : ∀ {b : Nat} {e : TypeId} {size m : Nat} {y : Value} {ys : List Value}, W2.ownsRow b e size y m ys → e ≠ 53 → e ≠ 40 → (W4.setCell ⟨w.heap.size + 1, 0, none⟩ v').ownsRow b e size y m ys := by
    intro b e size m y ys ho h2 h3
    obtain ⟨e1, e2⟩ := ho
    refine ⟨e1, ?_⟩
    rcases e2 with e2 | ⟨g, cap, cur, hv, hg', hh, r⟩
    · exact .inl e2
    · exact .inr ⟨g, cap, cur, hv, hg', farB2 (show Bk W2 g e cur from hh) h2 h3, r⟩
  have obj_ne : ∀ {i : Nat} {o' : Obj}, W1.heap[i]? = some o' → o'.isCells = false → i ≠ X ∧ some i ≠ u.ownBlock ∧ i ≠ w.heap.size + 1 := by
    intro i o' hi hc
    refine ⟨?_, Ne.symm (own_ne_obj hou hi hc), ?_⟩
    · rintro rfl
      unfold Bk at hbX
      rw [hbX] at hi
      injection hi with hi
      rw [← hi] at hc; cases hc
    · rintro rfl
      unfold Bk at hu
      rw [hu] at hi
      injection hi with hi
      rw [← hi] at hc; cases hc
  have farX : ∀ {i : Nat} {o' : Obj}, W1.heap[i]? = some o' → o'.isCells = false → (W4.setCell ⟨w.heap.size + 1, 0, none⟩ v').heap[i]? = some o' := fun hi hc => by
    obtain ⟨h1, h2, h3⟩ := obj_ne hi hc
    exact far _ _ hi h1 h2 h3
  have hbk4 : Bk W4 (w.heap.size + 1) 40 #[u] := (hg4.block _ (by simp; have := hu2.lt; omega) (Ne.symm (own_ne ou2 hu2 (by decide)))).trans ((Below.heap_alloc _ _ _ hu2.lt).trans hu2)
  refine ⟨⟨farB h.pa.pb (by decide) (by decide) (by decide), farO h.pa.qs (by decide) (by decide) (by decide), farX h.pa.mp rfl, by rw [stepTo_length, h.pa.len, stepTo_length], ?_, h.pa.nodup, h.pa.lo⟩,
    farB h.bx (by decide) (by decide) (by decide), farO h.pk (by decide) (by decide) (by decide), farO h.lv (by decide) (by decide) (by decide), ⟨v', ?_, ?_⟩, ?_, fun D hD => farX (h.ds D hD) rfl, h.dlo, h.dn⟩
  · intro j x q hxj hq
    by_cases hj : j = k
    · subst hj
      rw [hx] at hxj
      injection hxj with hxj
      subst hxj
      rw [stepTo_at, hp] at hq
      simp [stepP, hm] at hq
      subst hq
      obtain ⟨tv, rs, e1, e2, e3⟩ := hP
      refine ⟨tv, rs, farB2 e1 (by decide) (by decide), farO2 e2 (by decide) (by decide), e3.len, e3.fst, e3.few, e3.short, fun i y hy => ?_⟩
      obtain ⟨A', c', f1, f2⟩ := e3.at_ i y hy
      exact ⟨A', c', f1, farO2 f2 (by decide) (by decide)⟩
    · have hq' : (stepTo ps l k)[j]? = some q := by
        rw [stepTo_at] at hq ⊢
        rcases Nat.lt_or_gt_of_ne hj with h1 | h1
        · simpa [h1, show j < k + 1 by omega] using hq
        · simpa [show ¬ j < k by omega, show ¬ j < k + 1 by omega] using hq
      have hxX : x ≠ X := by
        rintro rfl
        obtain ⟨a1, a2⟩ := List.getElem?_eq_some_iff.1 hxj
        obtain ⟨b1, b2⟩ := List.getElem?_eq_some_iff.1 hx
        exact hj ((List.getElem_inj h.pa.nodup).1 (a2.trans b2.symm))
      obtain ⟨tv, rs, e1, e2, e3⟩ := h.pa.port j x q hxj hq'
      refine ⟨tv, rs, far _ _ e1 hxX (Ne.symm (own_ne hou e1 (by decide))) (bk_ne e1 hu (by decide)), farO e2 (by decide) (by decide) (by decide), e3.len, e3.fst, e3.few, e3.short, fun i y hy => ?_⟩
      obtain ⟨A', c', f1, f2⟩ := e3.at_ i y hy
      exact ⟨A', c', f1, farO f2 (by decide) (by decide) (by decide)⟩
  · have := hbk4.set_ 0 v'
    exact this
  · rw [cameL_yes hp hm, cameCells_append, List.length_append]
    exact ownsRow_setCell_below ho4 (a := ⟨w.heap.size + 1, 0, none⟩) (by simp) v'
  · refine ⟨?_, ?_, ?_, ?_, fun i hi hn => ?_⟩
    · exact (hg4.os.trans hg.os).trans h.kb.os
    · exact (hg4.tape.trans hg.tape).trans h.kb.tape
    · exact (hg4.output.trans hg.output).trans h.kb.output
    · have h1 := h.kb.size; have h2 := hg.size; have h3 := hg4.size
      simp at h3 ⊢
      omega
    · have e := h.kb.block i hi hn
      rw [← e]
      have hil : i < W1.heap.size := Nat.lt_of_lt_of_le hi h.kb.size
      rw [far i W1.heap[i] (Array.getElem?_eq_getElem hil) (fun e' => hn (e' ▸ List.mem_of_getElem? hx)) (fun e' => by
        have := (hou.lt i e'.symm).1
        omega) (by omega)]
      exact (Array.getElem?_eq_getElem hil).symm
end

/-- A function leaves with marks alone. -/
theorem leaves_marks {F : Fence} {n : Nat} {P : Program} {fn : Func} {tmps : Array Value} {R : Ending → World → Prop} (I : World → Prop) (B : Nat)
    (hI : ∀ W D, I W → B ≤ D → W.heap[D]? = some (.deferred (some [])) → I (W.putObj D (.deferred none)))
    (hR : ∀ W, I W → LeavesInM F n P fn tmps R [] .returning W) :
    ∀ (Ds : List Nat) (W : World), Ds.Nodup → (∀ D ∈ Ds, B ≤ D ∧ W.heap[D]? = some (.deferred (some []))) → I W → LeavesInM F n P fn tmps R (Ds.map fun D => { target := .collected D, args := #[] }) .returning W := by
  intro Ds
  induction Ds with
  | nil => exact fun W _ _ h => hR W h
  | cons D Ds ih =>
    intro W hn hD h
    obtain ⟨h1, h2⟩ := hD D (List.mem_cons_self ..)
    refine ⟨by simp, .inl ⟨D, _, rfl, run_takeDeferred h2, ?_⟩⟩
    rw [List.nodup_cons] at hn
    refine ih _ hn.2 (fun E hE => ?_) (hI _ _ h h1 h2)
    obtain ⟨e1, e2⟩ := hD E (List.mem_cons_of_mem _ hE)
    exact ⟨e1, (World.putObj_heap_other (fun e : E = D => hn.1 (by rw [← e]; exact hE))).trans e2⟩
end Go.Proofs.Ythgfmkdgemepnaa
