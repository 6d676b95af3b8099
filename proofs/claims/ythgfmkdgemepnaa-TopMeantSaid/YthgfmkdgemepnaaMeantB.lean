/- What holds between two packets. -/
import Derived.Test.YthgfmkdgemepnaaMeantA
namespace Go.Proofs.Ythgfmkdgemepnaa
open Go.RowKit

theorem PortsAt.move {w w' : World} {base PB M : Nat} {qv : Value} {n : Int} {quotas : List Int} {xs : List Nat} {ps : List PortSt} (h : PortsAt w base PB M qv n quotas xs ps)
    (hk : ∀ g t cs, Bk w g t cs → t ≠ 39 → Bk w' g t cs) (hm : w'.heap[M]? = w.heap[M]?) : PortsAt w' base PB M qv n quotas xs ps := by
  have ho : ∀ {b : Nat} {e : TypeId} {size n : Nat} {v : Value} {ys : List Value}, w.ownsRow b e size v n ys → e ≠ 39 → w'.ownsRow b e size v n ys := fun hv he => own_move hv fun g cs _ hb => hk g _ cs hb he
  refine ⟨hk _ _ _ h.pb (by decide), ho h.qs (by decide), hm.trans h.mp, h.len, fun j x p hx hp => ?_, h.nodup, h.lo⟩
  obtain ⟨tv, rs, h1, h2, h3⟩ := h.port j x p hx hp
  refine ⟨tv, rs, hk _ _ _ h1 (by decide), ho h2 (by decide), h3.len, h3.fst, h3.few, h3.short, fun i l hl => ?_⟩
  obtain ⟨A, c, e1, e2⟩ := h3.at_ i l hl
  exact ⟨A, c, e1, ho e2 (by decide)⟩
theorem PortsAt.not_mem {w : World} {base PB M : Nat} {qv : Value} {n : Int} {quotas : List Int} {xs : List Nat} {ps : List PortSt} (h : PortsAt w base PB M qv n quotas xs ps) {g : Nat} {t : TypeId} {cs : Array Value} (hb : Bk w g t cs) (ht : t ≠ 75) : g ∉ xs := by
  intro hg
  obtain ⟨j, hj, e⟩ := List.getElem_of_mem hg
  have hj' : j < ps.length := by rw [← h.len]; exact hj
  obtain ⟨tv, rs, hb2, _⟩ := h.port j g ps[j] (by rw [List.getElem?_eq_getElem hj, e]) (List.getElem?_eq_getElem hj')
  exact bk_ne' hb hb2 ht rfl

theorem Sl.head {w : World} {A : Option Addr} {l : List UInt8} (h : Sl w 1 A l.length (bcells l)) (hl : 0 < l.length) : ∃ bb o, A = some ⟨bb, o, none⟩ ∧ w.cell? ⟨bb, o, none⟩ = some (.int .u8 ((l.getD 0 0).toNat : Int)) := by
  obtain ⟨b, o, e, _, hc⟩ := h.at_ hl
  refine ⟨b, o, e, ?_⟩
  have := hc 0 (.int .u8 ((l.getD 0 0).toNat : Int)) (by simp [bcells, List.getD, hl])
  simpa using this
theorem home_yes {l : List UInt8} {n : Nat} (h : homeOf l = some n) : 0 < l.length ∧ (l.getD 0 0).toNat = n := by
  cases l with
  | nil => simp [homeOf] at h
  | cons b r =>
    simp only [homeOf] at h
    split at h
    · injection h with h
      exact ⟨by simp, by simpa using h⟩
    · cases h
theorem home_no {l : List UInt8} {n : Nat} (hn : n < 8) (h : ¬ homeOf l = some n) : l.length = 0 ∨ (0 < l.length ∧ (l.getD 0 0).toNat ≠ n) := by
  cases l with
  | nil => exact .inl rfl
  | cons b r =>
    right
    refine ⟨by simp, fun e => h ?_⟩
    simp only [List.getD_cons_zero] at e
    simp only [homeOf]
    rw [if_pos (by omega), e]

theorem match_own {n : Nat} (hn : n < 8) {l : List UInt8} (hll : l.length ≤ 64) {W : World} {lA : Option Addr} (lc : Nat) (hs : Sl W 1 lA l.length (bcells l)) {b : Bool} (hb : decide (homeOf l = some n) = b) :
    Calls Try.prog 12 #[.slice (some ⟨W.heap.size, 0, none⟩) 1 1, .slice lA l.length lc] (W.alloc (.cells #[.int .i64 0, .int .i64 255, .int .i64 (n : Int)] 45)) fun e w' => e = .returned (.bool b) ∧ Below W.heap.size W w' := by
  have hsl : Sl (W.alloc (.cells #[.int .i64 0, .int .i64 255, .int .i64 (n : Int)] 45)) 3 (some ⟨W.heap.size, 0, none⟩) 1 (tsCells [⟨0, 255, (n : Int)⟩]) := by
    refine ⟨rfl, fun _ => ⟨W.heap.size, 0, rfl, by simp, fun j u hu => ?_⟩⟩
    rw [Nat.zero_add, cell_of_row _ _ _ _ 45 (0, 0) (heap_alloc_new W _)]
    simpa [tsCells, tcells] using hu
  refine (match12 (some ⟨W.heap.size, 0, none⟩) 1 [⟨0, 255, (n : Int)⟩] lA lc l _ (by simp) hsl (hs.alloc _)).mono ?_
  rintro e w' ⟨rfl, h⟩
  rw [match_home hn hll, hb]
  exact ⟨rfl, ((Below.refl _ W).alloc (Nat.le_refl _) _).trans (h.mono (by simp))⟩

theorem same_rows {A B : Option Addr} {c d b b' : Nat} {vs us : List Value} {r s : List (List UInt8)} {w : World} (hA : w.ownsRow b 39 1 (.slice A r.length c) r.length vs) (hB : w.ownsRow b' 39 1 (.slice B s.length d) s.length us)
    (hr : SlsOf w vs r) (hs : SlsOf w us s) (hn : r.length ≤ 4096) (hm : s.length ≤ 4096) :
    Calls Try.prog 14 #[.slice A r.length c, .slice B s.length d] w fun e w' => e = .returned (.bool (decide (r = s))) ∧ Below w.heap.size w w' := by
  have h := same14 A B c d vs us r s w (by rw [hr.len]; exact Sl.of_own hA) (by rw [hs.len]; exact Sl.of_own hB) hr hs hn hm
  rw [hr.len, hs.len] at h
  exact h
theorem SlsOf.below {w w' : World} {vs : List Value} {r : List (List UInt8)} (h : SlsOf w vs r) (hb : Below w.heap.size w w') : SlsOf w' vs r :=
  ⟨h.len, fun i l hl => by
    obtain ⟨A, c, h1, h2⟩ := h.at_ i l hl
    exact ⟨A, c, h1, h2.below hb (Nat.le_refl _)⟩⟩

/-- Between two packets: what the ports hold, and the packets that are wanted. -/
structure RdInv (w : World) (base PB M : Nat) (qv : Value) (n : Nat) (xs : List Nat) (ts : List (List Ts)) (f g : List Ts) (pk : List (List UInt8)) (v : Value) (W : World) : Prop where
  pa : PortsAt W base PB M qv (n : Int) (quotasFor n) xs (portsOf n ts pk)
  wt : ∃ vs, W.ownsRow w.heap.size 39 1 v (wantL n f g pk).length vs ∧ SlsOf w vs (wantL n f g pk)
  bel : Below w.heap.size w W

section
variable {w : World} {base PB M : Nat} {qv : Value} {n : Nat} {xs : List Nat} {ts : List (List Ts)} {f g : List Ts} {pk : List (List UInt8)} {v : Value} {W W' : World}
theorem RdInv.frame (h : RdInv w base PB M qv n xs ts f g pk v W) (hb : Below W.heap.size W W') : RdInv w base PB M qv n xs ts f g pk v W' := by
  obtain ⟨vs, h1, h2⟩ := h.wt
  have hM : M < W.heap.size := (Array.getElem?_eq_some_iff.1 h.pa.mp).1
  exact ⟨h.pa.fin (Fin'.of_below hb) hM, ⟨vs, own_below h1 hb (Nat.le_refl _), h2⟩, h.bel.trans (hb.mono h.bel.size)⟩
theorem RdInv.skip (h : RdInv w base PB M qv n xs ts f g pk v W) {l : List UInt8} (hf : forN n l = false) : RdInv w base PB M qv n xs ts f g (pk ++ [l]) v W := by
  obtain ⟨vs, h1, h2⟩ := h.wt
  have e : wantL n f g (pk ++ [l]) = wantL n f g pk := by rw [wantL_snoc, hf]; simp
  exact ⟨by rw [portsOf_other hf]; exact h.pa, ⟨vs, by rw [e]; exact h1, by rw [e]; exact h2⟩, h.bel⟩
/-- What Come leaves; the wanted ones are not told yet. -/
structure RdMid (w : World) (base PB M : Nat) (qv : Value) (n : Nat) (xs : List Nat) (ts : List (List Ts)) (f g : List Ts) (pk : List (List UInt8)) (l : List UInt8) (v : Value) (W : World) : Prop where
  pa : PortsAt W base PB M qv (n : Int) (quotasFor n) xs (portsOf n ts (pk ++ [l]))
  wt : ∃ vs, W.ownsRow w.heap.size 39 1 v (wantL n f g pk).length vs ∧ SlsOf w vs (wantL n f g pk)
  bel : Below w.heap.size w W
theorem RdInv.come (h : RdInv w base PB M qv n xs ts f g pk v W) (hbase : w.heap.size ≤ base) {l : List UInt8} {e : Ending} (hc : ComeAll base PB M qv n (quotasFor n) xs ts pk l W e W') : RdMid w base PB M qv n xs ts f g pk l v W' := by
  obtain ⟨_, _, _, _, _, _, hp, hk⟩ := hc
  obtain ⟨vs, h1, h2⟩ := h.wt
  refine ⟨hp, ⟨vs, own_move h1 (fun g cs _ hb => (hk.block g hb.lt (h.pa.not_mem hb (by decide))).trans hb), h2⟩, h.bel.trans (hk.below h.bel.size fun x hx => ?_)⟩
  have := h.pa.lo.2.2 x hx
  omega
theorem RdMid.frame {l : List UInt8} (h : RdMid w base PB M qv n xs ts f g pk l v W) (hb : Below W.heap.size W W') : RdMid w base PB M qv n xs ts f g pk l v W' := by
  obtain ⟨vs, h1, h2⟩ := h.wt
  have hM : M < W.heap.size := (Array.getElem?_eq_some_iff.1 h.pa.mp).1
  exact ⟨h.pa.fin (Fin'.of_below hb) hM, ⟨vs, own_below h1 hb (Nat.le_refl _), h2⟩, h.bel.trans (hb.mono h.bel.size)⟩
theorem RdMid.done {l : List UInt8} (h : RdMid w base PB M qv n xs ts f g pk l v W) (hf : (forN n l && (matchF f l && matchF g l)) = false) : RdInv w base PB M qv n xs ts f g (pk ++ [l]) v W := by
  obtain ⟨vs, h1, h2⟩ := h.wt
  have e : wantL n f g (pk ++ [l]) = wantL n f g pk := by rw [wantL_snoc, hf]; simp
  exact ⟨h.pa, ⟨vs, by rw [e]; exact h1, by rw [e]; exact h2⟩, h.bel⟩
theorem SlsOf.snoc {vs : List Value} {r : List (List UInt8)} (h : SlsOf w vs r) {A : Option Addr} {c : Nat} {l : List UInt8} (hl : Sl w 1 A l.length (bcells l)) : SlsOf w (vs ++ [.slice A l.length c]) (r ++ [l]) := by
  refine ⟨by simp [h.len], fun i x hx => ?_⟩
  rcases Nat.lt_trichotomy i r.length with hi | hi | hi
  · rw [List.getElem?_append_left hi] at hx
    obtain ⟨A2, c2, h1, h2⟩ := h.at_ i x hx
    exact ⟨A2, c2, by rw [List.getElem?_append_left (by rw [h.len]; exact hi)]; exact h1, h2⟩
  · subst hi
    rw [List.getElem?_append_right (Nat.le_refl _), Nat.sub_self] at hx
    simp only [List.getElem?_cons_zero, Option.some.injEq] at hx
    subst hx
    exact ⟨A, c, by rw [← h.len, List.getElem?_append_right (Nat.le_refl _), Nat.sub_self]; rfl, hl⟩
  · rw [List.getElem?_eq_none (by simp; omega)] at hx
    cases hx
/-- The packet is wanted: it is put behind the others. -/
theorem RdMid.want {l : List UInt8} (h : RdMid w base PB M qv n xs ts f g pk l v W) (hf : (forN n l && (matchF f l && matchF g l)) = true) {A : Option Addr} {c : Nat} (hl : Sl w 1 A l.length (bcells l)) {vs : List Value}
    (h1 : W.ownsRow w.heap.size 39 1 v (wantL n f g pk).length vs) (h2 : SlsOf w vs (wantL n f g pk)) (o : Obj) {v' : Value} {m : Nat} (hm : m = (wantL n f g pk).length + 1)
    (ho : W'.ownsRow w.heap.size 39 1 v' m (vs ++ [.slice A l.length c])) (hg : (W.alloc o).grownBy W' v.ownBlock) : RdInv w base PB M qv n xs ts f g (pk ++ [l]) v' W' := by
  have e : wantL n f g (pk ++ [l]) = wantL n f g pk ++ [l] := by rw [wantL_snoc, hf]; simp
  have hs := hg.size
  simp at hs
  refine ⟨h.pa.move (fun g' t cs hb ht => ?_) ?_, ⟨_, by rw [e, List.length_append]; subst hm; exact ho, by rw [e]; exact h2.snoc hl⟩, ?_⟩
  · exact (hg.block g' (by have := hb.lt; simp; omega) (Ne.symm (own_ne (own_base h1 (Nat.zero_le _)) hb (Ne.symm ht)))).trans ((Below.heap_alloc _ _ _ hb.lt).trans hb)
  · have hml := (Array.getElem?_eq_some_iff.1 h.pa.mp).1
    exact (hg.block M (by simp; omega) (Ne.symm (own_ne_obj h1 h.pa.mp rfl))).trans (Below.heap_alloc _ _ _ hml)
  · exact (h.bel.alloc h.bel.size o).grown hg (by have := h.bel.size; simp; omega) (fun k hk => (h1.lt k hk).1)
end
end Go.Proofs.Ythgfmkdgemepnaa
