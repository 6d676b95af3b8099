/- filter.bytes: what a filter says of each byte. -/
import Derived.Test.YthgfmkdgemepnaaMatch
import Derived.StillTailTactics
namespace Go.Proofs.Ythgfmkdgemepnaa
open Go.RowKit

section
variable {P : Program}
/-- A new variable of a type whose zero value is known whole. -/
theorem wpList_alloc_row {ops : Array Oper} {rest : List Oper} {o : Oper} {a : Act} {w : World} {Q : Exit → Act → World → Prop} (hg : o.guard = none) (t : TypeId) (ho : o.op = .alloc t)
    (i : TypeInfo) (cs : Array Value) (hi : P.info? t = some i) (hz : i.zero = some (.agg cs))
    (h : wpList P ops Q rest (a.put o.dst (.pointer (some ⟨w.heap.size, 0, none⟩))) (w.alloc (.cells cs t))) : wpList P ops Q (o :: rest) a w := by
  refine wpList_plain hg fun K hK => ?_
  unfold Oper.wp execOp
  simp [ho, Instr.alloc, zeroValue, typeInfo, hi, hz, newVar, newRow, go_sem, Value.cells]
  exact hK _ _ h
end

/-- What tests say of a byte. -/
structure Wa where
  is : Bool
  mask : Int
  value : Int
def wcells (x : Wa) : List Value := [.bool x.is, .int .i64 x.mask, .int .i64 x.value]
def wsCells (l : List Wa) : Array Value := (l.flatMap wcells).toArray
def w0 : Wa := ⟨false, 0, 0⟩
def ws0 : List Wa := List.replicate 64 w0
theorem ws0_length : ws0.length = 64 := by simp [ws0]
theorem set_app {α : Type} (l m : List α) (i : Nat) (x : α) (h : l.length ≤ i) : (l ++ m).set i x = l ++ m.set (i - l.length) x := by
  rw [List.set_append, if_neg (by omega)]
theorem info62 : (Try.prog.info? 62).map (fun i => (i.zero, i.size, i.bytes)) = some (some (.agg (wsCells ws0)), 192, 1536) := by kernel_rfl
theorem info61 : (Try.prog.info? 61).map (fun i => (i.zero, i.size, i.bytes)) = some (some (.agg #[.bool false, .int .i64 0, .int .i64 0]), 3, 24) := by kernel_rfl


def badT (x : Wa) (t : Ts) : Bool := (bits .andNot .i64 t.value t.mask != 0) || (x.is && (bits .and .i64 (bits .and .i64 (bits .xor .i64 x.value t.value) x.mask) t.mask != 0))
def stepW (x : Wa) (t : Ts) : Wa := ⟨true, bits .or .i64 x.mask t.mask, bits .or .i64 x.value t.value⟩
def stepB (s : List Wa × Bool) (t : Ts) : List Wa × Bool :=
  (s.1.set t.at_.toNat (stepW (s.1.getD t.at_.toNat w0) t), s.2 && !badT (s.1.getD t.at_.toNat w0) t)
def bytesF (f : List Ts) : List Wa × Bool := f.foldl stepB (ws0, true)

theorem wsCells_list (l : List Wa) : (wsCells l).toList = l.flatMap wcells := by simp [wsCells]
theorem wsL_length (l : List Wa) : (l.flatMap wcells).length = l.length * 3 := by
  induction l with
  | nil => rfl
  | cons t f ih => rw [List.flatMap_cons, List.length_append, ih, List.length_cons]; simp [wcells]; omega
theorem wsCells_size (l : List Wa) : (wsCells l).size = l.length * 3 := by rw [← Array.length_toList, wsCells_list, wsL_length]
theorem wsL_at (f : List Wa) (k : Nat) (t : Wa) (h : f[k]? = some t) :
    (f.flatMap wcells)[k * 3]? = some (.bool t.is) ∧ (f.flatMap wcells)[k * 3 + 1]? = some (.int .i64 t.mask) ∧ (f.flatMap wcells)[k * 3 + 2]? = some (.int .i64 t.value) := by
  induction f generalizing k with
  | nil => simp at h
  | cons a f ih =>
    cases k with
    | zero => simp at h; subst h; exact ⟨rfl, rfl, rfl⟩
    | succ k =>
      simp only [List.getElem?_cons_succ] at h
      obtain ⟨h1, h2, h3⟩ := ih k h
      have e : (k + 1) * 3 = k * 3 + 3 := by omega
      rw [e, List.flatMap_cons]
      refine ⟨?_, ?_, ?_⟩
      · rw [List.getElem?_append_right (by simp [wcells])]; simpa [wcells] using h1
      · rw [List.getElem?_append_right (by simp [wcells])]
        have : k * 3 + 3 + 1 - (wcells a).length = k * 3 + 1 := by simp [wcells]
        rw [this]; exact h2
      · rw [List.getElem?_append_right (by simp [wcells])]
        have : k * 3 + 3 + 2 - (wcells a).length = k * 3 + 2 := by simp [wcells]
        rw [this]; exact h3
theorem wsCells_set (l : List Wa) (k : Nat) (x : Wa) (h : k < l.length) :
    (((wsCells l).setIfInBounds (k * 3) (.bool x.is)).setIfInBounds (k * 3 + 1) (.int .i64 x.mask)).setIfInBounds (k * 3 + 2) (.int .i64 x.value) = wsCells (l.set k x) := by
  rw [← Array.toList_inj]
  simp only [Array.toList_setIfInBounds, wsCells_list]
  induction l generalizing k with
  | nil => simp at h
  | cons a f ih =>
    cases k with
    | zero => simp [wcells]
    | succ k =>
      have e : (k + 1) * 3 = k * 3 + 3 := by omega
      rw [e, List.set_cons_succ, List.flatMap_cons, List.flatMap_cons, ← ih k (by simpa using h)]
      have hl : (wcells a).length = 3 := rfl
      rw [set_app _ _ _ _ (by omega), set_app _ _ _ _ (by omega), set_app _ _ _ _ (by omega), hl]
      have e0 : k * 3 + 3 - 3 = k * 3 := by omega
      have e1 : k * 3 + 3 + 1 - 3 = k * 3 + 1 := by omega
      have e2 : k * 3 + 3 + 2 - 3 = k * 3 + 2 := by omega
      rw [e0, e1, e2]
theorem stepB_length (s : List Wa × Bool) (t : Ts) : (stepB s t).1.length = s.1.length := by simp [stepB]
theorem foldB_length (f : List Ts) (s : List Wa × Bool) : (f.foldl stepB s).1.length = s.1.length := by
  induction f generalizing s with
  | nil => rfl
  | cons t f ih => rw [List.foldl_cons, ih, stepB_length]
theorem foldB_take {f : List Ts} {k : Nat} {t : Ts} (ht : f[k]? = some t) (s : List Wa × Bool) : (f.take (k + 1)).foldl stepB s = stepB ((f.take k).foldl stepB s) t := by
  rw [List.take_add_one, ht, List.foldl_append]
  rfl

/-- The three cells of want k. -/
theorem Bk.want {w : World} {O : Nat} {l : List Wa} {k : Nat} {x : Wa} (h : Bk w O 62 (wsCells l)) (hx : l[k]? = some x) :
    w.cell? ⟨O, k * 3, none⟩ = some (.bool x.is) ∧ w.cell? ⟨O, k * 3 + 1, none⟩ = some (.int .i64 x.mask) ∧ w.cell? ⟨O, k * 3 + 2, none⟩ = some (.int .i64 x.value) := by
  obtain ⟨h0, h1, h2⟩ := wsL_at l k x hx
  simp only [cell_of_row w O _ _ 62 (0, 0) h, wsCells, List.getElem?_toArray]
  exact ⟨h0, h1, h2⟩

theorem results_row_tmp {P : Program} {fn : Func} {p u : Tmp} {ty : TypeId} (h : fn.results = #[.cell p ty, .tmp u]) (tmps : Array Value) (w : World) (g : Nat) (t : TypeId) (cs : Array Value) (fr : Nat × Nat) (d : TypeDesc)
    (hp : tmps.getD p undef = .pointer (some ⟨g, 0, none⟩)) (hg : w.heap[g]? = some (.cells cs t fr))
    (hu : P.underlying ty = some d) (hd : (match d with | .struct _ | .array _ _ => true | _ => false) = true) (hi : (P.info? ty).map (·.size) = some cs.size) :
    (results fn tmps).run P w = .ok (.tuple #[.agg cs, tmps.getD u undef]) w := by
  have hp' : tmps[p]?.getD undef = .pointer (some ⟨g, 0, none⟩) := by simpa using hp
  simp [results, h, hp', asAddr, run_loadVar_row w g t ty cs fr d hg hu hd hi]
theorem below_setRow {B : Nat} (w : World) (g : Nat) (cs : Array Value) (hg : B ≤ g) : Below B w (w.setRow g cs) :=
  ⟨rfl, rfl, rfl, by simp, fun k hk => setRow_other w g k cs (by omega)⟩
theorem wsCells_one (l : List Wa) : (wsCells l).all (·.oneCell') = true := by
  rw [Array.all_eq_true_iff_forall_mem]
  intro u hu
  have hu' : u ∈ l.flatMap wcells := by simpa [wsCells] using hu
  obtain ⟨x, _, hx⟩ := List.mem_flatMap.1 hu'
  simp only [wcells, List.mem_cons, List.not_mem_nil, or_false] at hx
  rcases hx with rfl | rfl | rfl <;> rfl
theorem getD_of {α : Type} {l : List α} {k : Nat} {x : α} (h : l[k]? = some x) (d : α) : l.getD k d = x := by simp [List.getD, h]
theorem bad_cases (xi : Bool) (xm xv p m v : Int) :
    ((bits .andNot .i64 v m != 0) = true ∧ badT ⟨xi, xm, xv⟩ ⟨p, m, v⟩ = true) ∨
    ((bits .andNot .i64 v m != 0) = false ∧ xi = false ∧ badT ⟨xi, xm, xv⟩ ⟨p, m, v⟩ = false) ∨
    ((bits .andNot .i64 v m != 0) = false ∧ xi = true ∧ (bits .and .i64 (bits .and .i64 (bits .xor .i64 xv v) xm) m != 0) = true ∧ badT ⟨xi, xm, xv⟩ ⟨p, m, v⟩ = true) ∨
    ((bits .andNot .i64 v m != 0) = false ∧ xi = true ∧ (bits .and .i64 (bits .and .i64 (bits .xor .i64 xv v) xm) m != 0) = false ∧ badT ⟨xi, xm, xv⟩ ⟨p, m, v⟩ = false) := by
  unfold badT
  cases (bits .andNot .i64 v m != 0) <;> cases xi <;> cases (bits .and .i64 (bits .and .i64 (bits .xor .i64 xv v) xm) m != 0) <;> simp

/-- What a round of 'bytes' leaves of the array. -/
theorem want_stored {bb xi : Bool} {W : World} {O : Nat} {ws : List Wa} {p : Nat} {xm xv m v : Int} (h : Bk W O 62 (wsCells ws)) (hx : ws[p]? = some ⟨xi, xm, xv⟩) :
    Bk (((W.setCell ⟨O, p * 3, none⟩ (.bool true)).setCell ⟨O, p * 3 + 1, none⟩ (.int .i64 (bits .or .i64 xm m))).setCell ⟨O, p * 3 + 2, none⟩ (.int .i64 (bits .or .i64 xv v))).drew O 62
      (wsCells (stepB (ws, bb) ⟨(p : Int), m, v⟩).1) := by
  have hl := (List.getElem?_eq_some_iff.1 hx).1
  have := ((h.set_ (p * 3) (.bool true)).set_ (p * 3 + 1) (.int .i64 (bits .or .i64 xm m))).set_ (p * 3 + 2) (.int .i64 (bits .or .i64 xv v))
  have e := wsCells_set ws p (stepW ⟨xi, xm, xv⟩ ⟨(p : Int), m, v⟩) hl
  simp only [stepW] at e
  rw [e] at this
  have hg : ws.getD p w0 = ⟨xi, xm, xv⟩ := by simp [List.getD, hx]
  simp only [stepB, Int.toNat_natCast, hg, stepW]
  exact this.drew
theorem stepB_snd {bb xi r : Bool} {ws : List Wa} {p : Nat} {xm xv m v : Int} (hx : ws[p]? = some ⟨xi, xm, xv⟩) (hb : badT ⟨xi, xm, xv⟩ ⟨(p : Int), m, v⟩ = r) : (stepB (ws, bb) ⟨(p : Int), m, v⟩).2 = (bb && !r) := by
  have hg : ws.getD p w0 = ⟨xi, xm, xv⟩ := by simp [List.getD, hx]
  simp only [stepB, Int.toNat_natCast, hg, hb]

set_option maxRecDepth 100000 in
set_option maxHeartbeats 8000000 in
theorem bytes20 (A : Option Addr) (c : Nat) (f : List Ts) (w : World) (hr : Sl w 3 A f.length (tsCells f)) (hn : f.length ≤ 4096) (hm : f.all may1 = true) :
    Calls Try.prog 20 #[.slice A f.length c] w fun e w' => e = .returned (.tuple #[.agg (wsCells (bytesF f).1), .bool (bytesF f).2]) ∧ Below w.heap.size w w' := by
  obtain ⟨i2, hi2, hz2, hs2, _⟩ := info_parts info62
  have HM := hid hm
  clear hm
  go_enter Try.func20, Try.ntmps20
  go_wp2_with (refine wpList_alloc_row rfl 62 rfl i2 _ hi2 hz2 ?_)
  have hR0 : Bk ((w.alloc (.cells (wsCells ws0) 62)).alloc (.cells (wsCells ws0) 62)) w.heap.size 62 (wsCells ws0) := heap_alloc2_old w _ _
  have hO0 : Bk ((w.alloc (.cells (wsCells ws0) 62)).alloc (.cells (wsCells ws0) 62)) (w.heap.size + 1) 62 (wsCells ws0) := heap_alloc2_new w _ _
  have hB0 : Below w.heap.size w ((w.alloc (.cells (wsCells ws0) 62)).alloc (.cells (wsCells ws0) 62)) := ((Below.refl _ w).alloc (Nat.le_refl _) _).alloc (by simp) _
  go_loopw [5, 11] (fun m i wr => ∃ k : Nat, k ≤ f.length ∧ i = .int .i64 k ∧ m = .bool ((f.take k).foldl stepB (ws0, true)).2 ∧
      Bk wr (w.heap.size + 1) 62 (wsCells ((f.take k).foldl stepB (ws0, true)).1) ∧ Bk wr w.heap.size 62 (wsCells ws0) ∧ Below w.heap.size w wr) (fun _ i _ => f.length - (intOf i).toNat)
  case atStart => exact ⟨0, Nat.zero_le _, rfl, rfl, hO0, hR0, hB0⟩
  case round =>
    obtain ⟨k, hk, rfl, rfl, hO, hR, hb⟩ := hrel
    clear hR0 hO0 hB0
    have hb0 := hb.size
    have hlen := foldB_length (f.take k) (ws0, true)
    rw [ws0_length] at hlen
    by_cases hlt : k < f.length
    · obtain ⟨t, ht⟩ : ∃ t, f[k]? = some t := ⟨_, List.getElem?_eq_getElem hlt⟩
      obtain ⟨b, o, rfl, hbl, c0, c1, c2⟩ := (hr.below hb (Nat.le_refl _)).test ht
      have hstep := hid (foldB_take ht (ws0, true))
      have hm1 : may1 t = true := List.all_eq_true.1 HM.out t (List.mem_of_getElem? ht)
      have HT := hid ht
      clear ht
      obtain ⟨a, m, v⟩ := t
      simp only [may1, decide_eq_true_eq] at hm1
      obtain ⟨m0, m1, m2, m3, m4, m5⟩ := hm1
      obtain ⟨p, rfl⟩ := Int.eq_ofNat_of_zero_le m0
      dsimp only at c0 c1 c2
      generalize ((f.take k).foldl stepB (ws0, true)) = s at hlen hO hstep ⊢
      obtain ⟨ws, bb⟩ := s
      dsimp only at hlen hO hstep ⊢
      have hpl : p < ws.length := by omega
      obtain ⟨x, hx⟩ : ∃ x, ws[p]? = some x := ⟨_, List.getElem?_eq_getElem hpl⟩
      obtain ⟨xi, xm, xv⟩ := x
      obtain ⟨d0, d1, d2⟩ := hO.want hx
      dsimp only at d0 d1 d2
      have HX := hid hx
      clear hx
      have hOl : w.heap.size + 1 < wr.heap.size := (Array.getElem?_eq_some_iff.1 hO).1
      have e0 : (wr.alloc (.cells #[.int .i64 (p : Int), .int .i64 m, .int .i64 v] 45)).cell? ⟨w.heap.size + 1, p * 3, none⟩ = some (.bool xi) := by rw [World.cell?_alloc_lt _ _ _ hOl]; exact d0
      have e1 : (wr.alloc (.cells #[.int .i64 (p : Int), .int .i64 m, .int .i64 v] 45)).cell? ⟨w.heap.size + 1, p * 3 + 1, none⟩ = some (.int .i64 xm) := by rw [World.cell?_alloc_lt _ _ _ hOl]; exact d1
      have e2 : (wr.alloc (.cells #[.int .i64 (p : Int), .int .i64 m, .int .i64 v] 45)).cell? ⟨w.heap.size + 1, p * 3 + 2, none⟩ = some (.int .i64 xv) := by rw [World.cell?_alloc_lt _ _ _ hOl]; exact d2
      have HB := hid hb
      have HO := hid hO
      have HR := hid hR
      clear d0 d1 d2 hr hO hR hb
      rcases bad_cases xi xm xv p m v with ⟨t1, hbad⟩ | ⟨t1, rfl, hbad⟩ | ⟨t1, rfl, t2, hbad⟩ | ⟨t1, rfl, t2, hbad⟩
      all_goals as_aux_lemma =>
        have HBAD := hid hbad
        clear hbad
        go_wp2_with fail
        go_quiet (fail)
        as_aux_lemma =>
          go_wp2_with fail
          generalize hW : (wr.alloc (.cells #[.int .i64 (p : Int), .int .i64 m, .int .i64 v] 45)).drewN nq = W1
          have f0 := (congrArg (fun W => World.cell? W ⟨w.heap.size + 1, p * 3, none⟩) hW).symm.trans e0
          have f1 : W1.cell? ⟨w.heap.size + 1, p * 3 + 1, none⟩ = some (.int .i64 xm) := by rw [← hW]; exact e1
          have f2 : W1.cell? ⟨w.heap.size + 1, p * 3 + 2, none⟩ = some (.int .i64 xv) := by rw [← hW]; exact e2
          have g1 : W1.cell? ⟨wr.heap.size, 1, none⟩ = some (.int .i64 m) := by rw [← hW]; exact cell_of_row _ _ 1 _ 45 (0, 0) (heap_alloc_new wr _)
          have g2 : W1.cell? ⟨wr.heap.size, 2, none⟩ = some (.int .i64 v) := by rw [← hW]; exact cell_of_row _ _ 2 _ 45 (0, 0) (heap_alloc_new wr _)
          have HO1 : Hid (Bk W1 (w.heap.size + 1) 62 (wsCells ws)) := by show Bk _ _ _ _; rw [← hW]; exact (HO.out.alloc _).drN nq
          have z0 := HO1.out.froz (p * 3)
          have z1 := HO1.out.froz (p * 3 + 1)
          have z2 := HO1.out.froz (p * 3 + 2)
          have HR1 : Hid (Bk W1 w.heap.size 62 (wsCells ws0)) := by show Bk _ _ _ _; rw [← hW]; exact (HR.out.alloc _).drN nq
          have HB1 : Hid (Below w.heap.size w W1) := by show Below _ _ _; rw [← hW]; exact Below.drN (HB.out.alloc hb0 _) nq
          clear hW e0 e1 e2 c0 c1 c2
          as_aux_lemma =>
            go_still_tail 17, (by kernel_rfl)
            go_wp2_with fail
            refine ⟨⟨k + 1, by omega, by go_num, ?_, ?_, ?_, ?_⟩, by simp [intOf]; omega⟩
            · rw [hstep.out, stepB_snd HX.out HBAD.out]; simp
            · rw [hstep.out]; exact want_stored HO1.out HX.out
            · exact ((HR1.out.far (by simp) _).far (by simp) _).far (by simp) _
            · exact (((HB1.out.setCell (by simp) _).setCell (by simp) _).setCell (by simp) _).drew
    · have hke : k = f.length := by omega
      subst hke
      rw [List.take_length] at hO ⊢
      have hsz : (Try.prog.info? 62).map (·.size) = some (wsCells (f.foldl stepB (ws0, true)).1).size := by rw [hi2]; simp [hs2, wsCells_size, foldB_length, ws0_length]
      have hsz0 : (wsCells ws0).size = (wsCells (f.foldl stepB (ws0, true)).1).size := by simp [wsCells_size, foldB_length]
      have h1c : (wsCells (f.foldl stepB (ws0, true)).1).all (·.oneCell') = true := wsCells_one _
      have HE : Hid (bytesF f = f.foldl stepB (ws0, true)) := rfl
      generalize f.foldl stepB (ws0, true) = s at hsz hsz0 h1c HE hO hlen ⊢
      go_wp2_with (first | (refine wpList_load_row rfl 62 (.tmp 4) rfl (w.heap.size + 1) rfl 62 _ (0, 0) _ hO Try.underlying62 rfl hsz ?_) | (refine wpList_store_row rfl 62 (.tmp 2) (.tmp 66) rfl w.heap.size _ rfl rfl 62 _ hR hsz hsz0 h1c ?_))
      have hR2 : (wr.setRow w.heap.size (wsCells s.1)).heap[w.heap.size]? = some (.cells (wsCells s.1) 62 (0, 0)) := setRow_heap wr _ _ _ _ _ hR
      refine bodyPost_ret (results_row_tmp rfl _ _ w.heap.size 62 _ (0, 0) _ rfl hR2 Try.underlying62 rfl hsz) rfl ⟨?_, hb.trans (below_setRow _ _ _ (Nat.le_refl _))⟩
      rw [HE.out]
      rfl
end Go.Proofs.Ythgfmkdgemepnaa
