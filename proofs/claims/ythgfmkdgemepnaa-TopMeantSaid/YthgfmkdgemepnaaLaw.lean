/- The plain law of filters: what the tests of one byte say together; the plain filter passes what the filter passes. -/
import Derived.Test.YthgfmkdgemepnaaBoth
import Derived.Test.YthgfmkdgemepnaaMatch
import Derived.Laws.Bits64
namespace Go.Proofs.Ythgfmkdgemepnaa
open Go.RowKit

section
theorem bv_small {a : Nat} (ha : a < 256) : (BitVec.ofInt 64 (a : Int)).toNat = a := by
  rw [BitVec.ofInt_natCast, BitVec.toNat_ofNat]; exact Nat.mod_eq_of_lt (by omega)
theorem wrap_small {a : Nat} (ha : a < 256) : IntKind.i64.wrap (a : Int) = (a : Int) := IntWalk.i64_in _ (by omega)
theorem and_small {a b : Nat} (ha : a < 256) : a &&& b < 256 := Nat.lt_of_le_of_lt Nat.and_le_left ha
theorem or_small {a b : Nat} (ha : a < 256) (hb : b < 256) : a ||| b < 256 := Nat.or_lt_two_pow (n := 8) ha hb
theorem xor_small {a b : Nat} (ha : a < 256) (hb : b < 256) : a ^^^ b < 256 := Nat.xor_lt_two_pow (n := 8) ha hb
theorem b_and {a b : Nat} (ha : a < 256) (hb : b < 256) : bits .and .i64 (a : Int) (b : Int) = ((a &&& b : Nat) : Int) := by
  show IntKind.i64.wrap ((BitVec.ofInt 64 (a : Int) &&& BitVec.ofInt 64 (b : Int)).toNat : Int) = _
  rw [BitVec.toNat_and, bv_small ha, bv_small hb, wrap_small (and_small ha)]
theorem b_or {a b : Nat} (ha : a < 256) (hb : b < 256) : bits .or .i64 (a : Int) (b : Int) = ((a ||| b : Nat) : Int) := by
  show IntKind.i64.wrap ((BitVec.ofInt 64 (a : Int) ||| BitVec.ofInt 64 (b : Int)).toNat : Int) = _
  rw [BitVec.toNat_or, bv_small ha, bv_small hb, wrap_small (or_small ha hb)]
theorem b_xor {a b : Nat} (ha : a < 256) (hb : b < 256) : bits .xor .i64 (a : Int) (b : Int) = ((a ^^^ b : Nat) : Int) := by
  show IntKind.i64.wrap ((BitVec.ofInt 64 (a : Int) ^^^ BitVec.ofInt 64 (b : Int)).toNat : Int) = _
  rw [BitVec.toNat_xor, bv_small ha, bv_small hb, wrap_small (xor_small ha hb)]
theorem b_andNot {a b : Nat} (ha : a < 256) (hb : b < 256) : bits .andNot .i64 (a : Int) (b : Int) = ((a ^^^ (a &&& b) : Nat) : Int) := by
  show IntKind.i64.wrap ((BitVec.ofInt 64 (a : Int) &&& ~~~ (BitVec.ofInt 64 (b : Int))).toNat : Int) = _
  have e : BitVec.ofInt 64 (a : Int) &&& ~~~ (BitVec.ofInt 64 (b : Int)) = BitVec.ofInt 64 (a : Int) ^^^ (BitVec.ofInt 64 (a : Int) &&& BitVec.ofInt 64 (b : Int)) := by
    apply BitVec.eq_of_getElem_eq
    intro i hi
    simp only [BitVec.getElem_and, BitVec.getElem_not, BitVec.getElem_xor]
    cases (BitVec.ofInt 64 (a : Int))[i] <;> cases (BitVec.ofInt 64 (b : Int))[i] <;> rfl
  rw [e, BitVec.toNat_xor, BitVec.toNat_and, bv_small ha, bv_small hb, wrap_small (xor_small ha (and_small ha))]
end

/-- Each bit of v is one of m. -/
def Sub (v m : Nat) : Prop := ∀ i, v.testBit i = true → m.testBit i = true
theorem sub_of {v m : Nat} (h : v ^^^ (v &&& m) = 0) : Sub v m := by
  intro i hi
  have := congrArg (fun x => Nat.testBit x i) h
  simp only [Nat.testBit_xor, Nat.testBit_and, Nat.zero_testBit, hi] at this
  simpa using this
theorem not_sub {b v m : Nat} (h : ¬ v ^^^ (v &&& m) = 0) : ¬ b &&& m = v := by
  intro e
  apply h
  apply Nat.eq_of_testBit_eq
  intro i
  rw [← e]
  simp only [Nat.testBit_xor, Nat.testBit_and, Nat.zero_testBit]
  cases b.testBit i <;> cases m.testBit i <;> rfl
theorem agree_of {xv v xm m : Nat} (h : (xv ^^^ v) &&& xm &&& m = 0) : ∀ i, xm.testBit i = true → m.testBit i = true → xv.testBit i = v.testBit i := by
  intro i h1 h2
  have := congrArg (fun x => Nat.testBit x i) h
  simp only [Nat.testBit_xor, Nat.testBit_and, Nat.zero_testBit, h1, h2, Bool.and_true] at this
  simpa using this
theorem not_agree {b xv v xm m : Nat} (h : ¬ (xv ^^^ v) &&& xm &&& m = 0) : ¬ (b &&& xm = xv ∧ b &&& m = v) := by
  rintro ⟨e1, e2⟩
  apply h
  apply Nat.eq_of_testBit_eq
  intro i
  rw [← e1, ← e2]
  simp only [Nat.testBit_xor, Nat.testBit_and, Nat.zero_testBit]
  cases b.testBit i <;> cases m.testBit i <;> cases xm.testBit i <;> rfl
theorem both_bits {b xv v xm m : Nat} (hx : Sub xv xm) (hv : Sub v m) (ha : ∀ i, xm.testBit i = true → m.testBit i = true → xv.testBit i = v.testBit i) :
    b &&& (xm ||| m) = xv ||| v ↔ b &&& xm = xv ∧ b &&& m = v := by
  constructor
  · intro h
    have hb : ∀ i, (b.testBit i && (xm.testBit i || m.testBit i)) = (xv.testBit i || v.testBit i) := fun i => by
      have := congrArg (fun x => Nat.testBit x i) h
      simpa only [Nat.testBit_and, Nat.testBit_or] using this
    refine ⟨Nat.eq_of_testBit_eq fun i => ?_, Nat.eq_of_testBit_eq fun i => ?_⟩
    all_goals
      have h1 := hb i
      have h2 := hx i
      have h3 := hv i
      have h4 := ha i
      rw [Nat.testBit_and]
      revert h1 h2 h3 h4
      cases b.testBit i <;> cases xm.testBit i <;> cases xv.testBit i <;> cases m.testBit i <;> cases v.testBit i <;> simp
  · rintro ⟨h1, h2⟩
    apply Nat.eq_of_testBit_eq
    intro i
    rw [← h1, ← h2]
    simp only [Nat.testBit_and, Nat.testBit_or]
    cases b.testBit i <;> cases m.testBit i <;> cases xm.testBit i <;> rfl
theorem sub_or {xv v xm m : Nat} (hx : Sub xv xm) (hv : Sub v m) : Sub (xv ||| v) (xm ||| m) := by
  intro i h
  have h1 := hx i
  have h2 := hv i
  simp only [Nat.testBit_or] at h ⊢
  revert h h1 h2
  cases xv.testBit i <;> cases v.testBit i <;> cases xm.testBit i <;> cases m.testBit i <;> simp

/-- A packet passes a test. -/
def okT (l : List UInt8) (t : Ts) : Prop := t.at_.toNat < l.length ∧ (l.getD t.at_.toNat 0).toNat &&& t.mask.toNat = t.value.toNat
theorem may1_parts {t : Ts} (h : may1 t = true) : ∃ p m v : Nat, p < 64 ∧ m < 256 ∧ v < 256 ∧ t = ⟨(p : Int), (m : Int), (v : Int)⟩ := by
  simp only [may1, decide_eq_true_eq] at h
  obtain ⟨p, hp⟩ := Int.eq_ofNat_of_zero_le h.1
  obtain ⟨m, hm⟩ := Int.eq_ofNat_of_zero_le h.2.2.1
  obtain ⟨v, hv⟩ := Int.eq_ofNat_of_zero_le h.2.2.2.2.1
  refine ⟨p, m, v, by omega, by omega, by omega, ?_⟩
  cases t
  simp_all
theorem byte_lt (u : UInt8) : u.toNat < 256 := u.toNat_lt
theorem failsT_ok {l : List UInt8} {t : Ts} (h : may1 t = true) : failsT l t = false ↔ okT l t := by
  obtain ⟨p, m, v, hp, hm, hv, rfl⟩ := may1_parts h
  unfold failsT okT
  simp only [Int.toNat_natCast, b_and (byte_lt _) hm]
  rw [Bool.or_eq_false_iff, decide_eq_false_iff_not, bne_eq_false_iff_eq]
  constructor
  · rintro ⟨h1, h2⟩; exact ⟨by omega, by omega⟩
  · rintro ⟨h1, h2⟩; exact ⟨by omega, by omega⟩

/-- What stands at a byte is what the tests of that byte say together. -/
def GoodW (fs : List Ts) (p : Nat) (x : Wa) : Prop :=
  ∃ m v : Nat, m < 256 ∧ v < 256 ∧ x.mask = (m : Int) ∧ x.value = (v : Int) ∧ Sub v m ∧ (x.is = false → m = 0) ∧ (x.is = true ↔ ∃ t ∈ fs, t.at_ = (p : Int)) ∧
    ∀ b : Nat, b &&& m = v ↔ ∀ t ∈ fs, t.at_ = (p : Int) → b &&& t.mask.toNat = t.value.toNat
def InvW (fs : List Ts) (s : List Wa × Bool) : Prop :=
  s.1.length = 64 ∧ (s.2 = true → ∀ p x, s.1[p]? = some x → GoodW fs p x) ∧ (s.2 = false → ∀ l, ¬ ∀ t ∈ fs, okT l t)

theorem inv_step {fs : List Ts} {s : List Wa × Bool} (h : InvW fs s) {t : Ts} (ht : may1 t = true) : InvW (fs ++ [t]) (stepB s t) := by
  obtain ⟨ws, b⟩ := s
  obtain ⟨h1, h2, h3⟩ := h
  dsimp only at h1 h2 h3
  obtain ⟨p, m, v, hp, hm, hv, rfl⟩ := may1_parts ht
  refine ⟨by rw [stepB_length]; exact h1, ?_, ?_⟩
  · intro hs q x hq
    simp only [stepB, Bool.and_eq_true, Int.toNat_natCast] at hs hq
    obtain ⟨rfl, hbad⟩ := hs
    obtain ⟨y, hy⟩ : ∃ y, ws[p]? = some y := ⟨_, List.getElem?_eq_getElem (by omega)⟩
    rw [getD_of hy] at hbad hq
    by_cases hqp : q = p
    · subst hqp
      rw [List.getElem?_set_self (by omega)] at hq
      injection hq with hq
      subst hq
      obtain ⟨xm, xv, hxm, hxv, e1, e2, hsub, hno, his, hall⟩ := h2 rfl q y hy
      have hb1 : v ^^^ (v &&& m) = 0 ∧ (y.is = true → (xv ^^^ v) &&& xm &&& m = 0) := by
        simp only [badT, e1, e2, b_andNot hv hm, b_xor hxv hv, b_and (xor_small hxv hv) hxm, b_and (and_small (xor_small hxv hv)) hm] at hbad
        rw [Bool.not_eq_true', Bool.or_eq_false_iff, Bool.and_eq_false_iff, bne_eq_false_iff_eq, bne_eq_false_iff_eq] at hbad
        refine ⟨by omega, fun hy => ?_⟩
        rcases hbad.2 with hc | hc
        · rw [hc] at hy; cases hy
        · omega
      have hv2 := sub_of hb1.1
      have hag : ∀ i, xm.testBit i = true → m.testBit i = true → xv.testBit i = v.testBit i := by
        cases hyi : y.is with
        | true => exact agree_of (hb1.2 hyi)
        | false =>
          have := hno hyi
          subst this
          intro i hi
          simp at hi
      refine ⟨xm ||| m, xv ||| v, or_small hxm hm, or_small hxv hv, by simp only [stepW, e1]; exact b_or hxm hm, by simp only [stepW, e2]; exact b_or hxv hv, sub_or hsub hv2, fun h => by simp [stepW] at h, ?_, fun b => ?_⟩
      · simp only [stepW, true_iff]
        exact ⟨⟨(q : Int), (m : Int), (v : Int)⟩, by simp, rfl⟩
      · rw [both_bits hsub hv2 hag, hall b]
        constructor
        · rintro ⟨g1, g2⟩ t ht hat
          rcases List.mem_append.1 ht with ht | ht
          · exact g1 t ht hat
          · rw [List.mem_singleton.1 ht]
            simpa using g2
        · intro g
          refine ⟨fun t ht hat => g t (List.mem_append_left _ ht) hat, ?_⟩
          have := g ⟨(q : Int), (m : Int), (v : Int)⟩ (by simp) rfl
          simpa using this
    · rw [List.getElem?_set_ne (by omega)] at hq
      obtain ⟨xm, xv, hxm, hxv, e1, e2, hsub, hno, his, hall⟩ := h2 rfl q x hq
      refine ⟨xm, xv, hxm, hxv, e1, e2, hsub, hno, ?_, fun b => ?_⟩
      · rw [his]
        constructor
        · rintro ⟨t, ht, e⟩; exact ⟨t, List.mem_append_left _ ht, e⟩
        · rintro ⟨t, ht, e⟩
          rcases List.mem_append.1 ht with ht | ht
          · exact ⟨t, ht, e⟩
          · rw [List.mem_singleton.1 ht] at e
            exact absurd (Int.ofNat.inj e).symm hqp
      · rw [hall b]
        constructor
        · intro g t ht hat
          rcases List.mem_append.1 ht with ht | ht
          · exact g t ht hat
          · rw [List.mem_singleton.1 ht] at hat
            exact absurd (Int.ofNat.inj hat).symm hqp
        · intro g t ht hat
          exact g t (List.mem_append_left _ ht) hat
  · intro hs l hl
    simp only [stepB, Bool.and_eq_false_iff] at hs
    cases hb : b with
    | false => exact h3 hb l (fun t ht => hl t (List.mem_append_left _ ht))
    | true =>
      rcases hs with hs | hs
      · rw [hb] at hs; cases hs
      · simp only [Int.toNat_natCast] at hs
        obtain ⟨y, hy⟩ : ∃ y, ws[p]? = some y := ⟨_, List.getElem?_eq_getElem (by omega)⟩
        rw [getD_of hy] at hs
        obtain ⟨xm, xv, hxm, hxv, e1, e2, hsub, hno, his, hall⟩ := h2 hb p y hy
        simp only [badT, e1, e2, b_andNot hv hm, b_xor hxv hv, b_and (xor_small hxv hv) hxm, b_and (and_small (xor_small hxv hv)) hm] at hs
        rw [Bool.not_eq_false', Bool.or_eq_true, Bool.and_eq_true, bne_iff_ne, bne_iff_ne] at hs
        obtain ⟨g1, g2⟩ := hl ⟨(p : Int), (m : Int), (v : Int)⟩ (by simp)
        simp only [Int.toNat_natCast] at g1 g2
        rcases hs with hs | ⟨_, hs⟩
        · exact not_sub (by omega) g2
        · refine not_agree (b := (l.getD p 0).toNat) (by omega) ⟨(hall _).2 fun t ht hat => ?_, g2⟩
          obtain ⟨_, g3⟩ := hl t (List.mem_append_left _ ht)
          rw [hat, Int.toNat_natCast] at g3
          exact g3

theorem inv_fold {fs gs : List Ts} {s : List Wa × Bool} (h : InvW fs s) (hg : gs.all may1 = true) : InvW (fs ++ gs) (gs.foldl stepB s) := by
  induction gs generalizing fs s with
  | nil => simpa using h
  | cons t gs ih =>
    simp only [List.all_cons, Bool.and_eq_true] at hg
    have := ih (inv_step h hg.1) hg.2
    rw [List.append_assoc] at this
    exact this
theorem inv_bytes {fs : List Ts} (hg : fs.all may1 = true) : InvW fs (bytesF fs) := by
  have h0 : InvW [] (ws0, true) := by
    refine ⟨ws0_length, fun _ p x hx => ?_, fun h => by cases h⟩
    have : x = w0 := List.eq_of_mem_replicate (List.mem_of_getElem? hx)
    subst this
    exact ⟨0, 0, by omega, by omega, rfl, rfl, fun i h => h, fun _ => rfl, by simp [w0], fun b => by simp⟩
  have := inv_fold h0 hg
  rw [List.nil_append] at this
  exact this

/-- The plain filter's tests: may be, in order, of bytes that a test names. -/
theorem plain_facts {fs : List Ts} {ws : List Wa} (h : ∀ p x, ws[p]? = some x → GoodW fs p x) (k : Nat) (hk : k ≤ 64) :
    (plainTo ws k).all may1 = true ∧ ((plainTo ws k).map (·.at_)).Nodup ∧ ∀ t ∈ plainTo ws k, t.at_ < (k : Int) ∧ t.at_ ∈ fs.map (·.at_) := by
  induction k with
  | zero => exact ⟨rfl, List.nodup_nil, fun t h => by cases h⟩
  | succ k ih =>
    obtain ⟨i1, i2, i3⟩ := ih (by omega)
    have hno : (plainTo ws k).all may1 = true ∧ ((plainTo ws k).map (·.at_)).Nodup ∧ ∀ t ∈ plainTo ws k, t.at_ < ((k + 1 : Nat) : Int) ∧ t.at_ ∈ fs.map (·.at_) :=
      ⟨i1, i2, fun t ht => ⟨by have := (i3 t ht).1; omega, (i3 t ht).2⟩⟩
    simp only [plainTo]
    split
    · rename_i x hx
      obtain ⟨m, v, hm, hv, e1, e2, _, _, his, _⟩ := h k x hx
      split
      · rename_i hi
        obtain ⟨t0, ht0, hat0⟩ := his.1 hi
        refine ⟨?_, ?_, ?_⟩
        · rw [List.all_append, Bool.and_eq_true]
          refine ⟨?_, ?_⟩
          · rw [List.all_eq_true] at i1 ⊢
            exact fun t ht => i1 t (List.mem_filter.1 ht).1
          · simp only [List.all_cons, List.all_nil, Bool.and_true, may1, decide_eq_true_eq, e1, e2]
            omega
        · rw [List.map_append, List.nodup_append]
          refine ⟨i2.sublist (List.filter_sublist.map _), by simp, ?_⟩
          intro a ha b hb hab
          obtain ⟨t, ht, rfl⟩ := List.mem_map.1 ha
          have h1 := (i3 t (List.mem_filter.1 ht).1).1
          simp only [List.map_cons, List.map_nil, List.mem_singleton] at hb
          omega
        · intro t ht
          rcases List.mem_append.1 ht with ht | ht
          · have := i3 t (List.mem_filter.1 ht).1
            exact ⟨by omega, this.2⟩
          · rw [List.mem_singleton.1 ht]
            exact ⟨by simp only; omega, List.mem_map.2 ⟨t0, ht0, hat0⟩⟩
      · exact hno
    · exact hno

theorem plain_ok {fs : List Ts} {ws : List Wa} (hl : ws.length = 64) (h : ∀ p x, ws[p]? = some x → GoodW fs p x) (l : List UInt8) (k : Nat) (hk : k ≤ 64) :
    (∀ t ∈ plainTo ws k, okT l t) ↔ ∀ t ∈ fs, t.at_ < (k : Int) → (0 ≤ t.at_) → okT l t := by
  induction k with
  | zero =>
    constructor
    · intro _ t _ h1 h2
      exfalso; simp at h1; omega
    · intro _ t ht; cases ht
  | succ k ih =>
    have ih := ih (by omega)
    obtain ⟨x, hx⟩ : ∃ x, ws[k]? = some x := ⟨_, List.getElem?_eq_getElem (by omega)⟩
    obtain ⟨m, v, hm, hv, e1, e2, hsub, hno, his, hall⟩ := h k x hx
    have hmay := (plain_facts h k (by omega)).1
    have hat := (plain_facts h k (by omega)).2.2
    have hstep : (∀ t ∈ fs, t.at_ < ((k + 1 : Nat) : Int) → 0 ≤ t.at_ → okT l t) ↔ (∀ t ∈ fs, t.at_ < (k : Int) → 0 ≤ t.at_ → okT l t) ∧ (∀ t ∈ fs, t.at_ = (k : Int) → okT l t) := by
      constructor
      · intro g
        exact ⟨fun t ht h1 h2 => g t ht (by omega) h2, fun t ht h1 => g t ht (by omega) (by omega)⟩
      · rintro ⟨g1, g2⟩ t ht h1 h2
        by_cases hc : t.at_ = (k : Int)
        · exact g2 t ht hc
        · exact g1 t ht (by omega) h2
    rw [hstep]
    cases hi : x.is with
    | false =>
      have hnone : ∀ t ∈ fs, t.at_ = (k : Int) → okT l t := fun t ht hat => by
        have := his.2 ⟨t, ht, hat⟩
        rw [hi] at this; cases this
      have e : plainTo ws (k + 1) = plainTo ws k := by simp [plainTo, hx, hi]
      rw [e, ih]
      exact ⟨fun g => ⟨g, hnone⟩, fun g => g.1⟩
    | true =>
      have e : plainTo ws (k + 1) = (plainTo ws k).filter (fun t => !noMask t) ++ [⟨(k : Int), x.mask, x.value⟩] := by simp [plainTo, hx, hi]
      obtain ⟨t0, ht0, hat0⟩ := his.1 hi
      have hnew : okT l ⟨(k : Int), x.mask, x.value⟩ ↔ ∀ t ∈ fs, t.at_ = (k : Int) → okT l t := by
        have h2 := hall (l.getD k 0).toNat
        simp only [okT, e1, e2, Int.toNat_natCast]
        constructor
        · rintro ⟨g1, g2⟩ t ht hat
          rw [hat, Int.toNat_natCast]
          exact ⟨g1, (h2.1 g2) t ht hat⟩
        · intro g
          have g0 := g t0 ht0 hat0
          rw [hat0, Int.toNat_natCast] at g0
          refine ⟨g0.1, h2.2 fun t ht hat => ?_⟩
          have := g t ht hat
          rw [hat, Int.toNat_natCast] at this
          exact this.2
      rw [← hnew, ← ih, e]
      constructor
      · intro g
        have gn := g ⟨(k : Int), x.mask, x.value⟩ (by simp)
        refine ⟨fun t ht => ?_, gn⟩
        by_cases hm0 : noMask t = true
        · have hmt := List.all_eq_true.1 hmay t ht
          obtain ⟨p, m', v', hp', hm', hv', rfl⟩ := may1_parts hmt
          simp only [noMask, beq_iff_eq] at hm0
          have hp2 := (hat _ ht).1
          simp only at hp2
          have g1 := gn.1
          simp only [Int.toNat_natCast] at g1
          have hm0' : m' = 0 := by omega
          subst hm0'
          -- what stands in the plain list is what stands at its byte
          have hv0 : v' = 0 := by
            have hval : ∀ (j : Nat), ∀ t ∈ plainTo ws j, Sub t.value.toNat t.mask.toNat := by
              intro j
              induction j with
              | zero => intro t ht; cases ht
              | succ j ihj =>
                intro t ht
                simp only [plainTo] at ht
                split at ht
                · rename_i y hy
                  split at ht
                  · rcases List.mem_append.1 ht with ht | ht
                    · exact ihj t (List.mem_filter.1 ht).1
                    · obtain ⟨m1, v1, _, _, f1, f2, f3, _⟩ := h j y hy
                      rw [List.mem_singleton.1 ht]
                      simp only [f1, f2, Int.toNat_natCast]
                      exact f3
                  · exact ihj t ht
                · exact ihj t ht
            have hs := hval k _ ht
            simp only [Int.toNat_natCast] at hs
            apply Nat.eq_of_testBit_eq
            intro i
            have := hs i
            cases hvb : v'.testBit i
            · simp
            · have h3 := this hvb
              simp at h3
          subst hv0
          exact ⟨by simp only [Int.toNat_natCast]; omega, by simp⟩
        · exact g t (List.mem_append_left _ (List.mem_filter.2 ⟨ht, by simp [hm0]⟩))
      · rintro ⟨g1, g2⟩ t ht
        rcases List.mem_append.1 ht with ht | ht
        · exact g1 t (List.mem_filter.1 ht).1
        · rw [List.mem_singleton.1 ht]; exact g2

theorem any_ok {fs : List Ts} (hm : fs.all may1 = true) (l : List UInt8) : fs.any (failsT l) = false ↔ ∀ t ∈ fs, okT l t := by
  rw [List.any_eq_false]
  constructor
  · intro h t ht
    exact (failsT_ok (List.all_eq_true.1 hm t ht)).1 (by simpa using h t ht)
  · intro h t ht
    simpa using (failsT_ok (List.all_eq_true.1 hm t ht)).2 (h t ht)

/-- Where the tests may stand together: the plain filter. -/
theorem law_plain {fs : List Ts} (hm : fs.all may1 = true) (hb : (bytesF fs).2 = true) :
    (plainTo (bytesF fs).1 64).all may1 = true ∧ (plainTo (bytesF fs).1 64).length ≤ fs.length ∧ ∀ l, (plainTo (bytesF fs).1 64).any (failsT l) = fs.any (failsT l) := by
  obtain ⟨h1, h2, _⟩ := inv_bytes hm
  have h2 := h2 hb
  obtain ⟨p1, p2, p3⟩ := plain_facts h2 64 (Nat.le_refl _)
  refine ⟨p1, ?_, fun l => ?_⟩
  · have := p2.length_le_of_subset (l₂ := fs.map (·.at_)) (fun a ha => by
      obtain ⟨t, ht, rfl⟩ := List.mem_map.1 ha
      exact (p3 t ht).2)
    simpa using this
  · have e : (∀ t ∈ plainTo (bytesF fs).1 64, okT l t) ↔ ∀ t ∈ fs, okT l t := by
      rw [plain_ok h1 h2 l 64 (Nat.le_refl _)]
      constructor
      · intro g t ht
        have := List.all_eq_true.1 hm t ht
        simp only [may1, decide_eq_true_eq] at this
        exact g t ht (by omega) (by omega)
      · intro g t ht _ _; exact g t ht
    rw [← any_ok p1, ← any_ok hm] at e
    cases h3 : (plainTo (bytesF fs).1 64).any (failsT l) <;> cases h4 : fs.any (failsT l) <;> simp_all
/-- Where they may not: no packet passes. -/
theorem law_never {fs : List Ts} (hm : fs.all may1 = true) (hb : (bytesF fs).2 = false) (l : List UInt8) : fs.any (failsT l) = true := by
  obtain ⟨_, _, h3⟩ := inv_bytes hm
  have h := h3 hb l
  rw [← any_ok hm] at h
  simpa using h

theorem law_never_match {f : List Ts} (hb : (bytesF f).2 = false) (l : List UInt8) : matchF f l = false := by
  by_cases hm : mayF f = true
  · have hm2 : f.all may1 = true := by
      simp only [mayF, Bool.and_eq_true] at hm
      exact hm.2
    simp [matchF, law_never hm2 hb]
  · simp [matchF, hm]
/-- What Both answers at filters that may be. -/
theorem law_both {f g : List Ts} (hf : mayF f = true) (hg : mayF g = true) (l : List UInt8) :
    ((bothF f g).1 = 0 ∧ mayF (bothF f g).2 = true ∧ (bytesF (f ++ g)).2 = true ∧ matchF (bothF f g).2 l = (matchF f l && matchF g l)) ∨
    ((bothF f g).1 = 210 ∧ (bytesF (f ++ g)).2 = false ∧ (bothF f g).2 = [] ∧ (matchF f l && matchF g l) = false) ∨
    ((bothF f g).1 = 3 ∧ (bytesF (f ++ g)).2 = true ∧ 8 < (f ++ g).length ∧ (bothF f g).2 = []) := by
  have hall : (f ++ g).all may1 = true := by
    simp only [mayF, Bool.and_eq_true] at hf hg
    rw [List.all_append, hf.2, hg.2]; rfl
  cases hb : (bytesF (f ++ g)).2 with
  | false =>
    right; left
    refine ⟨by simp [bothF, hb], rfl, by simp [bothF, hb], ?_⟩
    have h := law_never hall hb l
    rw [List.any_append] at h
    simp only [matchF]
    cases h1 : f.any (failsT l)
    · rw [h1, Bool.false_or] at h
      simp [h]
    · simp
  | true =>
    obtain ⟨p1, p2, p3⟩ := law_plain hall hb
    by_cases h8 : 8 < (plainTo (bytesF (f ++ g)).1 64).length
    · right; right
      exact ⟨by simp [bothF, hb, h8], rfl, by omega, by simp [bothF, hb, h8]⟩
    · left
      have e : bothF f g = (0, plainTo (bytesF (f ++ g)).1 64) := by simp [bothF, hb, h8]
      rw [e]
      have hmay : mayF (plainTo (bytesF (f ++ g)).1 64) = true := by
        simp only [mayF, Bool.and_eq_true, decide_eq_true_eq]
        exact ⟨by omega, p1⟩
      refine ⟨rfl, hmay, rfl, ?_⟩
      simp only [matchF, hmay, hf, hg, p3 l, List.any_append, Bool.true_and]
      cases decide (l.length ≤ 64) <;> cases f.any (failsT l) <;> cases g.any (failsT l) <;> rfl
/-- What Plain answers at a filter that may be. -/
theorem law_one {f : List Ts} (hf : mayF f = true) :
    ((bytesF f).2 = true ∧ (bothF f []).1 = 0 ∧ mayF (bothF f []).2 = true ∧ ∀ l, matchF (bothF f []).2 l = matchF f l) ∨
    ((bytesF f).2 = false ∧ (bothF f []).1 = 210 ∧ ∀ l, matchF f l = false) := by
  have hl : f.length ≤ 8 := by simp [mayF] at hf; exact hf.1
  have e0 : f ++ [] = f := List.append_nil f
  rcases law_both (g := []) hf rfl [] with h | h | h
  · left
    obtain ⟨h1, h2, h3, _⟩ := h
    rw [e0] at h3
    refine ⟨h3, h1, h2, fun l => ?_⟩
    rcases law_both (g := []) hf rfl l with h | h | h
    · rw [h.2.2.2]
      cases hq : matchF f l with
      | false => rfl
      | true =>
        simp only [matchF, Bool.and_eq_true] at hq
        simp [matchF, mayF]
        simpa using hq.1.2
    · rw [h1] at h; omega
    · rw [h1] at h; omega
  · right
    obtain ⟨h1, h2, _⟩ := h
    rw [e0] at h2
    exact ⟨h2, h1, law_never_match h2⟩
  · rw [e0] at h
    omega
end Go.Proofs.Ythgfmkdgemepnaa
