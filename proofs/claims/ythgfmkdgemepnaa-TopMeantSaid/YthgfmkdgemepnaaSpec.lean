/- The plain words of filters: tests, what a filter may be. -/
import Derived.WalkKit
import Derived.Test.YthgfmkdgemepnaaMem
namespace Go.Proofs.Ythgfmkdgemepnaa

/-- A test of a byte. -/
structure Ts where
  at_ : Int
  mask : Int
  value : Int

/-- A test's three cells. -/
def tcells (t : Ts) : List Value := [.int .i64 t.at_, .int .i64 t.mask, .int .i64 t.value]
/-- The cells of a list of tests. -/
def tsCells (f : List Ts) : List Value := f.flatMap tcells

theorem tsCells_nil : tsCells [] = [] := rfl
theorem tsCells_cons (t : Ts) (f : List Ts) : tsCells (t :: f) = tcells t ++ tsCells f := rfl
theorem tsCells_append (f g : List Ts) : tsCells (f ++ g) = tsCells f ++ tsCells g := by simp [tsCells]
theorem tsCells_length (f : List Ts) : (tsCells f).length = f.length * 3 := by
  induction f with
  | nil => rfl
  | cons t f ih => rw [tsCells_cons, List.length_append, ih, List.length_cons]; simp [tcells]; omega
theorem tsCells_one (f : List Ts) : ∀ u ∈ tsCells f, u.oneCell' = true := by
  intro u hu
  obtain ⟨t, _, ht⟩ := List.mem_flatMap.1 hu
  simp only [tcells, List.mem_cons, List.not_mem_nil, or_false] at ht
  rcases ht with rfl | rfl | rfl <;> rfl
/-- The cells of test k. -/
theorem tsCells_at (f : List Ts) (k : Nat) (t : Ts) (h : f[k]? = some t) :
    (tsCells f)[k * 3]? = some (.int .i64 t.at_) ∧ (tsCells f)[k * 3 + 1]? = some (.int .i64 t.mask) ∧ (tsCells f)[k * 3 + 2]? = some (.int .i64 t.value) := by
  induction f generalizing k with
  | nil => simp at h
  | cons a f ih =>
    cases k with
    | zero => simp at h; subst h; exact ⟨rfl, rfl, rfl⟩
    | succ k =>
      simp only [List.getElem?_cons_succ] at h
      obtain ⟨h1, h2, h3⟩ := ih k h
      have e : (k + 1) * 3 = k * 3 + 3 := by omega
      rw [e, tsCells_cons]
      refine ⟨?_, ?_, ?_⟩
      · rw [List.getElem?_append_right (by simp [tcells])]; simpa [tcells] using h1
      · rw [List.getElem?_append_right (by simp [tcells])]
        have : k * 3 + 3 + 1 - (tcells a).length = k * 3 + 1 := by simp [tcells]
        rw [this]; exact h2
      · rw [List.getElem?_append_right (by simp [tcells])]
        have : k * 3 + 3 + 2 - (tcells a).length = k * 3 + 2 := by simp [tcells]
        rw [this]; exact h3

/-- Test k of a slice of tests, by its three cells. -/
theorem Sl.test {w : World} {A : Option Addr} {f : List Ts} {k : Nat} {t : Ts} (h : Sl w 3 A f.length (tsCells f)) (ht : f[k]? = some t) :
    ∃ b o, A = some ⟨b, o, none⟩ ∧ b < w.heap.size ∧ w.cell? ⟨b, o + k * 3, none⟩ = some (.int .i64 t.at_) ∧ w.cell? ⟨b, o + k * 3 + 1, none⟩ = some (.int .i64 t.mask) ∧ w.cell? ⟨b, o + k * 3 + 2, none⟩ = some (.int .i64 t.value) := by
  have hk := (List.getElem?_eq_some_iff.1 ht).1
  obtain ⟨b, o, e, hb, hc⟩ := h.at_ (by omega)
  obtain ⟨h0, h1, h2⟩ := tsCells_at f k t ht
  exact ⟨b, o, e, hb, hc _ _ h0, hc _ _ h1, hc _ _ h2⟩

/-- May a test be? -/
def may1 (t : Ts) : Bool := decide (0 ≤ t.at_ ∧ t.at_ < 64 ∧ 0 ≤ t.mask ∧ t.mask < 256 ∧ 0 ≤ t.value ∧ t.value < 256)
/-- May a filter be? -/
def mayF (f : List Ts) : Bool := decide (f.length ≤ 8) && f.all may1
/-- What Check answers. -/
def chkE (f : List Ts) : Int := if mayF f then 0 else 2
theorem ret_int {k : IntKind} {a b : Int} (h : a = b) : Ending.returned (.int k a) = .returned (.int k b) := by rw [h]
theorem chkE_ok {f : List Ts} (h : mayF f = true) : chkE f = 0 := by simp [chkE, h]
theorem chkE_no {f : List Ts} (h : mayF f = false) : chkE f = 2 := by simp [chkE, h]
theorem mayF_no {f : List Ts} {k : Nat} {t : Ts} (ht : f[k]? = some t) (h : may1 t = false) : mayF f = false := by
  have hm : t ∈ f := List.mem_of_getElem? ht
  simp only [mayF, Bool.and_eq_false_iff]
  right
  rw [List.all_eq_false]
  exact ⟨t, hm, by simp [h]⟩
theorem all_take_succ {f : List Ts} {k : Nat} {t : Ts} (ht : f[k]? = some t) (h : may1 t = true) (ha : (f.take k).all may1 = true) : (f.take (k + 1)).all may1 = true := by
  rw [List.take_add_one, ht, List.all_append, ha]
  simp [h]
theorem may1_no {t : Ts} (h : t.at_ < 0 ∨ 64 ≤ t.at_ ∨ ¬ t.mask / 256 = 0 ∨ ¬ t.value / 256 = 0) : may1 t = false := by
  simp only [may1, decide_eq_false_iff_not]
  omega
theorem may1_yes {t : Ts} (h0 : 0 ≤ t.at_) (h1 : t.at_ < 64) (h2 : t.mask / 256 = 0) (h3 : t.value / 256 = 0) : may1 t = true := by
  simp only [may1, decide_eq_true_eq]
  omega
end Go.Proofs.Ythgfmkdgemepnaa
