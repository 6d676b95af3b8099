/- The ports in memory: the map, the ports' structs, their rings. -/
import Derived.Test.YthgfmkdgemepnaaClone
import Derived.Test.YthgfmkdgemepnaaMatch
import Derived.Test.YthgfmkdgemepnaaDel
import Derived.RangeFuncRecord
namespace Go.Proofs.Ythgfmkdgemepnaa
open Go.RowKit

/-- A port's place as a key. -/
def keyV (a n : Int) : Value := .agg #[.int .i64 a, .int .i64 n]
/-- The map's entries, from number i on. -/
def ents (a : Int) : List Nat → Nat → List MapEntry
  | [], _ => []
  | x :: xs, i => ⟨keyV a i, .pointer (some ⟨x, 0, none⟩), i⟩ :: ents a xs (i + 1)
theorem ents_length (a : Int) (xs : List Nat) (i : Nat) : (ents a xs i).length = xs.length := by
  induction xs generalizing i with
  | nil => rfl
  | cons x xs ih => simp [ents, ih]
theorem ents_append (a : Int) (xs ys : List Nat) (i : Nat) : ents a (xs ++ ys) i = ents a xs i ++ ents a ys (i + xs.length) := by
  induction xs generalizing i with
  | nil => rfl
  | cons x xs ih =>
    simp only [List.cons_append, ents, ih, List.length_cons]
    rw [show i + 1 + xs.length = i + (xs.length + 1) by omega]
/-- The pointer that stands in the map at a place. -/
def ptrAt (a : Int) (xs : List Nat) (b n : Int) : Option Addr := if b = a ∧ 0 ≤ n then (xs[n.toNat]?).map (fun x => ⟨x, 0, none⟩) else none

theorem stood70 : Try.prog.stoodInHeld 70 = false := by kernel_rfl
theorem run_equal70 (a b c d : Int) (w : World) : (Op.equal 70 (keyV a b) (keyV c d)).run Try.prog w = .ok (a == c && b == d) w := by
  unfold Op.equal Op.maxDepth keyV
  rw [show (10000 : Nat) = 9999 + 1 from rfl, run_equalIn_agg (P := Try.prog) w 9999 70 _ _ (by rw [Try.underlying70]; kernel_rfl) stood70]
  simp [Program.fieldsOf, Try.underlying70, Op.eqFields, go_sem]
  by_cases h1 : a = c <;> by_cases h2 : b = d <;> simp [h1, h2]

theorem run_find70 (a b n : Int) (w : World) : ∀ (xs : List Nat) (i j : Nat),
    (Instr.findAsking 70 (keyV b n) (ents a xs i) j).run Try.prog w =
      .ok (if b = a ∧ (i : Int) ≤ n then (xs[(n - i).toNat]?).map (fun x => (j + (n - i).toNat, Value.pointer (some ⟨x, 0, none⟩))) else none) w := by
  intro xs
  induction xs with
  | nil => intro i j; simp [ents, Instr.findAsking]
  | cons x xs ih =>
    intro i j
    simp only [ents, Instr.findAsking, Sem.run_bind, run_equal70, Result.andThen_ok]
    by_cases hb : b = a
    · by_cases hn : n = (i : Int)
      · subst hb; subst hn
        simp
      · have e : (b == a && n == (i : Int)) = false := by simp [hn]
        rw [e]
        simp only [Bool.false_eq_true, if_false]
        rw [ih]
        by_cases hle : (i : Int) ≤ n
        · have h1 : ((i + 1 : Nat) : Int) ≤ n := by omega
          rw [if_pos ⟨hb, h1⟩, if_pos ⟨hb, hle⟩]
          have e1 : (n - (i : Int)).toNat = (n - ((i + 1 : Nat) : Int)).toNat + 1 := by omega
          rw [e1, List.getElem?_cons_succ]
          have e2 : ∀ q : Nat, j + 1 + q = j + (q + 1) := fun q => by omega
          simp only [e2]
        · have h1 : ¬ ((i + 1 : Nat) : Int) ≤ n := by omega
          rw [if_neg (fun h => h1 h.2), if_neg (fun h => hle h.2)]
    · have e : (b == a && n == (i : Int)) = false := by simp [hb]
      rw [e]
      simp only [Bool.false_eq_true, if_false]
      rw [ih, if_neg (fun h => hb h.1), if_neg (fun h => hb h.1)]

theorem run_findKey70 (a b n : Int) (w : World) (xs : List Nat) :
    (Instr.findKey 70 (keyV b n) (ents a xs 0)).run Try.prog w = .ok (if b = a ∧ 0 ≤ n then (xs[n.toNat]?).map (fun x => (n.toNat, Value.pointer (some ⟨x, 0, none⟩))) else none) w := by
  unfold Instr.findKey
  rw [Sem.run_bind, run_underlying Try.underlying70, Result.andThen_ok]
  cases xs with
  | nil => simp [ents, Instr.findNow]
  | cons x xs =>
    have e : ∀ fs, Instr.findNow (TypeDesc.struct fs) (keyV b n) (ents a (x :: xs) 0) 0 = none := fun fs => by
      simp [ents, Instr.findNow, Instr.sameNow]
    rw [e]
    simp only []
    rw [run_find70]
    simp

theorem run_checkKey3 (em : Bool) (d : Nat) (b : Int) (w : World) : (Instr.checkKey em (d + 1) 3 (.int .i64 b)).run Try.prog w = .ok () w := by
  simp [Instr.checkKey, run_underlying Try.underlying3]
theorem run_checkKey70 (em : Bool) (d : Nat) (b n : Int) (w : World) : (Instr.checkKey em (d + 1 + 1) 70 (keyV b n)).run Try.prog w = .ok () w := by
  have p0 : ∀ w, (part 3 #[.int .i64 b, .int .i64 n] 0).run Try.prog w = .ok (.int .i64 b) w := fun w => by simp [part, isAgg, run_underlying Try.underlying3]
  have p1 : ∀ w, (part 3 #[.int .i64 b, .int .i64 n] 1).run Try.prog w = .ok (.int .i64 n) w := fun w => by simp [part, isAgg, run_underlying Try.underlying3]
  unfold keyV Instr.checkKey
  simp [run_underlying Try.underlying70, run_checkKey3, p0, p1]

theorem getObj_run_map {P : Program} {M : Nat} {es : Array MapEntry} {clock : Nat} {w : World} (hM : w.heap[M]? = some (.map es clock)) : (getObj M).run P w = .ok (.map es clock) w := by
  simp [getObj, Sem.run, hM]
theorem run_lookup56 (a b n : Int) (M : Nat) (xs : List Nat) (clock : Nat) (w : World) (hM : w.heap[M]? = some (.map (ents a xs 0).toArray clock)) :
    (Instr.lookup 56 (.map (some M)) (keyV b n) false).run Try.prog w = .ok (.pointer (ptrAt a xs b n)) w := by
  have hz : ∀ w, (zeroValue 71).run Try.prog w = .ok (.pointer none) w := fun w => by kernel_rfl
  unfold Instr.lookup
  rw [Sem.run_bind, run_underlying Try.underlying56]
  simp only [Result.andThen_ok, Sem.run_bind, Sem.run_pure, List.toList_toArray, getObj_run_map hM, run_checkKey70 _ 9998, run_findKey70]
  unfold ptrAt
  by_cases h : b = a ∧ 0 ≤ n
  · rw [if_pos h, if_pos h]
    cases hx : xs[n.toNat]? with
    | none => simp [hz]
    | some x => simp
  · rw [if_neg h, if_neg h]
    simp [hz]

theorem run_mapUpdate56 (a : Int) (M X : Nat) (xs : List Nat) (w : World) (hM : w.heap[M]? = some (.map (ents a xs 0).toArray xs.length)) :
    (Instr.mapUpdate 56 (.map (some M)) (keyV a (xs.length : Int)) (.pointer (some ⟨X, 0, none⟩))).run Try.prog w =
      .ok () (w.putObj M (.map (ents a (xs ++ [X]) 0).toArray (xs.length + 1))) := by
  unfold Instr.mapUpdate
  rw [Sem.run_bind, run_underlying Try.underlying56]
  simp only [Result.andThen_ok, Sem.run_bind, Sem.run_pure, List.toList_toArray, getObj_run_map hM, run_checkKey70 _ 9998, run_findKey70]
  rw [if_pos ⟨trivial, by omega⟩, Int.toNat_natCast, List.getElem?_eq_none (Nat.le_refl _)]
  simp [setObj, Sem.run, hM, ents_append, ents, World.putObj]
end Go.Proofs.Ythgfmkdgemepnaa
