/- slices.IndexFunc, slices.ContainsFunc over tests, whatever closure is asked. -/
import Derived.Test.YthgfmkdgemepnaaProg
import Derived.Test.YthgfmkdgemepnaaSpec
import Derived.WalkSpells
namespace Go.Proofs.Ythgfmkdgemepnaa
open Go.RowKit

/-- A test as a value. -/
def tval (t : Ts) : Value := .agg #[.int .i64 t.at_, .int .i64 t.mask, .int .i64 t.value]
/-- The first place at which p holds, or -1. -/
def idxP (p : Ts → Bool) (f : List Ts) : Int := match f.findIdx? p with | some i => (i : Int) | none => -1

theorem idxP_at {p : Ts → Bool} {f : List Ts} {k : Nat} {t : Ts} (ht : f[k]? = some t) (hp : p t = true) (ha : (f.take k).all (fun t => !p t) = true) : idxP p f = k := by
  obtain ⟨hk, e⟩ := List.getElem?_eq_some_iff.1 ht
  have : f.findIdx? p = some k := by
    rw [List.findIdx?_eq_some_iff_getElem]
    refine ⟨hk, by rw [e]; exact hp, fun j hj => ?_⟩
    rw [List.all_eq_true] at ha
    have hm : f[j]'(by omega) ∈ f.take k := List.mem_take_iff_getElem.2 ⟨j, by omega, rfl⟩
    have := ha _ hm
    simpa using this
  simp [idxP, this]
theorem idxP_none {p : Ts → Bool} {f : List Ts} (ha : f.all (fun t => !p t) = true) : idxP p f = -1 := by
  have : f.findIdx? p = none := by
    rw [List.findIdx?_eq_none_iff]
    intro x hx
    have := List.all_eq_true.1 ha x hx
    simpa using this
  simp [idxP, this]
theorem allNot_succ {p : Ts → Bool} {f : List Ts} {k : Nat} {t : Ts} (ht : f[k]? = some t) (h : p t = false) (ha : (f.take k).all (fun t => !p t) = true) : (f.take (k + 1)).all (fun t => !p t) = true := by
  rw [List.take_add_one, ht, List.all_append, ha]
  simp [h]

set_option maxRecDepth 100000 in
set_option maxHeartbeats 400000 in
theorem indexFunc44 (g : Nat) (lb : Array Value) (p : Ts → Bool) (A : Option Addr) (c : Nat) (f : List Ts) (w : World)
    (eg : ∀ args w, (callFunc g args).run Try.prog w = .ok (.enter g args) w)
    (hg : ∀ W t, Below w.heap.size w W → t ∈ f → Calls Try.prog g (#[tval t] ++ lb) W fun e W' => e = .returned (.bool (p t)) ∧ Below W.heap.size W W')
    (hr : Sl w 3 A f.length (tsCells f)) (hn : f.length ≤ 4096) :
    Calls Try.prog 44 #[.slice A f.length c, .func (.func g) #[] lb] w fun e w' => e = .returned (.int .i64 (idxP p f)) ∧ Below w.heap.size w w' := by
  have HG := hid hg
  clear hg
  go_enter Try.func44, Try.ntmps44
  go_wp2
  go_loopw [8] (fun i wr => ∃ k : Nat, k ≤ f.length ∧ i = .int .i64 k ∧ (f.take k).all (fun t => !p t) = true ∧ Below w.heap.size w wr) (fun i _ => f.length - (intOf i).toNat)
  case atStart => exact ⟨0, Nat.zero_le _, rfl, rfl, Below.refl _ _⟩
  case round =>
    obtain ⟨k, hk, rfl, hall, hb⟩ := hrel
    have HA := hid hall
    clear hall
    by_cases hlt : k < f.length
    · obtain ⟨t, ht⟩ : ∃ t, f[k]? = some t := ⟨_, List.getElem?_eq_getElem hlt⟩
      obtain ⟨b, o, rfl, hbl, c0, c1, c2⟩ := (hr.below hb (Nat.le_refl _)).test ht
      have HT := hid ht
      have hc := HG.out wr t hb (List.mem_of_getElem? ht)
      clear ht
      have HC := hid hc
      clear hc
      go_wp2_with fail
      refine HC.out.mono ?_
      rintro e w1 ⟨rfl, hb1⟩
      have hb2 := hb.trans (hb1.mono hb.size)
      cases hp : p t with
      | true =>
        have HP := hid hp
        clear hp
        go_wp2_with fail
        go_ret
        exact ⟨ret_int (idxP_at HT.out HP.out HA.out).symm, hb2⟩
      | false =>
        have HP := hid hp
        clear hp
        go_wp2_with fail
        exact ⟨⟨k + 1, by omega, by go_num, allNot_succ HT.out HP.out HA.out, hb2⟩, by simp [intOf]; omega⟩
    · have hke : k = f.length := by omega
      subst hke
      go_wp2_with fail
      go_ret
      exact ⟨ret_int (idxP_none (by simpa using HA.out)).symm, hb⟩

theorem idxP_ge {p : Ts → Bool} {f : List Ts} : decide (0 ≤ idxP p f) = f.any p := by
  unfold idxP
  cases h : f.findIdx? p with
  | none =>
    rw [List.findIdx?_eq_none_iff] at h
    have : f.any p = false := by rw [List.any_eq_false]; intro x hx; simp [h x hx]
    simp [this]
  | some i =>
    rw [List.findIdx?_eq_some_iff_getElem] at h
    obtain ⟨hi, h1, _⟩ := h
    have : f.any p = true := by rw [List.any_eq_true]; exact ⟨f[i], List.getElem_mem hi, h1⟩
    simp [this]

set_option maxRecDepth 100000 in
set_option maxHeartbeats 400000 in
theorem containsFunc30 (g : Nat) (lb : Array Value) (p : Ts → Bool) (A : Option Addr) (c : Nat) (f : List Ts) (w : World)
    (eg : ∀ args w, (callFunc g args).run Try.prog w = .ok (.enter g args) w)
    (hg : ∀ W t, Below w.heap.size w W → t ∈ f → Calls Try.prog g (#[tval t] ++ lb) W fun e W' => e = .returned (.bool (p t)) ∧ Below W.heap.size W W')
    (hr : Sl w 3 A f.length (tsCells f)) (hn : f.length ≤ 4096) :
    Calls Try.prog 30 #[.slice A f.length c, .func (.func g) #[] lb] w fun e w' => e = .returned (.bool (f.any p)) ∧ Below w.heap.size w w' := by
  have HC := hid (indexFunc44 g lb p A c f w eg hg hr hn)
  clear hg eg
  rw [← idxP_ge]
  generalize idxP p f = r at HC ⊢
  go_enter Try.func30, Try.ntmps30
  go_wp2_with fail
  refine HC.out.mono ?_
  rintro e w1 ⟨rfl, hb1⟩
  go_wp2_with fail
  go_ret
  exact ⟨rfl, hb1⟩
end Go.Proofs.Ythgfmkdgemepnaa
