/- steadingtop.TopMeant: small facts for its walk. -/
import Derived.Test.YthgfmkdgemepnaaMeantOut
namespace Go.Proofs.Ythgfmkdgemepnaa
open Go.RowKit

theorem i64_and1023 (n : Int) : bits .and .i64 n 1023 = n % 1024 := by
  have h : (BitVec.ofInt 64 1023).toNat = 2 ^ 10 - 1 := by decide
  have key : (BitVec.ofInt 64 n &&& BitVec.ofInt 64 1023).toNat = (n % ((2 ^ 64 : Nat) : Int)).toNat % 2 ^ 10 := by
    rw [BitVec.toNat_and, BitVec.toNat_ofInt, h, Nat.and_two_pow_sub_one_eq_mod]
  show IntKind.i64.wrap ((BitVec.ofInt 64 n &&& BitVec.ofInt 64 1023).toNat : Nat) = n % 1024
  rw [key, IntKind.wrap_i64]
  omega

/-- The quotas: four ports for account n. -/
def quotasFor (n : Nat) : List Int := (List.replicate 8 (0 : Int)).set n 4
theorem quotasFor_length (n : Nat) : (quotasFor n).length = 8 := by simp [quotasFor]
theorem quotasFor_ok (n : Nat) (hn : n < 8) : quotasOk (quotasFor n) := by
  have h : ∀ n < 8, ∀ k < 8, 0 ≤ (quotasFor n).getD k 0 ∧ ((quotasFor n).take k).sum + (quotasFor n).getD k 0 ≤ 16 ∧ 0 ≤ ((quotasFor n).take k).sum := by decide
  refine ⟨by rw [quotasFor_length]; omega, by rw [quotasFor_length]; omega, fun k q hq => ?_⟩
  have hk : k < 8 := by
    have := (List.getElem?_eq_some_iff.1 hq).1
    rw [quotasFor_length] at this
    exact this
  have := h n hn k hk
  rw [List.getD, hq] at this
  exact this
theorem quotasFor_at (n : Nat) (hn : n < 8) : (quotasFor n)[n]? = some 4 := by
  unfold quotasFor
  rw [List.getElem?_set_self (by simpa using hn)]

/-- The array of the quotas as it is laid. -/
theorem quotas_sl (w : World) (n : Nat) (hn : n < 8) (W : World) (h : W.heap[w.heap.size]? = some (.cells ((#[.int .i64 0, .int .i64 0, .int .i64 0, .int .i64 0, .int .i64 0, .int .i64 0, .int .i64 0, .int .i64 0] : Array Value).setIfInBounds n (.int .i64 4)) 3 (0, 0))) :
    Sl W 1 (some ⟨w.heap.size, 0, none⟩) 8 (icells (quotasFor n)) := by
  refine ⟨by simp [icells, quotasFor_length], fun _ => ⟨w.heap.size, 0, rfl, (Array.getElem?_eq_some_iff.1 h).1, fun j u hu => ?_⟩⟩
  rw [Nat.zero_add, cell_of_row _ _ _ _ 3 (0, 0) h]
  have e : ∀ n < 8, ((#[.int .i64 0, .int .i64 0, .int .i64 0, .int .i64 0, .int .i64 0, .int .i64 0, .int .i64 0, .int .i64 0] : Array Value).setIfInBounds n (.int .i64 4)).toList = icells (quotasFor n) := by
    intro n hn
    match n, hn with
    | 0, _ => rfl
    | 1, _ => rfl
    | 2, _ => rfl
    | 3, _ => rfl
    | 4, _ => rfl
    | 5, _ => rfl
    | 6, _ => rfl
    | 7, _ => rfl
  rw [← e n hn] at hu
  rw [← Array.getElem?_toList]
  exact hu

/-- What Both answers: a filter that may be, and what it passes. -/
def BothIs (f g : List Ts) (iv : Int) (yl : List Ts) : Prop := mayF yl = true ∧ ((iv = 0 ∧ ∀ l, matchF yl l = (matchF f l && matchF g l)) ∨ (iv = 210 ∧ ∀ l, (matchF f l && matchF g l) = false) ∨ iv = 3)
theorem both_is {f g : List Ts} (hf : mayF f = true) (hg : mayF g = true) : BothIs f g (bothF f g).1 (bothF f g).2 := by
  rcases law_both hf hg [] with ⟨h1, h2, _⟩ | ⟨h1, _, h3, _⟩ | ⟨h1, _, _, h3⟩
  · refine ⟨h2, .inl ⟨h1, fun l => ?_⟩⟩
    rcases law_both hf hg l with h | h | h
    · exact h.2.2.2
    · rw [h1] at h; omega
    · rw [h1] at h; omega
  · refine ⟨by rw [h3]; rfl, .inr (.inl ⟨h1, fun l => ?_⟩)⟩
    rcases law_both hf hg l with h | h | h
    · rw [h1] at h; omega
    · exact h.2.2.2
    · rw [h1] at h; omega
  · exact ⟨by rw [h3]; rfl, .inr (.inr h1)⟩

/-- A filter in memory. -/
structure Filt where
  A : Option Addr
  c : Nat
  l : List Ts
def Filt.val (t : Filt) : Value := .slice t.A t.l.length t.c
theorem Sl.grownM {w w' : World} {size n M : Nat} {A : Option Addr} {xs : List Value} {es : Array MapEntry} {cl : Nat} (h : Sl w size A n xs) (hs : 0 < size) (hm : w.heap[M]? = some (.map es cl)) (hg : w.grownBy w' (some M)) : Sl w' size A n xs :=
  ⟨h.len, fun hn => by
    obtain ⟨b, o, e, hb, hc⟩ := h.at_ hn
    have hl : 0 < xs.length := by rw [h.len]; exact Nat.mul_pos hn hs
    have hbM : b ≠ M := by
      rintro rfl
      have := hc 0 xs[0] (List.getElem?_eq_getElem hl)
      simp [World.cell?, hm] at this
    refine ⟨b, o, e, by have := hg.size; omega, fun j u hu => ?_⟩
    rw [← hc j u hu]
    exact World.cell?_of_block (hg.block b hb (by intro e; injection e with e; exact hbM e))⟩

/-- Between two claims. -/
structure ClInv (w : World) (base PB M : Nat) (qv : Value) (n : Nat) (ft : List Filt) (D : Nat) (k : Nat) (W : World) : Prop where
  pa : ∃ xs, PortsAt W base PB M qv (n : Int) (quotasFor n) xs (portsOf n ((ft.map (·.l)).take k) [])
  blk : Bk W D 22 (ft.map Filt.val).toArray
  fs : ∀ t ∈ ft, Sl W 3 t.A t.l.length (tsCells t.l)
  bel : Below w.heap.size w W
  lo : base ≤ W.heap.size

theorem ClInv.step {w W W' : World} {base PB M : Nat} {qv : Value} {n : Nat} {ft : List Filt} {D k : Nat} {t : Filt} (h : ClInv w base PB M qv n ft D k W) (ht : ft[k]? = some t) (hbase : w.heap.size ≤ base) {xs : List Nat} {e : Ending}
    (hp : PortsAt W base PB M qv (n : Int) (quotasFor n) xs (portsOf n ((ft.map (·.l)).take k) [])) (hc : ClaimPost base PB M qv (n : Int) (quotasFor n) xs (portsOf n ((ft.map (·.l)).take k) []) t.l W e W') : ClInv w base PB M qv n ft D (k + 1) W' := by
  obtain ⟨_, X, hX, hp2, hg⟩ := hc
  have hM := hp.mp
  have hMb : base ≤ M := hp.lo.2.1
  refine ⟨⟨xs ++ [X], ?_⟩, ?_, fun t ht => (h.fs t ht).grownM (by omega) hM hg, ?_, Nat.le_trans h.lo hg.size⟩
  · have e1 : (ft.map (·.l)).take (k + 1) = (ft.map (·.l)).take k ++ [t.l] := by
      rw [List.take_add_one, List.getElem?_map, ht]; rfl
    rw [e1]
    unfold portsOf at hp2 ⊢
    rw [List.map_append]
    exact hp2
  · refine (hg.block D h.blk.lt (fun e => ?_)).trans h.blk
    injection e with e
    have := h.blk
    unfold Bk at this
    rw [e, hM] at this
    cases this
  · exact h.bel.trans (grown_below hg h.bel.size (by omega))
end Go.Proofs.Ythgfmkdgemepnaa
