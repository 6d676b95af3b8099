/- What the ports hold behind packets, in plain words; Come at any packet that is not too long. -/
import Derived.Test.YthgfmkdgemepnaaLaw
import Derived.Test.YthgfmkdgemepnaaRing2
import Derived.Test.YthgfmkdgemepnaaComing
namespace Go.Proofs.Ythgfmkdgemepnaa
open Go.RowKit

/-- Is a packet for account n? -/
def forN (n : Nat) (l : List UInt8) : Bool := decide (l.length ≤ 64) && (homeOf l == some n)
def passL (n : Nat) (t : List Ts) (pk : List (List UInt8)) : List (List UInt8) := pk.filter fun l => forN n l && matchF t l
def portOf (n : Nat) (t : List Ts) (pk : List (List UInt8)) : PortSt := ⟨t, (passL n t pk).take 8, 0, (passL n t pk).length - 8⟩
def wantL (n : Nat) (f g : List Ts) (pk : List (List UInt8)) : List (List UInt8) := pk.filter fun l => forN n l && (matchF f l && matchF g l)
def portsOf (n : Nat) (ts : List (List Ts)) (pk : List (List UInt8)) : List PortSt := ts.map fun t => portOf n t pk

theorem portOf_nil (n : Nat) (t : List Ts) : portOf n t [] = ⟨t, [], 0, 0⟩ := rfl
theorem portOf_other {n : Nat} {t : List Ts} {pk : List (List UInt8)} {l : List UInt8} (h : forN n l = false) : portOf n t (pk ++ [l]) = portOf n t pk := by
  simp [portOf, passL, List.filter_append, List.filter_cons, h]
theorem putSt_take (t : List Ts) (m : List (List UInt8)) (l : List UInt8) : putSt ⟨t, m.take 8, 0, m.length - 8⟩ l = ⟨t, (m ++ [l]).take 8, 0, (m ++ [l]).length - 8⟩ := by
  unfold putSt
  by_cases h8 : 8 ≤ m.length
  · have e1 : (m.take 8).length = 8 := by rw [List.length_take]; omega
    rw [if_pos e1, List.take_append_of_le_length h8, List.length_append]
    simp only [List.length_cons, List.length_nil, PortSt.mk.injEq, true_and]
    omega
  · have e1 : ¬ (m.take 8).length = 8 := by rw [List.length_take]; omega
    rw [if_neg e1, List.take_of_length_le (show m.length ≤ 8 by omega), List.take_of_length_le (by simp; omega), List.length_append]
    simp only [List.length_cons, List.length_nil, PortSt.mk.injEq, true_and]
    omega
theorem portOf_step {n : Nat} {t : List Ts} {pk : List (List UInt8)} {l : List UInt8} (h : forN n l = true) : portOf n t (pk ++ [l]) = stepP l (portOf n t pk) := by
  unfold stepP
  show _ = if matchF t l = true then _ else _
  cases hm : matchF t l with
  | false => simp [portOf, passL, List.filter_append, List.filter_cons, hm]
  | true =>
    have e : passL n t (pk ++ [l]) = passL n t pk ++ [l] := by simp [passL, List.filter_append, List.filter_cons, h, hm]
    simp only [if_true]
    unfold portOf
    rw [e]
    exact (putSt_take t _ l).symm
theorem portsOf_other {n : Nat} {ts : List (List Ts)} {pk : List (List UInt8)} {l : List UInt8} (h : forN n l = false) : portsOf n ts (pk ++ [l]) = portsOf n ts pk := by
  unfold portsOf
  exact List.map_congr_left fun t _ => portOf_other h
theorem portsOf_step {n : Nat} {ts : List (List Ts)} {pk : List (List UInt8)} {l : List UInt8} (h : forN n l = true) : portsOf n ts (pk ++ [l]) = (portsOf n ts pk).map (stepP l) := by
  unfold portsOf
  rw [List.map_map]
  exact List.map_congr_left fun t _ => portOf_step h
theorem portsOf_length (n : Nat) (ts : List (List Ts)) (pk : List (List UInt8)) : (portsOf n ts pk).length = ts.length := by simp [portsOf]
theorem passL_length (n : Nat) (t : List Ts) (pk : List (List UInt8)) : (passL n t pk).length ≤ pk.length := List.length_filter_le _ _
theorem passL_congr {n : Nat} {t s : List Ts} (pk : List (List UInt8)) (h : ∀ l, matchF t l = matchF s l) : passL n t pk = passL n s pk := by
  unfold passL
  congr 1
  funext l
  rw [h]
theorem wantL_of {n : Nat} {f g b : List Ts} (pk : List (List UInt8)) (h : ∀ l, matchF b l = (matchF f l && matchF g l)) : passL n b pk = wantL n f g pk := by
  unfold passL wantL
  congr 1
  funext l
  rw [h]
theorem wantL_none {n : Nat} {f g : List Ts} (pk : List (List UInt8)) (h : ∀ l, (matchF f l && matchF g l) = false) : wantL n f g pk = [] := by
  unfold wantL
  rw [List.filter_eq_nil_iff]
  intro l _
  rw [h]
  simp
theorem passL_none {n : Nat} {f : List Ts} (pk : List (List UInt8)) (h : ∀ l, matchF f l = false) : passL n f pk = [] := by
  unfold passL
  rw [List.filter_eq_nil_iff]
  intro l _
  rw [h]
  simp
theorem wantL_snoc (n : Nat) (f g : List Ts) (pk : List (List UInt8)) (l : List UInt8) : wantL n f g (pk ++ [l]) = wantL n f g pk ++ (if forN n l && (matchF f l && matchF g l) then [l] else []) := by
  unfold wantL
  rw [List.filter_append, List.filter_cons]
  rfl

/-- The filter of the account's own packets. -/
theorem match_home {n : Nat} (hn : n < 8) {l : List UInt8} (hl : l.length ≤ 64) : matchF [⟨0, 255, (n : Int)⟩] l = decide (homeOf l = some n) := by
  have hmay : mayF [⟨0, 255, (n : Int)⟩] = true := by
    simp only [mayF, List.length_cons, List.length_nil, List.all_cons, List.all_nil, Bool.and_true, may1, Bool.and_eq_true, decide_eq_true_eq]
    omega
  have hm1 : may1 ⟨0, 255, (n : Int)⟩ = true := by
    simp only [mayF, List.all_cons, List.all_nil, Bool.and_true, Bool.and_eq_true] at hmay
    exact hmay.2
  have e : matchF [⟨0, 255, (n : Int)⟩] l = !failsT l ⟨0, 255, (n : Int)⟩ := by
    simp [matchF, hmay, hl]
  rw [e]
  have h := failsT_ok (l := l) hm1
  have e2 : okT l ⟨0, 255, (n : Int)⟩ ↔ homeOf l = some n := by
    unfold okT
    cases l with
    | nil => simp [homeOf]
    | cons b rest =>
      have hb := byte_lt b
      have e3 : b.toNat &&& 255 = b.toNat := by
        have := Nat.and_two_pow_sub_one_eq_mod b.toNat 8
        rw [show (2 ^ 8 - 1 : Nat) = 255 from rfl] at this
        rw [this]
        omega
      simp only [homeOf, Int.toNat_zero, List.length_cons, List.getD_cons_zero, Int.toNat_natCast]
      rw [show Int.toNat 255 = 255 from rfl, e3]
      constructor
      · rintro ⟨_, h⟩
        rw [h, if_pos hn]
      · intro h
        split at h
        · injection h with h
          exact ⟨by omega, h⟩
        · cases h
  rw [e2] at h
  cases hf : failsT l ⟨0, 255, (n : Int)⟩ with
  | false => simp [h.1 hf]
  | true =>
    have : ¬ homeOf l = some n := fun h2 => by rw [h.2 h2] at hf; cases hf
    simp [this]

def ComeAll (base PB M : Nat) (qv : Value) (n : Nat) (quotas : List Int) (xs : List Nat) (ts : List (List Ts)) (pk : List (List UInt8)) (l : List UInt8) (w : World) (e : Ending) (W' : World) : Prop :=
  ∃ (A : Option Addr) (m c : Nat), e = .returned (.tuple #[.slice A m c, .int .i64 0]) ∧ (homeOf l = some n ∨ m = 0) ∧ m ≤ 16 ∧ PortsAt W' base PB M qv (n : Int) quotas xs (portsOf n ts (pk ++ [l])) ∧ Kb xs w.heap.size w W'

theorem come_all {w : World} {base PB M : Nat} {qv : Value} {n : Nat} {quotas : List Int} {xs : List Nat} {ts : List (List Ts)} {pk : List (List UInt8)} (h : PortsAt w base PB M qv (n : Int) quotas xs (portsOf n ts pk)) (A : Option Addr) (c : Nat) (l : List UInt8)
    (hl : w.ownsRow 0 5 1 (.slice A l.length c) l.length (bcells l)) (hll : l.length ≤ 64) (hfew : xs.length ≤ 16) (hpk : pk.length ≤ 4096) (hts : ∀ t ∈ ts, t.length ≤ 64) :
    Calls Try.prog 11 #[.pointer (some ⟨PB, 0, none⟩), .slice A l.length c] w (ComeAll base PB M qv n quotas xs ts pk l w) := by
  have hM : M < w.heap.size := (Array.getElem?_eq_some_iff.1 h.mp).1
  have hlen : xs.length = ts.length := by rw [h.len, portsOf_length]
  cases hh : homeOf l with
  | none =>
    refine (come11_none h A c l (Sl.of_own hl) hll hh).mono ?_
    rintro e W ⟨rfl, hb⟩
    have hf : forN n l = false := by simp [forN, hh]
    exact ⟨none, 0, 0, rfl, .inr rfl, by omega, by rw [portsOf_other hf]; exact h.fin (Fin'.of_below hb) hM, Kb.of_below hb⟩
  | some a =>
    refine (come11_home h A c l hl hll a hh hfew ?_ ?_).mono ?_
    · intro p hp
      obtain ⟨t, _, rfl⟩ := List.mem_map.1 hp
      have := passL_length n t pk
      show (passL n t pk).length - 8 < _
      omega
    · intro p hp
      obtain ⟨t, ht, rfl⟩ := List.mem_map.1 hp
      exact hts t ht
    · rintro e W ⟨u, rfl, ho, hp, hk⟩
      obtain ⟨uA, uc, rfl⟩ := own_form ho
      by_cases han : a = n
      · subst han
        have hf : forN a l = true := by simp [forN, hh, hll]
        have e1 : comeK (a : Int) a xs = (portsOf a ts pk).length := by simp [comeK, portsOf_length, hlen]
        refine ⟨uA, _, uc, rfl, .inl hh, ?_, ?_, hk⟩
        · have := cameL_length (portsOf a ts pk) l (comeK (a : Int) a xs)
          have e2 : comeK (a : Int) a xs = xs.length := by simp [comeK]
          omega
        · rw [portsOf_step hf, ← stepTo_all, ← e1]
          exact hp
      · have hf : forN n l = false := by
          simp [forN, hh, han]
        have e1 : comeK (n : Int) a xs = 0 := by
          unfold comeK
          rw [if_neg (by omega)]
        rw [e1] at hp ⊢
        rw [stepTo_zero] at hp
        refine ⟨uA, _, uc, rfl, .inr rfl, by simp [cameL], by rw [portsOf_other hf]; exact hp, hk⟩
end Go.Proofs.Ythgfmkdgemepnaa
