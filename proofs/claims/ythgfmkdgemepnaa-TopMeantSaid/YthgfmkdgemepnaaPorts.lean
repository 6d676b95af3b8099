/- The ports in memory; the looks at them. -/
import Derived.Test.YthgfmkdgemepnaaState
import Derived.RangeFuncBox
namespace Go.Proofs.Ythgfmkdgemepnaa
open Go.RowKit

/-- A port: its filter, its ring's packets, where the ring begins, how many were lost. -/
structure PortSt where
  tests : List Ts
  ring : List (List UInt8)
  first : Nat
  lost : Nat
def portCells (tv : Value) (rs : List Value) (first n lost : Nat) : Array Value := (tv :: (rs ++ [.int .i64 (first : Int), .int .i64 (n : Int), .int .i64 (lost : Int)])).toArray
structure RingOk (w : World) (rs : List Value) (first : Nat) (ring : List (List UInt8)) : Prop where
  len : rs.length = 8
  fst : first < 8
  few : ring.length ≤ 8
  short : ∀ l ∈ ring, l.length ≤ 64
  at_ : ∀ i l, ring[i]? = some l → ∃ A c, rs[(first + i) % 8]? = some (.slice A l.length c) ∧ w.ownsRow 0 5 1 (.slice A l.length c) l.length (bcells l)
def PortAt (w : World) (X : Nat) (p : PortSt) : Prop :=
  ∃ tv rs, Bk w X 75 (portCells tv rs p.first p.ring.length p.lost) ∧ w.ownsRow 0 45 3 tv p.tests.length (tsCells p.tests) ∧ RingOk w rs p.first p.ring

theorem pc_tests (tv : Value) (rs : List Value) (a b c : Nat) : (portCells tv rs a b c)[0]? = some tv := by simp [portCells]
theorem pc_ring {tv : Value} {rs : List Value} {a b c j : Nat} {v : Value} (h : rs[j]? = some v) : (portCells tv rs a b c)[1 + j]? = some v := by
  have hj := (List.getElem?_eq_some_iff.1 h).1
  simp only [portCells, List.getElem?_toArray]
  rw [Nat.add_comm, List.getElem?_cons_succ, List.getElem?_append_left hj]
  exact h
theorem pc_first {tv : Value} {rs : List Value} {a b c : Nat} (h : rs.length = 8) : (portCells tv rs a b c)[9]? = some (.int .i64 (a : Int)) := by
  simp only [portCells, List.getElem?_toArray]
  rw [List.getElem?_cons_succ, List.getElem?_append_right (by omega), h]; rfl
theorem pc_n {tv : Value} {rs : List Value} {a b c : Nat} (h : rs.length = 8) : (portCells tv rs a b c)[10]? = some (.int .i64 (b : Int)) := by
  simp only [portCells, List.getElem?_toArray]
  rw [List.getElem?_cons_succ, List.getElem?_append_right (by omega), h]; rfl
theorem pc_lost {tv : Value} {rs : List Value} {a b c : Nat} (h : rs.length = 8) : (portCells tv rs a b c)[11]? = some (.int .i64 (c : Int)) := by
  simp only [portCells, List.getElem?_toArray]
  rw [List.getElem?_cons_succ, List.getElem?_append_right (by omega), h]; rfl

theorem own_ne {w : World} {base : Nat} {e : TypeId} {size n : Nat} {v : Value} {xs : List Value} {g : Nat} {t : TypeId} {cs : Array Value} (h : w.ownsRow base e size v n xs) (hg : Bk w g t cs) (hne : e ≠ t) : v.ownBlock ≠ some g := by
  rcases h.2 with ⟨rfl, _⟩ | ⟨g', cap, cur, rfl, _, hh, _⟩
  · simp [Value.ownBlock]
  · intro he
    have e1 : g' = g := by simpa [Value.ownBlock] using he
    subst e1
    unfold Bk at hg
    rw [hh] at hg
    injection hg with hg
    injection hg with _ ht
    exact hne ht
theorem own_ne_map {w : World} {base : Nat} {e : TypeId} {size n : Nat} {v : Value} {xs : List Value} {g : Nat} {es : Array MapEntry} {cl : Nat} (h : w.ownsRow base e size v n xs) (hg : w.heap[g]? = some (.map es cl)) : v.ownBlock ≠ some g := by
  rcases h.2 with ⟨rfl, _⟩ | ⟨g', cap, cur, rfl, _, hh, _⟩
  · simp [Value.ownBlock]
  · intro he
    have e1 : g' = g := by simpa [Value.ownBlock] using he
    subst e1
    rw [hh] at hg
    cases hg
theorem RingOk.kept {w w' : World} {rs : List Value} {first : Nat} {ring : List (List UInt8)} {row : Option Nat} (h : RingOk w rs first ring) (hg : w.grownBy w' row)
    (hne : ∀ v n xs, w.ownsRow 0 5 1 v n xs → v.ownBlock = none ∨ v.ownBlock ≠ row) : RingOk w' rs first ring :=
  ⟨h.len, h.fst, h.few, h.short, fun i l hl => by
    obtain ⟨A, c, h1, h2⟩ := h.at_ i l hl
    exact ⟨A, c, h1, h2.kept hg (hne _ _ _ h2)⟩⟩
/-- A port stays as it is while another block is written. -/
theorem PortAt.kept {w w' : World} {X : Nat} {p : PortSt} {row : Option Nat} (h : PortAt w X p) (hg : w.grownBy w' row) (hX : some X ≠ row)
    (hne : ∀ e v size n xs, e ≠ 75 → w.ownsRow 0 e size v n xs → v.ownBlock = none ∨ v.ownBlock ≠ row) : PortAt w' X p := by
  obtain ⟨tv, rs, h1, h2, h3⟩ := h
  exact ⟨tv, rs, (hg.block X h1.lt hX).trans h1, h2.kept hg (hne _ _ _ _ _ (by decide) h2), h3.kept hg (fun v n xs => hne 5 v 1 n xs (by decide))⟩

def icells (l : List Int) : List Value := l.map (.int .i64)
/-- The ports of one account n, and of no other. -/
structure PortsAt (w : World) (base PB M : Nat) (qv : Value) (n : Int) (quotas : List Int) (xs : List Nat) (ps : List PortSt) : Prop where
  pb : Bk w PB 58 #[qv, .map (some M)]
  qs : w.ownsRow 0 3 1 qv quotas.length (icells quotas)
  mp : w.heap[M]? = some (.map (ents n xs 0).toArray xs.length)
  len : xs.length = ps.length
  port : ∀ (j : Nat) (x : Nat) (p : PortSt), xs[j]? = some x → ps[j]? = some p → PortAt w x p
  nodup : xs.Nodup
  lo : base ≤ PB ∧ base ≤ M ∧ ∀ x ∈ xs, base ≤ x

theorem PortsAt.ptr {w : World} {base PB M : Nat} {qv : Value} {n : Int} {quotas : List Int} {xs : List Nat} {ps : List PortSt} (h : PortsAt w base PB M qv n quotas xs ps) {j : Nat} {p : PortSt} (hp : ps[j]? = some p) :
    ∃ x, xs[j]? = some x ∧ PortAt w x p ∧ base ≤ x := by
  have hj : j < xs.length := by rw [h.len]; exact (List.getElem?_eq_some_iff.1 hp).1
  exact ⟨xs[j], List.getElem?_eq_getElem hj, h.port j _ p (List.getElem?_eq_getElem hj) hp, h.lo.2.2 _ (List.getElem_mem hj)⟩

set_option maxRecDepth 100000 in
theorem there25 (PB M : Nat) (qv : Value) (w : World) (h : Bk w PB 58 #[qv, .map (some M)]) :
    Calls Try.prog 25 #[.pointer (some ⟨PB, 0, none⟩)] w fun e w' => e = .returned (.bool true) ∧ w = w' := by
  have c1 := h.cell 1
  simp at c1
  have q : ∀ w r, (binOp .neq 56 (.map r) (.map none)).run Try.prog w = .ok (.bool (!r.isNone)) w := fun w r => run_neq_map_nil w _ _ _ r Try.underlying56
  go_enter Try.func25, Try.ntmps25
  go_wp2
  go_ret
  exact ⟨rfl, rfl⟩

set_option maxRecDepth 100000 in
set_option maxHeartbeats 400000 in
theorem account23 (PB M : Nat) (qv : Value) (a : Int) (A : Option Addr) (q c : Nat) (w : World) (hqv : qv = .slice A q c) (h : Bk w PB 58 #[qv, .map (some M)]) (h0 : 0 ≤ a) (h1 : a < q) :
    Calls Try.prog 23 #[.pointer (some ⟨PB, 0, none⟩), .int .i64 a] w fun e w' => e = .returned (.int .i64 0) ∧ w = w' := by
  have ht := hid (there25 PB M qv w h)
  have c0 := h.cell 0
  simp at c0
  rw [hqv] at c0
  clear hqv
  have hn0 : ¬ a < 0 := by omega
  have hn1 : ¬ (q : Int) ≤ a := by omega
  go_enter Try.func23, Try.ntmps23
  go_wp2_with fail
  refine ht.out.mono ?_
  rintro e w' ⟨rfl, rfl⟩
  go_wp2_with fail
  go_ret
  exact ⟨rfl, rfl⟩

set_option maxRecDepth 100000 in
set_option maxHeartbeats 400000 in
theorem get33 {w : World} {base PB M : Nat} {qv : Value} {n : Int} {quotas : List Int} {xs : List Nat} {ps : List PortSt} (h : PortsAt w base PB M qv n quotas xs ps) (k X : Nat) (hx : xs[k]? = some X) (h0 : 0 ≤ n) (h1 : n < quotas.length) :
    Calls Try.prog 33 #[.pointer (some ⟨PB, 0, none⟩), .int .i64 n, .int .i64 k] w fun e w' => e = .returned (.tuple #[.pointer (some ⟨X, 0, none⟩), .int .i64 0]) ∧ w = w' := by
  obtain ⟨A, c, hqv⟩ := own_form h.qs
  have ha := hid (account23 PB M qv n A quotas.length c w hqv h.pb h0 h1)
  have c1 := h.pb.cell 1
  simp at c1
  have hlk := run_lookup56 n n k M xs xs.length w h.mp
  have hp : ptrAt n xs n k = some ⟨X, 0, none⟩ := by simp [ptrAt, hx]
  rw [hp] at hlk
  unfold keyV at hlk
  clear hp hx hqv h
  go_enter Try.func33, Try.ntmps33
  go_wp2_with fail
  refine ha.out.mono ?_
  rintro e w' ⟨rfl, rfl⟩
  go_wp2_with fail
  go_ret2
  exact ⟨rfl, rfl⟩
end Go.Proofs.Ythgfmkdgemepnaa
