/- A range over a function, at the wide fence; the iterators over a slice and over the map's keys. -/
import Derived.RangeFuncNested
import Derived.RangeFuncBound
import Derived.RangeFuncCalls
import Derived.RangeFuncLeaves
import Derived.Shelf.Abstract
import Derived.Shelf.RegionOpen
import Derived.WalkKit
import Derived.OwnWalkIn
import Derived.TacticsInMore
import Derived.LoopNIn
import Derived.LoopIn
import Derived.Test.YthgfmkdgemepnaaPackets
namespace Go.Proofs.Ythgfmkdgemepnaa
open Go.RowKit Go.Shelf
attribute [local go_sem] Oper.semAt_some

/-- The statement 'for .. := range g', outside of any round. -/
theorem range_outer {P : Program} {g : Operand} {ps : Array Tmp} {assign body : Code} {Q : Exit → Act → World → Prop} {a : Act} {w : World} {gf : Nat} {lb : Array Value} {n : Nat}
    (hg : a.eval g = .func (.func gf) #[] lb) (eg : ∀ args w, (callFunc gf args).run P w = .ok (.enter gf args) w)
    (h : ∀ fn, CallsIn Fence.wide (n - 1) P gf (#[.func (.yield (w.heap.size + 1)) #[] #[]] ++ lb)
      ((w.alloc (.deferred (some []))).alloc (.loop { state := .ready, pending := none, fn, tmps := a.tmps, params := ps, assign, body, defers := w.heap.size }))
      (rangePost Fence.wide n P (w.heap.size + 1) Q { a with defers := { target := .collected w.heap.size, args := #[] } :: a.defers })) :
    (Code.rangeFunc g ps assign body).wpIn Fence.wide n P Q a w := by
  refine wpIn_rangeFunc fun fn _ => ?_
  have hres : ∀ (l : Nat) (W1 : World), (resolve a.eval (rangeCall g l) 0).run P W1 = .ok { target := .fn (.func gf) lb, args := #[.func (.yield l) #[] #[]] } W1 := by
    intro l W1
    simp only [resolve, hg]
    simp [go_sem]
  have hinv : ∀ (l : Nat) (W1 : World), (invoke (.fn (.func gf) lb) #[.func (.yield l) #[] #[]]).run P W1 = .ok (.enter gf (#[.func (.yield l) #[] #[]] ++ lb)) W1 := by
    intro l W1
    simp [invoke, go_sem, eg]
  have hlead : ∀ (l : Nat) (W1 : World) (f' : FuncId), Target.leads P W1 (.fn (.func gf) lb) #[.func (.yield l) #[] #[]] = some f' → Fence.wide.fn f' := fun _ _ _ _ => trivial
  have hd : Fence.wide.depth.isSome = true → 1 ≤ n := fun h => by cases h
  exact ⟨_, _, _, _, _, _, _, _, run_enterLoop_outer fn a.tmps ps assign body, hres _ _, hlead _ _, hinv _ _, hd, h fn⟩

/-- append onto a row of the call's own, within a fence; the source nil, empty or not. -/
theorem appendIn_sl {F : Fence} {n : Nat} {P : Program} (w : World) {ops : Array Oper} {rest : List Oper} {o : Oper} {a : Act} {Q : Exit → Act → World → Prop}
    (hg : o.guard = none) (s x : Operand) (t : TypeId) (hop : o.op = Op.call { callee := Callee.builtin Builtin.append, args := #[s, x], argTypes := #[t, t] })
    (base : Nat) (e : TypeId) (i : TypeInfo) (z : Value) (size bytes : Nat) (h1 : P.underlying t = some (.slice e)) (h2 : P.info? e = some i) (h3 : i.zero = some z) (h4 : i.size = size) (h5 : i.bytes = bytes) (h6 : z.cells.size = size) (h7 : 0 < size)
    (v : Value) (k : Nat) (xs : List Value) (hs : a.eval s = v) (hown : w.ownsRow base e size v k xs) (A : Option Addr) (m c : Nat) (news : List Value) (hx : a.eval x = .slice A m c) (hr : Sl w size A m news)
    (h1c : ∀ u ∈ news, u.oneCell' = true) (b1 : k + m ≤ maxLen) (b2 : (k + m) * bytes ≤ 140737488355328) (b3 : base ≤ w.heap.size)
    (hK : ∀ v' w', w'.ownsRow base e size v' (k + m) (xs ++ news) → w.grownBy w' v.ownBlock → (v'.ownBlock = v.ownBlock ∨ v'.ownBlock = some w.heap.size) → wpListIn F n P ops Q rest (a.put o.dst v') w') :
    wpListIn F n P ops Q (o :: rest) a w := by
  refine wpListIn_plain hg fun K hK' => ?_
  obtain ⟨v', w', hrun, r1, r2, r3⟩ := run_append_sl (P := P) w base t o.type e i z size bytes h1 h2 h3 h4 h5 h6 h7 v k xs hown A m c news hr h1c b1 b2 b3
  unfold Oper.wpIn
  refine ⟨?_, ?_⟩
  · simp [Oper.about, hop, resolve, Target.leads, Sem.run_pure]
  · rw [Oper.semAt_plain F _ _ (by rw [hop]; intro c hc'; cases hc')]
    simp [execOp, hop, resolve, invoke, builtin, hs, hx, hrun, Result.andThen]
    exact hK' _ _ (hK v' w' r1 r2 r3)

/-- How a round may be left: off its end alone. -/
def endPost (l : Nat) (BO LO : Obj) (R : Ending → World → Prop) : Exit → Act → World → Prop
  | .normal, _, W' => W'.heap[l]? = some BO ∧ R (.returned (.bool true)) (W'.putObj l LO)
  | _, _, _ => False

/-- A call of yield: the assignment, then the body, with the loop's record under a name. -/
theorem yield_of {l n : Nat} {P : Program} {fn : FuncId} {tmps : Array Value} {ps : Array Tmp} {assign body : Code} {D : Nat} {args : Array Value} {W : World} {R : Ending → World → Prop} {LO : Obj}
    (hLO : Obj.loop { state := .ready, pending := none, fn, tmps, params := ps, assign, body, defers := D } = LO) (hL : W.heap[l]? = some LO) (hs : args.size = ps.size)
    (h : ∀ BO : Obj, BO.isCells = false → BO.isWalk = false →
      assign.wpIn (Fence.wide.inRound l) n P (Exit.then (fun a₁ w₁ => w₁.heap[l]? = some LO ∧ body.wpIn (Fence.wide.inRound l) n P (endPost l BO LO R) a₁ (w₁.putObj l BO)) (fun _ _ _ => False))
        { tmps := (ps.zip args).foldl (fun t (p, v) => t.setIfInBounds p v) tmps, defers := [] } W) :
    YieldAt Fence.wide n P l args W R := by
  subst hLO
  refine ⟨_, _, _, _, run_yield hL hs, roundIn_of_wpIn trivial ?_⟩
  refine wpIn_mono (h (.loop { state := .busy, pending := none, fn, tmps, params := ps, assign, body, defers := D }) rfl rfl) ?_
  rintro e a₁ w₁ hq
  cases e with
  | normal =>
    obtain ⟨hl1, hb⟩ := hq
    refine ⟨_, run_beginRound hl1 rfl, ?_⟩
    refine wpIn_mono hb ?_
    rintro e2 a₂ w₂ hq2
    cases e2 with
    | normal =>
      obtain ⟨h1, h2⟩ := hq2
      exact ⟨_, _, run_endRound none h1, h2⟩
    | ret => exact hq2.elim
    | exit id => exact hq2.elim
    | goto t => exact hq2.elim
    | panic c => exact hq2.elim
    | outgrown => exact hq2.elim
  | ret => exact hq.elim
  | exit id => exact hq.elim
  | goto t => exact hq.elim
  | panic c => exact hq.elim
  | outgrown => exact hq.elim

/-- Behind the call of the iterator: the loop ends, no jump pends. -/
theorem range_end {l n : Nat} {P : Program} {fn : FuncId} {tmps : Array Value} {ps : Array Tmp} {assign body : Code} {D : Nat} {Q : Exit → Act → World → Prop} {a' : Act} {v : Value} {W : World} {F : Fence} {LO : Obj}
    (hLO : Obj.loop { state := .ready, pending := none, fn, tmps, params := ps, assign, body, defers := D } = LO) (hL : W.heap[l]? = some LO)
    (h : ∀ EO : Obj, EO.isCells = false → EO.isWalk = false → Q .normal a' (W.putObj l EO)) : rangePost F n P l Q a' (.returned v) W := by
  subst hLO
  exact ⟨none, _, run_endLoop hL (by simp), h _ rfl rfl⟩

set_option maxRecDepth 100000 in
set_option maxHeartbeats 1000000 in
/-- slices.All's closure over a slice of byte slices. -/
theorem all50 (m l B b o c : Nat) (vs : List Value) (W : World) (Inv : Nat → World → Prop) (X : World → Prop)
    (hB : W.cell? ⟨B, 0, none⟩ = some (.slice (some ⟨b, o, none⟩) vs.length c))
    (hlen : vs.length ≤ 4096)
    (hI : ∀ k W1 v, Inv k W1 → vs[k]? = some v → W1.cell? ⟨b, o + k, none⟩ = some v ∧ v.oneCell' = true)
    (hY : ∀ k W1 v, Inv k W1 → vs[k]? = some v → YieldAt Fence.wide (m - 1) Try.prog l #[.int .i64 k, v] W1 fun e W' => (e = .returned (.bool true) ∧ Inv (k + 1) W') ∨ (e = .returned (.bool false) ∧ X W'))
    (h0 : Inv 0 W) :
    CallsIn Fence.wide m Try.prog 50 #[.func (.yield l) #[] #[], .pointer (some ⟨B, 0, none⟩)] W fun e W' => (∃ v, e = .returned v) ∧ (Inv vs.length W' ∨ X W') := by
  have HI := hid hI
  have HY := hid hY
  clear hI hY
  refine callsIn_of_wp Try.func50 rfl trivial ?_ rfl
  simp only [Try.ntmps50, List.size_toArray, List.length_cons, List.length_nil, Nat.reduceAdd, Nat.reduceSub, Array.replicate_succ, Array.replicate_zero, List.push_toArray, List.append_toArray, List.nil_append, List.cons_append]
  gi_wp2
  gi_loopw [7] (fun i wr => ∃ k : Nat, k ≤ vs.length ∧ i = .int .i64 k ∧ Inv k wr) (fun i _ => vs.length - (intOf i).toNat)
  case atStart => exact ⟨0, Nat.zero_le _, rfl, h0⟩
  case round =>
    obtain ⟨k, hk, rfl, hinv⟩ := hrel
    by_cases hlt : k < vs.length
    · obtain ⟨v, hv⟩ : ∃ v, vs[k]? = some v := ⟨_, List.getElem?_eq_getElem hlt⟩
      obtain ⟨hc, h1⟩ := HI.out k wr v hinv hv
      obtain ⟨fn, tmps, assign, body, hy, hR⟩ := HY.out k wr v hinv hv
      have HR := hid hR
      clear hR hv
      gi_wp2
      refine ⟨(fun h => by cases h), HR.out.mono ?_⟩
      rintro e W' (⟨rfl, hi⟩ | ⟨rfl, hx⟩)
      · gi_wp2
        refine ⟨⟨k + 1, by omega, by go_num, hi⟩, by simp [intOf]; omega⟩
      · gi_wp2
        refine bodyPost_ret (results_none rfl _ _ _) rfl ⟨⟨_, rfl⟩, .inr hx⟩
    · gi_wp2
      obtain rfl : k = vs.length := by omega
      refine bodyPost_end (results_none rfl _ _ _) rfl ⟨⟨_, rfl⟩, .inl hinv⟩
end Go.Proofs.Ythgfmkdgemepnaa
