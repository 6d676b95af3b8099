/- The packets of a ring, in order. -/
import Derived.Test.YthgfmkdgemepnaaLook
namespace Go.Proofs.Ythgfmkdgemepnaa
open Go.RowKit

theorem info39 : (Try.prog.info? 39).map (fun i => (i.zero, i.size, i.bytes)) = some (some (.slice none 0 0), 1, 24) := by kernel_rfl

/-- The values are slices that hold the packets, in order. -/
structure RowsOf (w : World) (vs : List Value) (ring : List (List UInt8)) : Prop where
  len : vs.length = ring.length
  at_ : ∀ (i : Nat) (l : List UInt8), ring[i]? = some l → ∃ (A : Option Addr) (c : Nat), vs[i]? = some (Value.slice A l.length c) ∧ w.ownsRow 0 5 1 (Value.slice A l.length c) l.length (bcells l)
theorem RowsOf.nil (w : World) : RowsOf w [] [] := ⟨rfl, fun i l h => by simp at h⟩
theorem RowsOf.kept {w w' : World} {vs : List Value} {ring : List (List UInt8)} {row : Option Nat} (h : RowsOf w vs ring) (hg : w.grownBy w' row)
    (hne : ∀ v n xs, w.ownsRow 0 5 1 v n xs → v.ownBlock = none ∨ v.ownBlock ≠ row) : RowsOf w' vs ring :=
  ⟨h.len, fun i l hl => by
    obtain ⟨A, c, h1, h2⟩ := h.at_ i l hl
    exact ⟨A, c, h1, h2.kept hg (hne _ _ _ h2)⟩⟩
theorem RowsOf.snoc {w : World} {vs : List Value} {ring : List (List UInt8)} {l : List UInt8} {A : Option Addr} {c : Nat} (h : RowsOf w vs ring) (ho : w.ownsRow 0 5 1 (.slice A l.length c) l.length (bcells l)) :
    RowsOf w (vs ++ [.slice A l.length c]) (ring ++ [l]) := by
  refine ⟨by simp [h.len], fun i x hx => ?_⟩
  rcases Nat.lt_trichotomy i ring.length with hi | hi | hi
  · rw [List.getElem?_append_left hi] at hx
    obtain ⟨A2, c2, h1, h2⟩ := h.at_ i x hx
    exact ⟨A2, c2, by rw [List.getElem?_append_left (by rw [h.len]; exact hi)]; exact h1, h2⟩
  · subst hi
    rw [List.getElem?_append_right (Nat.le_refl _), Nat.sub_self] at hx
    simp only [List.getElem?_cons_zero, Option.some.injEq] at hx
    subst hx
    exact ⟨A, c, by rw [← h.len, List.getElem?_append_right (Nat.le_refl _), Nat.sub_self]; rfl, ho⟩
  · rw [List.getElem?_eq_none (by simp; omega)] at hx
    cases hx
theorem RowsOf.one {w : World} {vs : List Value} {ring : List (List UInt8)} (h : RowsOf w vs ring) : ∀ u ∈ vs, u.oneCell' = true := by
  intro u hu
  obtain ⟨i, hi, e⟩ := List.getElem_of_mem hu
  obtain ⟨A, c, h1, _⟩ := h.at_ i (ring[i]'(by rw [← h.len]; exact hi)) (List.getElem?_eq_getElem (by rw [← h.len]; exact hi))
  rw [List.getElem?_eq_getElem hi, e] at h1
  injection h1 with h1
  rw [h1]
  rfl

theorem own_block {w : World} {base : Nat} {e : TypeId} {size n : Nat} {v : Value} {xs : List Value} {g : Nat} (h : w.ownsRow base e size v n xs) (hv : v.ownBlock = some g) : ∃ cs, Bk w g e cs := by
  rcases h.2 with ⟨rfl, _⟩ | ⟨g', cap, cur, rfl, _, hh, _⟩
  · simp [Value.ownBlock] at hv
  · have e1 : g' = g := by simpa [Value.ownBlock] using hv
    subst e1
    exact ⟨cur, hh⟩

set_option maxRecDepth 100000 in
set_option maxHeartbeats 1000000 in
theorem packets46 (X : Nat) (p : PortSt) (w : World) (hp : PortAt w X p) :
    Calls Try.prog 46 #[.pointer (some ⟨X, 0, none⟩)] w fun e w' => ∃ v vs, e = .returned v ∧ w'.ownsRow w.heap.size 39 1 v p.ring.length vs ∧ RowsOf w' vs p.ring ∧ Below w.heap.size w w' := by
  obtain ⟨i0, hi0, hz0, hz1, hz2⟩ := info_parts info39
  obtain ⟨tv, rs, hb, ht, hr⟩ := hp
  have c10 := hb.cell 10
  rw [pc_n hr.len] at c10
  have hX := hb.lt
  have HB := hid hb
  have HR := hid hr
  have hfew := hr.few
  have hfst := hr.fst
  clear hb hr ht
  go_enter Try.func46, Try.ntmps46
  go_wp2_with fail
  go_loopw [3, 9] (fun o i wr => ∃ (k : Nat) (vs : List Value), k ≤ p.ring.length ∧ i = .int .i64 k ∧ wr.ownsRow w.heap.size 39 1 o k vs ∧ RowsOf wr vs (p.ring.take k) ∧ Below w.heap.size w wr) (fun _ i _ => p.ring.length - (intOf i).toNat)
  case atStart => exact ⟨0, [], Nat.zero_le _, rfl, World.ownsRow_nil _ _ _ _, RowsOf.nil _, Below.refl _ _⟩
  case round =>
    obtain ⟨k, vs, hk, rfl, hown, hrows, hbel⟩ := hrel
    by_cases hlt : k < p.ring.length
    · obtain ⟨l, hl⟩ : ∃ l, p.ring[k]? = some l := ⟨_, List.getElem?_eq_getElem hlt⟩
      obtain ⟨A, c, hA, hAo⟩ := HR.out.at_ k l hl
      have hll := HR.out.short l (List.mem_of_getElem? hl)
      obtain ⟨q, hq⟩ : ∃ q, q = (p.first + k) % 8 := ⟨_, rfl⟩
      rw [← hq] at hA
      have hB1 := hid (HB.out.below hbel hX)
      have c9 := hB1.out.cell 9
      rw [pc_first HR.out.len] at c9
      have ct := hB1.out.cell (1 + q)
      rw [pc_ring hA] at ct
      have hX1 : X < wr.heap.size := hB1.out.lt
      have hsl := hid (Sl.of_own (own_below hAo hbel (Nat.le_refl _)))
      have hs1 : IntKind.i64.wrap ((p.first : Int) + (k : Int)) = (p.first : Int) + (k : Int) := IntWalk.i64_in _ (by omega)
      have hs2 : Int.tmod ((p.first : Int) + (k : Int)) 8 = (q : Int) := by rw [Int.tmod_eq_emod_of_nonneg (by omega)]; omega
      have hs3 : IntKind.i64.wrap (q : Int) = (q : Int) := IntWalk.i64_in _ (by omega)
      have hs4 : (q : Int) < 8 := by omega
      have hs5 : (0 : Int) ≤ (q : Int) := by omega
      have HOWN := hid hown
      have HROWS := hid hrows
      have HBEL := hid hbel
      have HL := hid hl
      have hbs := hbel.size
      clear hl hA hAo hq hown hrows hbel c10
      go_wp2_with fail
      go_region_held3 (fun w' => w'.cell? ⟨X, 9, none⟩ = some (.int .i64 p.first) ∧ w'.cell? ⟨X, 1 + q, none⟩ = some (.slice A l.length c)) (first | exact ⟨m9, m1⟩ | exact ⟨n9, n1⟩ | exact ⟨k9, k1⟩ | go_keep)
        (first | (go_at_call 43; refine (clone43 A l.length c (bcells l) _ (hsl.out.drew) (bcells_one l) (by omega)).mono ?_; rintro e w1 ⟨v1, rfl, hown1, hb1⟩; obtain ⟨A1, c1, rfl⟩ := own_form hown1; obtain ⟨bc, bf⟩ := bcell hb1; have k1 := (bc X (1 + q) hX1).trans ct; have k9 := (bc X 9 hX1).trans c9; have hw1 : wr.heap.size ≤ w1.heap.size := hb1.size; have hown2 := (own_below (w := wr.drew) HOWN.out hb1 (Nat.le_refl _)).alloc (.cells #[.slice A1 l.length c1] 39); have hB2 := (Bk.below (w := wr.drew) hB1.out hb1 hX1).alloc (.cells #[.slice A1 l.length c1] 39); have hB2' := hid hB2; have n9 := (hB2.cell 9).trans (pc_first HR.out.len); have n1 := (World.cell?_alloc_lt w1 (.cells #[.slice A1 l.length c1] 39) ⟨X, 1 + q, none⟩ (by show X < _; omega)).trans k1; clear hB2) | (refine step_append_sl _ rfl (.tmp 12) (.tmp 26) 23 rfl w.heap.size 39 i0 _ 1 24 Try.underlying23 hi0 hz0 hz1 hz2 rfl (by omega) u3 k vs rfl hown2 _ 1 1 _ rfl (Sl.one w1 _ 39) (by simp [Value.oneCell']) (by unfold maxLen; omega) (by omega) (by simp; omega) ?_; intro v3 w3 hown3 hgr3 hat3; have m9 := (World.cell?_of_block (a := ⟨X, 9, none⟩) (hgr3.block X hB2'.out.lt (Ne.symm (own_ne (own_base hown2 (Nat.zero_le _)) hB2'.out (by decide))))).trans n9; have m1 := (World.cell?_of_block (a := ⟨X, 1 + q, none⟩) (hgr3.block X hB2'.out.lt (Ne.symm (own_ne (own_base hown2 (Nat.zero_le _)) hB2'.out (by decide))))).trans n1))
      have hbel1 : Below w.heap.size w w1 := HBEL.out.trans ((show Below wr.heap.size wr w1 from ⟨hb1.os, hb1.tape, hb1.output, hb1.size, hb1.block⟩).mono hbs)
      have hb1' : Below wr.heap.size wr w1 := ⟨hb1.os, hb1.tape, hb1.output, hb1.size, hb1.block⟩
      have hbel3 := hid ((hbel1.alloc hbel1.size (.cells #[.slice A1 l.length c1] 39)).grown hgr3 (by simp; have := hbel1.size; omega) (fun k hk => (hown2.lt k hk).1))
      have hg1 : wr.grownBy w1 none := ⟨hb1.os, hb1.tape, hb1.output, hb1.size, fun j hj _ => hb1.block j hj⟩
      have hne3 : ∀ v n xs, (w1.alloc (.cells #[.slice A1 l.length c1] 39)).ownsRow 0 5 1 v n xs → v.ownBlock = none ∨ v.ownBlock ≠ u3.ownBlock := by
        intro v n xs h
        rcases hv : u3.ownBlock with _ | g
        · rcases hvb : v.ownBlock with _ | g'
          · exact .inl rfl
          · exact .inr (by simp)
        · right
          obtain ⟨cs, hcs⟩ := own_block hown2 hv
          exact own_ne h hcs (by decide)
      have hr1 := (HROWS.out.kept hg1 (fun v n xs h => by cases hv : v.ownBlock <;> simp)).snoc (l := l) (own_base hown1 (Nat.zero_le _))
      have hr2 := hr1.kept (World.grownBy_alloc w1 (.cells #[.slice A1 l.length c1] 39) none) (fun v n xs h => by cases hv : v.ownBlock <;> simp)
      have hr3 := hid (hr2.kept hgr3 hne3)
      have HO3 := hid hown3
      clear bc bf hown1 hown2 hown3 hgr3 hat3 hr1 hr2 hne3 hg1 hb1' hbel1 k1 k9 n1 n9 m1 m9 hb1 c9 ct
      go_wp2_with fail
      refine ⟨⟨k + 1, vs ++ [.slice A1 l.length c1], by omega, by go_num, HO3.out, ?_, hbel3.out⟩, by simp [intOf]; omega⟩
      rw [List.take_add_one, HL.out]
      exact hr3.out
    · have hke : k = p.ring.length := by omega
      subst hke
      rw [List.take_length] at hrows
      go_wp2_with fail
      go_ret
      exact ⟨_, vs, rfl, hown, hrows, hbel⟩
end Go.Proofs.Ythgfmkdgemepnaa
