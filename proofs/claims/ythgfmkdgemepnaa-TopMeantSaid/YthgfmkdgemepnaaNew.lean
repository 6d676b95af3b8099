/- ports.New, ports.Home. -/
import Derived.Test.YthgfmkdgemepnaaPorts
namespace Go.Proofs.Ythgfmkdgemepnaa
open Go.RowKit

theorem icells_one (l : List Int) : ∀ u ∈ icells l, u.oneCell' = true := by
  intro u hu
  obtain ⟨b, _, rfl⟩ := List.mem_map.1 hu
  rfl

/-- Quotas that may be: none below 0, never more than 16 together. -/
def quotasOk (l : List Int) : Prop := 0 < l.length ∧ l.length ≤ 8 ∧ ∀ k q, l[k]? = some q → 0 ≤ q ∧ (l.take k).sum + q ≤ 16 ∧ 0 ≤ (l.take k).sum

/-- What New leaves: ports of account n, none open. -/
def NewPost (n : Int) (quotas : List Int) (w : World) (e : Ending) (w' : World) : Prop :=
  ∃ PB M qv, e = .returned (.tuple #[.pointer (some ⟨PB, 0, none⟩), .int .i64 0]) ∧ PortsAt w' w.heap.size PB M qv n quotas [] [] ∧ Below w.heap.size w w'

set_option maxRecDepth 100000 in
set_option maxHeartbeats 1000000 in
theorem new6 (A : Option Addr) (c : Nat) (quotas : List Int) (n : Int) (w : World) (hq : Sl w 1 A quotas.length (icells quotas)) (hok : quotasOk quotas) :
    Calls Try.prog 6 #[.slice A quotas.length c] w (NewPost n quotas w) := by
  obtain ⟨hl0, hl8, hok⟩ := hok
  have HK := hid hok
  clear hok
  have e0 : (((quotas.length : Nat) : Int) == 0) = false := by simp; intro h; rw [h] at hl0; simp at hl0
  have hmm := @run_makeMap Try.prog
  have hcl := hid (clone18 A quotas.length c (icells quotas) w hq (icells_one _) (by omega))
  go_enter Try.func6, Try.ntmps6
  go_wp2_with fail
  go_loop [4, 17] (fun l i => ∃ k : Nat, k ≤ quotas.length ∧ i = .int .i64 k ∧ l = .int .i64 (16 - (quotas.take k).sum)) (fun _ i => quotas.length - (intOf i).toNat)
  case atStart => exact ⟨0, Nat.zero_le _, rfl, rfl⟩
  case round =>
    obtain ⟨k, hk, rfl, rfl⟩ := hrel
    by_cases hlt : k < quotas.length
    · obtain ⟨q, hqk⟩ : ∃ q, quotas[k]? = some q := ⟨_, List.getElem?_eq_getElem hlt⟩
      obtain ⟨q0, q1, q2⟩ := HK.out k q hqk
      obtain ⟨b, o, rfl, hb, hc⟩ := hq.at_ (by omega)
      have hcell := hc k (.int .i64 q) (by simp [icells, hqk])
      have hsum : (quotas.take (k + 1)).sum = (quotas.take k).sum + q := by rw [List.take_add_one, hqk]; simp
      have HS := hid hsum
      clear hc hqk hsum
      generalize (quotas.take k).sum = sm at *
      have hn1 : ¬ q < 0 := by omega
      have hn2 : ¬ 16 - sm < q := by omega
      go_wp2_with fail
      refine ⟨⟨k + 1, by omega, by go_num, ?_⟩, by simp [intOf]; omega⟩
      rw [HS.out]
      congr 1
      omega
    · have hke : k = quotas.length := by omega
      subst hke
      go_wp2_with fail
      refine hcl.out.mono ?_
      rintro e w1 ⟨v1, rfl, hown1, hb1⟩
      have HO := hid hown1
      obtain ⟨A1, c1, rfl⟩ := own_form hown1
      have HB := hid hb1
      clear hown1 hb1
      go_wp2_with fail
      go_ret2
      have hbs := HB.out.size
      refine ⟨w1.heap.size + 1, w1.heap.size, .slice A1 quotas.length c1, rfl, ⟨?_, ?_, ?_, rfl, fun j x p h => by simp at h, List.nodup_nil, ?_, ?_, fun x h => by simp at h⟩, ?_⟩
      · exact heap_alloc2_new w1 _ _
      · exact (own_base HO.out (Nat.zero_le _)).alloc _ |>.alloc _
      · exact heap_alloc2_old w1 _ _
      · omega
      · omega
      · exact (HB.out.alloc hbs _).alloc (by simp; omega) _
end Go.Proofs.Ythgfmkdgemepnaa
