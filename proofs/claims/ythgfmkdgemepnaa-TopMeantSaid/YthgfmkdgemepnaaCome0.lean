/- Come: a packet too long, a packet with no home. -/
import Derived.Test.YthgfmkdgemepnaaComeKit
namespace Go.Proofs.Ythgfmkdgemepnaa
open Go.RowKit

set_option maxRecDepth 100000 in
set_option maxHeartbeats 1000000 in
theorem come11_long {w : World} {base PB M : Nat} {qv : Value} {n : Int} {quotas : List Int} {xs : List Nat} {ps : List PortSt} (h : PortsAt w base PB M qv n quotas xs ps) (A : Option Addr) (m c : Nat) (hm : 64 < m) :
    Calls Try.prog 11 #[.pointer (some ⟨PB, 0, none⟩), .slice A m c] w fun e w' => e = .returned (.tuple #[.slice none 0 0, .int .i64 3]) ∧ Below w.heap.size w w' := by
  have hth := hid (there25 PB M qv _ (h.pb.alloc (.cells #[.slice A m c] 39)))
  have hb : Below w.heap.size w (w.alloc (.cells #[.slice A m c] 39)) := (Below.refl _ w).alloc (Nat.le_refl _) _
  have HB := hid hb
  clear h hb
  go_enter Try.func11, Try.ntmps11
  go_wp2_with fail
  refine hth.out.mono ?_
  rintro e w' ⟨rfl, rfl⟩
  go_wp2_with fail
  go_ret2
  exact ⟨rfl, HB.out⟩

set_option maxRecDepth 100000 in
set_option maxHeartbeats 1000000 in
theorem come11_none {w : World} {base PB M : Nat} {qv : Value} {n : Int} {quotas : List Int} {xs : List Nat} {ps : List PortSt} (h : PortsAt w base PB M qv n quotas xs ps) (A : Option Addr) (c : Nat) (l : List UInt8)
    (hl : Sl w 1 A l.length (bcells l)) (hll : l.length ≤ 64) (hh : homeOf l = none) :
    Calls Try.prog 11 #[.pointer (some ⟨PB, 0, none⟩), .slice A l.length c] w fun e w' => e = .returned (.tuple #[.slice none 0 0, .int .i64 0]) ∧ Below w.heap.size w w' := by
  have hth := hid (there25 PB M qv _ (h.pb.alloc (.cells #[.slice A l.length c] 39)))
  have hb : Below w.heap.size w (w.alloc (.cells #[.slice A l.length c] 39)) := (Below.refl _ w).alloc (Nat.le_refl _) _
  have hho := hid (home26_none A c l (w.alloc (.cells #[.slice A l.length c] 39)) (hl.alloc _) hll hh)
  have HB := hid hb
  clear h hb hl hh
  go_enter Try.func11, Try.ntmps11
  go_wp2_with fail
  refine hth.out.mono ?_
  rintro e w' ⟨rfl, rfl⟩
  go_wp2_with fail
  refine hho.out.mono ?_
  rintro e w' ⟨rfl, rfl⟩
  go_wp2_with fail
  go_ret2
  exact ⟨rfl, HB.out⟩
end Go.Proofs.Ythgfmkdgemepnaa
