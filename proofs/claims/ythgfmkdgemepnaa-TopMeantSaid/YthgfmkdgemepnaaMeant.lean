/- steadingtop.TopMeant within its guard. -/
import Derived.Test.YthgfmkdgemepnaaMeantB
import Derived.Deep.DeepCutAuto
import Derived.Outline
namespace Go.Proofs.Ythgfmkdgemepnaa
open Go.RowKit

/-- A filter that passes what f passes. -/
def PlainIs (f : List Ts) (W : World) (s : Value) : Prop := ∃ (XA : Option Addr) (xc : Nat) (xl : List Ts), s = .slice XA xl.length xc ∧ Sl W 3 XA xl.length (tsCells xl) ∧ mayF xl = true ∧ ∀ l, matchF xl l = matchF f l

set_option maxRecDepth 100000 in
set_option maxHeartbeats 4000000 in
theorem top3_in (A : Option Addr) (c : Nat) (f : List Ts) (B : Option Addr) (d : Nat) (g : List Ts) (C : Option Addr) (ec : Nat) (us : List Value) (pk : List (List UInt8)) (acc : Int) (w : World)
    (hf : Sl w 3 A f.length (tsCells f)) (hg : Sl w 3 B g.length (tsCells g)) (hC : Sl w 1 C us.length us) (hus : SlsOf w us pk)
    (hmf : mayF f = true) (hmg : mayF g = true) (hN : us.length ≤ 30) (hbig : ∀ l ∈ pk, l.length ≤ 140737488351232) :
    Calls Try.prog 3 #[.slice A f.length c, .slice B g.length d, .slice C us.length ec, .int .i64 acc] w fun e w' => e = .returned (.bool true) ∧ Below w.heap.size w w' := by
  have hlf := mayF_len hmf
  have hlg := mayF_len hmg
  have h1 : ¬ (20 : Int) < (f.length : Int) := by omega
  have h2 : ¬ (20 : Int) < (g.length : Int) := by omega
  have h3 := may4 A c f w hf (by omega)
  rw [hmf] at h3
  have h4 := may4 B d g w hg (by omega)
  rw [hmg] at h4
  have H3 := hid (h3.mono fun e w' ⟨he, hw⟩ => (⟨he, hw.symm⟩ : e = Ending.returned (.bool true) ∧ w = w'))
  have H4 := hid (h4.mono fun e w' ⟨he, hw⟩ => (⟨he, hw.symm⟩ : e = Ending.returned (.bool true) ∧ w = w'))
  have h5 : ¬ (30 : Int) < (us.length : Int) := by omega
  have h6 : decide ((30 : Int) < (us.length : Int)) = false := by simp; omega
  obtain ⟨n, hn, hacc⟩ : ∃ n : Nat, n < 8 ∧ (n : Int) = acc % 1024 % 8 := ⟨(acc % 1024 % 8).toNat, by omega, by omega⟩
  have hand := i64_and1023 acc
  have hnn : acc % 1024 % 8 = (n : Int) := hacc.symm
  have hge : 0 ≤ acc % 1024 := by omega
  have hmk : ∀ w, (Instr.makeSlice 26 (.int .i64 8) (.int .i64 8)).run Try.prog w = .ok (.slice (some ⟨w.heap.size, 0, none⟩) 8 8) (w.alloc (.cells #[.int .i64 0, .int .i64 0, .int .i64 0, .int .i64 0, .int .i64 0, .int .i64 0, .int .i64 0, .int .i64 0] 3)) := fun _ => by kernel_rfl
  have HF := hid hf
  have HG := hid hg
  have HC := hid hC
  have HU := hid hus
  have HMF := hid hmf
  have HMG := hid hmg
  have HB := hid hbig
  clear h3 h4 hmf hmg hf hg hC hus hbig hacc
  go_enter Try.func3, Try.ntmps3
  go_wp2_with fail
  refine H3.out.mono ?_
  rintro e w' ⟨rfl, rfl⟩
  go_wp2_with fail
  refine H4.out.mono ?_
  rintro e w' ⟨rfl, rfl⟩
  go_wp2_with fail
  rw [hnn]
  have hq0 : (w.alloc (.cells ([Value.int .i64 0, .int .i64 0, .int .i64 0, .int .i64 0, .int .i64 0, .int .i64 0, .int .i64 0, .int .i64 0].set n (.int .i64 4)).toArray 3)).heap[w.heap.size]? = some (.cells ([Value.int .i64 0, .int .i64 0, .int .i64 0, .int .i64 0, .int .i64 0, .int .i64 0, .int .i64 0, .int .i64 0].set n (.int .i64 4)).toArray 3 (0, 0)) := heap_alloc_new w _
  have hb0 := hid ((Below.refl _ w).alloc (Nat.le_refl _) (.cells ([Value.int .i64 0, .int .i64 0, .int .i64 0, .int .i64 0, .int .i64 0, .int .i64 0, .int .i64 0, .int .i64 0].set n (.int .i64 4)).toArray 3))
  generalize w.alloc (.cells ([Value.int .i64 0, .int .i64 0, .int .i64 0, .int .i64 0, .int .i64 0, .int .i64 0, .int .i64 0, .int .i64 0].set n (.int .i64 4)).toArray 3) = Wq at *
  have hq1 := quotas_sl w n hn Wq (by simpa using hq0)
  have hnew := new6 (some ⟨w.heap.size, 0, none⟩) 8 (quotasFor n) (n : Int) Wq (by rw [quotasFor_length]; exact hq1) (quotasFor_ok n hn)
  rw [quotasFor_length] at hnew
  clear hq0 hq1 hand hnn hge h1 h2 h5 h6 H3 H4
  refine hnew.mono ?_
  rintro e w1 ⟨PB, M, qv, rfl, hP1, hb1⟩
  have hs1 : Wq.heap.size ≤ w1.heap.size := hb1.size
  have hs0 : w.heap.size ≤ Wq.heap.size := hb0.out.size
  have hb1' := hid (hb0.out.trans (hb1.mono hs0))
  have hM1 : Wq.heap.size ≤ M := hP1.lo.2.1
  have hML : M < w1.heap.size := (Array.getElem?_eq_some_iff.1 hP1.mp).1
  have HP1 := hid hP1
  clear hb1 hP1 hnew hb0
  go_wp2_with fail
  refine (plain7 A c f w1 (HF.out.below hb1'.out (Nat.le_refl _)) HMF.out).mono ?_
  rintro e w2 ⟨v2, rfl, hb2, ho2⟩
  obtain ⟨PA, pc, rfl⟩ := own_form ho2
  have hs2 : w1.heap.size ≤ w2.heap.size := hb2.size
  have hb2' := hid (hb1'.out.trans (hb2.mono (by omega)))
  have HP2 := hid (HP1.out.fin (Fin'.of_below hb2) hML)
  have hL := law_one HMF.out
  have HO2 := hid ho2
  clear hb2 ho2 HP1 hb1'
  generalize (bothF f []).2 = pl at *
  generalize (bothF f []).1 = ev at *
  have HL := hid hL
  clear hL
  go_wp2_with fail
  refine (never8 A c f w2 (HF.out.below hb2'.out (Nat.le_refl _)) HMF.out).mono ?_
  rintro e w3 ⟨rfl, hb3⟩
  have hs3 : w2.heap.size ≤ w3.heap.size := hb3.size
  have hb3' := hid (hb2'.out.trans (hb3.mono (by omega)))
  have HP3 := hid (HP2.out.fin (Fin'.of_below hb3) (by omega))
  have HO3 := hid (own_below HO2.out hb3 (Nat.le_refl _))
  clear hb3 HP2 HO2 hb2'
  generalize (bytesF f).2 = bf at *
  go_upto_region 11 with fail
  go_cut [98] from 83 to 98 (fun s wx => s = .bool false ∧ wx = w3)
  case first =>
    rcases HL.out with ⟨hb, he, _, _⟩ | ⟨hb, he, _⟩
    · subst hb; subst he
      go_wp2_with fail
      go_meet
      exact ⟨rfl, rfl⟩
    · subst hb; subst he
      go_wp2_with fail
      go_meet
      exact ⟨rfl, rfl⟩
  case rest =>
  obtain ⟨rfl, rfl⟩ := hcut
  go_upto_if 99 with fail
  go_cut [13] from 99 to 100 (fun s wx => PlainIs f wc s ∧ wx = wc)
  case first =>
    rcases HL.out with ⟨hb, he, hm1, hm2⟩ | ⟨hb, he, hm2⟩
    · subst hb; subst he
      have HM1 := hid hm1
      have HM2 := hid hm2
      clear hm1 hm2
      go_wp2_with fail
      go_meet
      exact ⟨⟨PA, pc, pl, rfl, Sl.of_own HO3.out, HM1.out, HM2.out⟩, rfl⟩
    · subst hb; subst he
      clear hm2
      go_wp2_with fail
      go_meet
      exact ⟨⟨A, c, f, rfl, HF.out.below hb3'.out (Nat.le_refl _), HMF.out, fun _ => rfl⟩, rfl⟩
  case rest =>
  obtain ⟨⟨XA, xc, xl, rfl, hxs, hxm, hxl⟩, rfl⟩ := hcut
  go_wp2_with fail
  refine (both9 A c f B d g wc (HF.out.below hb3'.out (Nat.le_refl _)) (HG.out.below hb3'.out (Nat.le_refl _)) HMF.out HMG.out).mono ?_
  rintro e w4 ⟨v4, rfl, hb4, ho4⟩
  obtain ⟨YA, yc, rfl⟩ := own_form ho4
  have hs4 : wc.heap.size ≤ w4.heap.size := hb4.size
  have hb4' := hid (hb3'.out.trans (hb4.mono (by omega)))
  have HP4 := hid (HP3.out.fin (Fin'.of_below hb4) (by omega))
  have HX4 := hid (hxs.below hb4 (Nat.le_refl _))
  have HY4 := hid (Sl.of_own ho4)
  have HXM := hid hxm
  have HXL := hid hxl
  have HBI := hid (both_is HMF.out HMG.out)
  clear hb4 ho4 hxs hxm hxl HP3 HO3 hb3'
  generalize (bothF f g).2 = yl at *
  generalize (bothF f g).1 = iv at *
  go_upto_region 16 with fail
  go_cut [116] from 107 to 116 (fun s wx => s = .bool false ∧ wx = w4)
  case first =>
    obtain ⟨_, h⟩ := HBI.out
    rcases h with ⟨h, _⟩ | ⟨h, _⟩ | h
    all_goals
      subst h
      go_wp2_with fail
      go_meet
      exact ⟨rfl, rfl⟩
  case rest =>
  obtain ⟨rfl, rfl⟩ := hcut
  go_wp2_with fail
  have hcl0 : ClInv w Wq.heap.size PB M qv n [⟨A, c, f⟩, ⟨XA, xc, xl⟩, ⟨B, d, g⟩, ⟨YA, yc, yl⟩] wc.heap.size 0 (wc.alloc (.cells #[.slice A f.length c, .slice XA xl.length xc, .slice B g.length d, .slice YA yl.length yc] 22)) := by
    refine ⟨⟨[], HP4.out.fin ((Fin'.refl (M + 1) _).alloc _) (Nat.lt_succ_self M)⟩, heap_alloc_new wc _, ?_, hb4'.out.alloc hb4'.out.size _, by simp; omega⟩
    intro t ht
    simp only [List.mem_cons, List.not_mem_nil, or_false] at ht
    rcases ht with rfl | rfl | rfl | rfl
    · exact (HF.out.below hb4'.out (Nat.le_refl _)).alloc _
    · exact HX4.out.alloc _
    · exact (HG.out.below hb4'.out (Nat.le_refl _)).alloc _
    · exact HY4.out.alloc _
  have HMAY : Hid (∀ t ∈ ([⟨A, c, f⟩, ⟨XA, xc, xl⟩, ⟨B, d, g⟩, ⟨YA, yc, yl⟩] : List Filt), mayF t.l = true) := by
    intro t ht
    simp only [List.mem_cons, List.not_mem_nil, or_false] at ht
    rcases ht with rfl | rfl | rfl | rfl
    · exact HMF.out
    · exact HXM.out
    · exact HMG.out
    · exact HBI.out.1
  generalize hft : ([⟨A, c, f⟩, ⟨XA, xc, xl⟩, ⟨B, d, g⟩, ⟨YA, yc, yl⟩] : List Filt) = ft at hcl0 HMAY
  have HCL0 := hid hcl0
  have hft4 : ft.length = 4 := by rw [← hft]; rfl
  have HFT := hid hft4
  have HFTE := hid hft
  clear hcl0 hft4 hft
  go_loopw [123] (fun i wr => ∃ k : Nat, k ≤ 4 ∧ i = .int .i64 k ∧ ClInv w Wq.heap.size PB M qv n ft wc.heap.size k wr) (fun i _ => 4 - (intOf i).toNat)
  case atStart => exact ⟨0, by omega, rfl, HCL0.out⟩
  case round =>
    clear HCL0
    obtain ⟨k, hk, rfl, hinv⟩ := hrel
    by_cases hlt : k < 4
    · obtain ⟨t, ht⟩ : ∃ t, ft[k]? = some t := ⟨_, List.getElem?_eq_getElem (by rw [HFT.out]; exact hlt)⟩
      obtain ⟨xs, hps⟩ := hinv.pa
      have htm := List.mem_of_getElem? ht
      have hpl : (portsOf n ((ft.map (·.l)).take k) []).length = k := by rw [portsOf_length, List.length_take, List.length_map, HFT.out]; omega
      have hcc := hid ((claim10 hps hinv.lo t.A t.c t.l (hinv.fs t htm) (HMAY.out t htm) (by omega) (by rw [quotasFor_length]; omega) 4 (by simpa using quotasFor_at n hn) (by omega) (by omega)).mono fun e w' h =>
        (⟨by have := h.1; rw [hpl] at this; exact this, hinv.step ht hs0 hps h⟩ : e = Ending.returned (.tuple #[.int .i64 (k : Int), .int .i64 0]) ∧ ClInv w Wq.heap.size PB M qv n ft wc.heap.size (k + 1) w'))
      have hcell : wr.cell? ⟨wc.heap.size, k, none⟩ = some (.slice t.A t.l.length t.c) := by
        rw [hinv.blk.cell k, List.getElem?_toArray, List.getElem?_map, ht]; rfl
      clear hinv hps htm hpl ht
      obtain ⟨tA, tc, tl⟩ := t
      dsimp only at hcell hcc
      go_wp2_with fail
      refine hcc.out.mono ?_
      rintro e w5 ⟨rfl, h5⟩
      have H5 := hid h5
      clear h5 hcc hcell
      go_wp2_with fail
      exact ⟨⟨k + 1, by omega, by go_num, H5.out⟩, by simp [intOf]; omega⟩
    · obtain rfl : k = 4 := by omega
      obtain ⟨xs, hps⟩ := hinv.pa
      have hbl := hid hinv.bel
      have hlo := hinv.lo
      have hxs : xs.length = 4 := by rw [hps.len, portsOf_length, List.length_take, List.length_map, HFT.out]; rfl
      rw [List.take_of_length_le (by rw [List.length_map, HFT.out]; exact Nat.le_refl _)] at hps
      have HPS := hid hps
      have HXS := hid hxs
      clear hinv hps hxs hlt hk
      go_wp2_with fail
      have hrd0 : RdInv w Wq.heap.size PB M qv n xs (ft.map (·.l)) f g [] (.slice none 0 0) wr := ⟨HPS.out, ⟨[], World.ownsRow_nil _ _ _ _, ⟨rfl, fun i l h => by simp [wantL] at h⟩⟩, hbl.out⟩
      have HRD0 := hid hrd0
      have hpkN := hid HU.out.len
      have hts : Hid (∀ t ∈ ft.map (·.l), t.length ≤ 64) := by
        intro t ht
        obtain ⟨x, hx, rfl⟩ := List.mem_map.1 ht
        have := mayF_len (HMAY.out x hx)
        omega
      have hsw : w.heap.size ≤ wr.heap.size := hbl.out.size
      clear hrd0 hbl hlo
      obtain ⟨wo, rfl⟩ : ∃ wo : World, wo = wr := ⟨_, rfl⟩
      go_loopw [22, 23] (fun v i wx => ∃ k : Nat, k ≤ us.length ∧ i = .int .i64 k ∧ RdInv w Wq.heap.size PB M qv n xs (ft.map (·.l)) f g (pk.take k) v wx) (fun _ i _ => us.length - (intOf i).toNat)
      case atStart => exact ⟨0, Nat.zero_le _, rfl, HRD0.out⟩
      case round =>
        clear HRD0
        clear hsw
        obtain ⟨k, hk, rfl, hrd⟩ := hrel
        by_cases hlt : k < us.length
        · obtain ⟨l, hl⟩ : ∃ l, pk[k]? = some l := ⟨_, List.getElem?_eq_getElem (by rw [← hpkN.out]; exact hlt)⟩
          obtain ⟨lA, lc, hu, hsl⟩ := HU.out.at_ k l hl
          obtain ⟨cb, co, hCe, _, hcc⟩ := (HC.out.below hrd.bel (Nat.le_refl _)).at_ (by omega)
          subst hCe
          have c1 := hcc k _ hu
          have htake := hid (show pk.take (k + 1) = pk.take k ++ [l] by rw [List.take_add_one, hl]; rfl)
          have hlb := HB.out l (List.mem_of_getElem? hl)
          have hkl := hid (show (pk.take k).length ≤ 4096 by have := List.length_take_le k pk; omega)
          obtain ⟨i5, hi5, hz5, hs5, hb5⟩ := info_parts info5
          have hown0 := World.ownsRow_made (base := wr.heap.size) (e := 5) (size := 1) wr #[] 0 (Nat.le_refl _) (by unfold maxLen; omega) (by simp)
          have hslr := (hsl.below hrd.bel (Nat.le_refl _)).alloc (.cells #[] 5)
          have HRD := hid hrd
          have HSL := hid hsl
          have hsr := hrd.bel.size
          clear hrd hu hcc hl hsl
          go_wp2_with (at_builtin; refine wpList_append_sl _ rfl (.tmp 155) (.tmp 156) 39 rfl wr.heap.size 5 i5 _ 1 1 Try.underlying39 hi5 hz5 hs5 hb5 rfl (by omega) _ 0 [] rfl hown0 lA l.length lc (bcells l) rfl hslr (bcells_one l) (by unfold maxLen; omega) (by omega) (by simp) ?_; intro v1 w1 hown1 hg1 hat1)
          rw [Nat.zero_add, List.nil_append] at hown1
          obtain ⟨A1, c1', rfl⟩ := own_form hown1
          have hbw1 : Below wr.heap.size wr w1 := ((Below.refl _ wr).alloc (Nat.le_refl _) _).grown hg1 (by simp) (fun j hj => by cases hj; exact Nat.le_refl _)
          have HR1 := hid (HRD.out.frame hbw1)
          have HO1 := hid (own_base hown1 (Nat.zero_le _))
          have hs1' : wr.heap.size ≤ w1.heap.size := hbw1.size
          clear hown1 hg1 hat1 hbw1 hown0 hslr c1 hi5 hz5 hs5 hb5
          by_cases hlong : 64 < l.length
          · refine (come11_long HR1.out.pa A1 l.length c1' hlong).mono ?_
            rintro e w2 ⟨rfl, hb2⟩
            have HR2 := hid ((HR1.out.frame hb2).skip (l := l) (by simp [forN]; omega))
            have hl64 : (64 : Int) < (l.length : Int) := by omega
            clear hb2 hlong
            go_wp2_with fail
            refine ⟨⟨_, _, _, _, _, _, _, _, _, _, _, _, _, _, _, _, _, _, _, _, _, _, _, _, _, _, _, _, _, _, _, _, _, _, _, _, _, _, _, _, _, _, _, _, _, _, _, _, _, _, _, _, _, _, _, _, _, _, _, _, _, _, _, _, _, _, _, _, _, _, _, _, _, _, _, _, _, _, _, ⟨k + 1, by omega, by go_num, ?_⟩, rfl⟩, by simp [intOf]; omega⟩
            rw [htake.out]; exact HR2.out
          · refine (come_all HR1.out.pa A1 c1' l HO1.out (by omega) (by rw [HXS.out]; omega) hkl.out hts.out).mono ?_
            rintro e w2 hca
            have HM2 := hid (HR1.out.come hs0 hca)
            obtain ⟨cA, cm, cc, rfl, hcm, hcm2, _, hkb⟩ := hca
            have hl64 : ¬ (64 : Int) < (l.length : Int) := by omega
            have hll : l.length ≤ 64 := by omega
            have hs2' : w1.heap.size ≤ w2.heap.size := hkb.size
            clear hkb hlong
            have hslb := fun (W : World) (hW : Below w.heap.size w W) => HSL.out.below hW (Nat.le_refl _)
            have HSLB := hid hslb
            clear hslb
            by_cases hh : homeOf l = some n
            · obtain ⟨h0, h1⟩ := home_yes hh
              have h0' : (0 : Int) < (l.length : Int) := by omega
              have hfn := hid (show forN n l = true by simp [forN, hh, hll])
              have HD := hid (show decide (homeOf l = some n) = true by simp [hh])
              obtain ⟨bb, bo, hbe, hbc⟩ := Sl.head (HSLB.out w2 HM2.out.bel) h0
              subst hbe
              have hb256 := byte_lt (l.getD 0 0)
              generalize (l.getD 0 0).toNat = b0 at *
              have hbn : ((b0 : Int) == (n : Int)) = true := by simp [h1]
              have hM1 := match12 A c f (some ⟨bb, bo, none⟩) lc l w2 (by omega) (HF.out.below HM2.out.bel (Nat.le_refl _)) (HSLB.out w2 HM2.out.bel)
              clear hcm hcm2 h1 h0 hh
              cases hmfl : matchF f l with
              | false =>
                rw [hmfl] at hM1
                have HM1 := hid hM1
                have HMFL := hid hmfl
                clear hmfl hM1
                go_wp2_with fail
                refine HM1.out.mono ?_
                rintro e w3 ⟨rfl, hb3⟩
                have HR3 := hid ((HM2.out.frame hb3).done (by rw [HMFL.out]; simp))
                clear hb3 HM1 hbc
                go_wp2_with fail
                refine (match_own hn hll lc (HSLB.out w3 HR3.out.bel) HD.out).mono ?_
                rintro e w4 ⟨rfl, hb4⟩
                have HR4 := hid (HR3.out.frame hb4)
                clear hb4
                go_wp2_with fail
                refine ⟨⟨_, _, _, _, _, _, _, _, _, _, _, _, _, _, _, _, _, _, _, _, _, _, _, _, _, _, _, _, _, _, _, _, _, _, _, _, _, _, _, _, _, _, _, _, _, _, _, _, _, _, _, _, _, _, _, _, _, _, _, _, _, _, _, _, _, _, _, _, _, _, _, _, _, _, _, _, _, _, _, ⟨k + 1, by omega, by go_num, ?_⟩, rfl⟩, by simp [intOf]; omega⟩
                rw [htake.out]; exact HR4.out
              | true =>
                rw [hmfl] at hM1
                have HM1 := hid hM1
                have HMFL := hid hmfl
                clear hmfl hM1
                go_wp2_with fail
                refine HM1.out.mono ?_
                rintro e w3 ⟨rfl, hb3⟩
                have HM3 := hid (HM2.out.frame hb3)
                have hM2 := match12 B d g (some ⟨bb, bo, none⟩) lc l w3 (by omega) (HG.out.below HM3.out.bel (Nat.le_refl _)) (HSLB.out w3 HM3.out.bel)
                clear hb3 HM1 hbc
                cases hmgl : matchF g l with
                | false =>
                  rw [hmgl] at hM2
                  have HMG2 := hid hM2
                  have HMGL := hid hmgl
                  clear hmgl hM2
                  go_wp2_with fail
                  refine HMG2.out.mono ?_
                  rintro e w4 ⟨rfl, hb4⟩
                  have HR4 := hid ((HM3.out.frame hb4).done (by rw [HMGL.out]; simp))
                  clear hb4 HMG2
                  go_wp2_with fail
                  refine (match_own hn hll lc (HSLB.out w4 HR4.out.bel) HD.out).mono ?_
                  rintro e w5 ⟨rfl, hb5⟩
                  have HR5 := hid (HR4.out.frame hb5)
                  clear hb5
                  go_wp2_with fail
                  refine ⟨⟨_, _, _, _, _, _, _, _, _, _, _, _, _, _, _, _, _, _, _, _, _, _, _, _, _, _, _, _, _, _, _, _, _, _, _, _, _, _, _, _, _, _, _, _, _, _, _, _, _, _, _, _, _, _, _, _, _, _, _, _, _, _, _, _, _, _, _, _, _, _, _, _, _, _, _, _, _, _, _, ⟨k + 1, by omega, by go_num, ?_⟩, rfl⟩, by simp [intOf]; omega⟩
                  rw [htake.out]; exact HR5.out
                | true =>
                  rw [hmgl] at hM2
                  have HMG2 := hid hM2
                  have HMGL := hid hmgl
                  clear hmgl hM2
                  go_wp2_with fail
                  refine HMG2.out.mono ?_
                  rintro e w4 ⟨rfl, hb4⟩
                  have HM4 := hid (HM3.out.frame hb4)
                  obtain ⟨vs, how, hwt⟩ := HM4.out.wt
                  obtain ⟨i39, hi39, hz39, hs39, hb39⟩ := info_parts info39
                  have hwl : (wantL n f g (pk.take k)).length ≤ 4096 := Nat.le_trans (List.length_filter_le _ _) hkl.out
                  have hoa := how.alloc (.cells #[.slice (some ⟨bb, bo, none⟩) l.length lc] 39)
                  have hslo := Sl.one w4 (.slice (some ⟨bb, bo, none⟩) l.length lc) 39
                  have hsw4 : w.heap.size ≤ w4.heap.size := HM4.out.bel.size
                  have HOW := hid how
                  have HWT := hid hwt
                  clear hb4 HMG2 how hwt
                  go_wp2_with (at_builtin; refine wpList_append_sl _ rfl (.tmp 195) (.tmp 197) 23 rfl w.heap.size 39 i39 _ 1 24 Try.underlying23 hi39 hz39 hs39 hb39 rfl (by omega) _ _ _ rfl hoa _ 1 1 _ rfl hslo (by simp [Value.oneCell']) (by unfold maxLen; omega) (by omega) (by simp; omega) ?_; intro v5 w5 hown5 hg5 hat5)
                  have HR5 := hid (HM4.out.want (by rw [hfn.out, HMFL.out, HMGL.out]; rfl) HSL.out HOW.out HWT.out _ rfl hown5 hg5)
                  clear hown5 hg5 hat5 hoa hslo hi39 hz39 hs39 hb39
                  refine (match_own hn hll lc (HSLB.out w5 HR5.out.bel) HD.out).mono ?_
                  rintro e w6 ⟨rfl, hb6⟩
                  have HR6 := hid (HR5.out.frame hb6)
                  clear hb6
                  go_wp2_with fail
                  refine ⟨⟨_, _, _, _, _, _, _, _, _, _, _, _, _, _, _, _, _, _, _, _, _, _, _, _, _, _, _, _, _, _, _, _, _, _, _, _, _, _, _, _, _, _, _, _, _, _, _, _, _, _, _, _, _, _, _, _, _, _, _, _, _, _, _, _, _, _, _, _, _, _, _, _, _, _, _, _, _, _, _, ⟨k + 1, by omega, by go_num, ?_⟩, rfl⟩, by simp [intOf]; omega⟩
                  rw [htake.out]; exact HR6.out
            · obtain rfl : cm = 0 := by
                rcases hcm with h | h
                · exact absurd h hh
                · exact h
              have HNX := hid (HM2.out.done (by rw [show forN n l = false by simp [forN, hh]]; rfl))
              have HD := hid (show decide (homeOf l = some n) = false by simp [hh])
              have hmo := hid (match_own hn hll lc (HSLB.out w2 HNX.out.bel) HD.out)
              clear hcm hcm2
              rcases home_no hn hh with h0 | ⟨h0, h1⟩
              · have h0' : ¬ (0 : Int) < (l.length : Int) := by omega
                clear hh h0
                go_wp2_with fail
                refine hmo.out.mono ?_
                rintro e w3 ⟨rfl, hb3⟩
                have HR3 := hid (HNX.out.frame hb3)
                clear hb3 hmo
                go_wp2_with fail
                refine ⟨⟨_, _, _, _, _, _, _, _, _, _, _, _, _, _, _, _, _, _, _, _, _, _, _, _, _, _, _, _, _, _, _, _, _, _, _, _, _, _, _, _, _, _, _, _, _, _, _, _, _, _, _, _, _, _, _, _, _, _, _, _, _, _, _, _, _, _, _, _, _, _, _, _, _, _, _, _, _, _, _, ⟨k + 1, by omega, by go_num, ?_⟩, rfl⟩, by simp [intOf]; omega⟩
                rw [htake.out]; exact HR3.out
              · have h0' : (0 : Int) < (l.length : Int) := by omega
                obtain ⟨bb, bo, hbe, hbc⟩ := Sl.head (HSLB.out w2 HNX.out.bel) h0
                subst hbe
                have hb256 := byte_lt (l.getD 0 0)
                generalize (l.getD 0 0).toNat = b0 at *
                have hbn : ((b0 : Int) == (n : Int)) = false := by simp; omega
                clear hh h0 h1
                go_wp2_with fail
                refine hmo.out.mono ?_
                rintro e w3 ⟨rfl, hb3⟩
                have HR3 := hid (HNX.out.frame hb3)
                clear hb3 hmo hbc
                go_wp2_with fail
                refine ⟨⟨_, _, _, _, _, _, _, _, _, _, _, _, _, _, _, _, _, _, _, _, _, _, _, _, _, _, _, _, _, _, _, _, _, _, _, _, _, _, _, _, _, _, _, _, _, _, _, _, _, _, _, _, _, _, _, _, _, _, _, _, _, _, _, _, _, _, _, _, _, _, _, _, _, _, _, _, _, _, _, ⟨k + 1, by omega, by go_num, ?_⟩, rfl⟩, by simp [intOf]; omega⟩
                rw [htake.out]; exact HR3.out
        · obtain rfl : k = us.length := by omega
          rw [List.take_of_length_le (by rw [hpkN.out]; exact Nat.le_refl _)] at hrd
          obtain ⟨vs, how, hwt⟩ := hrd.wt
          obtain ⟨wA, wC, rfl⟩ := own_form how
          have hpa := hrd.pa
          rw [← HFTE.out] at hpa
          obtain ⟨X0, X1, X2, X3, hxe⟩ : ∃ a b c d, xs = [a, b, c, d] := by
            have := HXS.out
            match xs, this with
            | [a, b, c, d], _ => exact ⟨a, b, c, d, rfl⟩
          subst hxe
          have hMw : M < wr.heap.size := (Array.getElem?_eq_some_iff.1 hpa.mp).1
          have hr0 := hid (ring13 hpa 0 X0 (portOf n f pk) rfl rfl (by omega) (by rw [quotasFor_length]; omega))
          have HPA := hid hpa
          have HOW := hid how
          have HWT := hid hwt
          have HBL := hid hrd.bel
          have hsw4 : w.heap.size ≤ wr.heap.size := hrd.bel.size
          clear hrd how hwt hpa hk hlt
          go_wp2_with fail
          refine hr0.out.mono ?_
          rintro e W1 ⟨v1, vs1, rfl, ho1, hw1, hb1⟩
          obtain ⟨A1, c1, rfl⟩ := own_form ho1
          have HPA1 := hid (HPA.out.fin (Fin'.of_below hb1) hMw)
          have hr1 := hid (ring13 HPA1.out 1 X1 (portOf n xl pk) rfl rfl (by omega) (by rw [quotasFor_length]; omega))
          have hz1 : wr.heap.size ≤ W1.heap.size := hb1.size
          have HO1 := hid ho1
          have HW1 := hid (SlsOf.of_rows hw1)
          have HB1 := hid (HBL.out.trans (hb1.mono hsw4))
          have HOW1 := hid (own_below HOW.out hb1 (Nat.le_refl _))
          clear ho1 hw1 hb1 hr0 HPA HOW HBL
          go_wp2_with fail
          refine hr1.out.mono ?_
          rintro e W2 ⟨v2, vs2, rfl, ho2, hw2, hb2⟩
          obtain ⟨A2, c2, rfl⟩ := own_form ho2
          have HPA2 := hid (HPA1.out.fin (Fin'.of_below hb2) (by omega))
          have hr2 := hid (ring13 HPA2.out 3 X3 (portOf n yl pk) rfl rfl (by omega) (by rw [quotasFor_length]; omega))
          have hz2 : W1.heap.size ≤ W2.heap.size := hb2.size
          have HO2 := hid ho2
          have HW2 := hid (SlsOf.of_rows hw2)
          have HB2 := hid (HB1.out.trans (hb2.mono (show w.heap.size ≤ W1.heap.size by omega)))
          have HO12 := hid (own_below HO1.out hb2 (Nat.le_refl _))
          have HW12 := hid (HW1.out.below hb2)
          have HOW2 := hid (own_below HOW1.out hb2 (Nat.le_refl _))
          clear ho2 hw2 hb2 hr1 HPA1 HO1 HW1 HB1 HOW1
          go_wp2_with fail
          refine hr2.out.mono ?_
          rintro e W3 ⟨v3, vs3, rfl, ho3, hw3, hb3⟩
          obtain ⟨A3, c3, rfl⟩ := own_form ho3
          have HPA3 := hid (HPA2.out.fin (Fin'.of_below hb3) (by omega))
          have hz3 : W2.heap.size ≤ W3.heap.size := hb3.size
          have HO3 := hid ho3
          have HW3 := hid (SlsOf.of_rows hw3)
          have HB3 := hid (HB2.out.trans (hb3.mono (show w.heap.size ≤ W2.heap.size by omega)))
          have HO13 := hid (own_below HO12.out hb3 (Nat.le_refl _))
          have HW13 := hid (HW12.out.below hb3)
          have HO23 := hid (own_below HO2.out hb3 (Nat.le_refl _))
          have HW23 := hid (HW2.out.below hb3)
          have HOW3 := hid (own_below HOW2.out hb3 (Nat.le_refl _))
          clear ho3 hw3 hb3 hr2 HPA2 HO12 HW12 HO2 HW2 HB2 HOW2
          -- what the rings are
          have hq0 : (portOf n f pk).ring.length ≤ 8 := by show ((passL n f pk).take 8).length ≤ 8; rw [List.length_take]; omega
          have e1 : (portOf n xl pk).ring = (portOf n f pk).ring := by show (passL n xl pk).take 8 = (passL n f pk).take 8; rw [passL_congr pk HXL.out]
          have e2 : (portOf n xl pk).lost = (portOf n f pk).lost := by show (passL n xl pk).length - 8 = (passL n f pk).length - 8; rw [passL_congr pk HXL.out]
          have hsm := same_rows HO13.out HO23.out HW13.out HW23.out (by omega) (by rw [e1]; omega)
          rw [decide_eq_true e1.symm] at hsm
          have hl0 := fun W (hb : Below W3.heap.size W3 W) => lost15 (HPA3.out.fin (Fin'.of_below hb) (by omega)) 0 (portOf n f pk) rfl (by omega) (by rw [quotasFor_length]; omega)
          have hl1 := fun W (hb : Below W3.heap.size W3 W) => lost15 (HPA3.out.fin (Fin'.of_below hb) (by omega)) 1 (portOf n xl pk) rfl (by omega) (by rw [quotasFor_length]; omega)
          rw [e2] at hl1
          have HSM := hid hsm
          have HL0 := hid hl0
          have HL1 := hid hl1
          have HE1 := hid e1
          have hnev : Hid (bf = false → (portOf n f pk).ring.length = 0) := by
            intro hb
            rcases HL.out with ⟨h, _⟩ | ⟨_, _, h⟩
            · rw [h] at hb; cases hb
            · show ((passL n f pk).take 8).length = 0
              rw [passL_none pk h]; rfl
          have h210 : Hid (iv = 210 → (wantL n f g pk).length = 0) := by
            intro hb
            rcases HBI.out.2 with ⟨h, _⟩ | ⟨_, h⟩ | h
            · omega
            · rw [wantL_none pk h]; rfl
            · omega
          have hi0 : Hid (iv = 0 → (wantL n f g pk).length ≤ 8 → (portOf n yl pk).ring = wantL n f g pk) := by
            intro hb hw
            rcases HBI.out.2 with ⟨_, h⟩ | ⟨h, _⟩ | h
            · show (passL n yl pk).take 8 = _
              rw [wantL_of pk h]
              exact List.take_of_length_le hw
            · omega
            · omega
          have hwlen : (wantL n f g pk).length ≤ 4096 := by
            have h1 : (wantL n f g pk).length ≤ pk.length := List.length_filter_le _ _
            have h2 := hpkN.out
            omega
          have hx3 : (portOf n yl pk).ring.length ≤ 8 := by show ((passL n yl pk).take 8).length ≤ 8; rw [List.length_take]; omega
          have HWTB := hid (HWT.out.below (HB3.out.mono (Nat.le_refl _)))
          clear hsm hl0 hl1 e1 e2 HPA3 HWT
          generalize (portOf n f pk).ring = r0 at *
          generalize (portOf n xl pk).ring = r1 at *
          generalize (portOf n yl pk).ring = r3 at *
          generalize (portOf n f pk).lost = lo at *
          generalize wantL n f g pk = wl at *
          go_upto_region 42 with fail
          go_cut [244] from 224 to 244 (fun s wx => s = .bool false ∧ Below W3.heap.size W3 wx)
          case first =>
            cases bf with
            | true =>
              go_wp2_with fail
              refine HSM.out.mono ?_
              rintro e W4 ⟨rfl, hb4⟩
              have H4 := hid hb4
              clear hb4
              go_wp2_with fail
              refine (HL0.out W4 H4.out).mono ?_
              rintro e w' ⟨rfl, rfl⟩
              go_wp2_with fail
              refine (HL1.out W4 H4.out).mono ?_
              rintro e w' ⟨rfl, rfl⟩
              go_wp2_with fail
              go_meet
              exact ⟨rfl, H4.out⟩
            | false =>
              have h0 := hnev.out rfl
              have h0' : decide (0 < r0.length) = false := by simp; exact List.eq_nil_of_length_eq_zero h0
              clear h0
              go_wp2_with fail
              refine HSM.out.mono ?_
              rintro e W4 ⟨rfl, hb4⟩
              have H4 := hid hb4
              clear hb4
              go_wp2_with fail
              refine (HL0.out W4 H4.out).mono ?_
              rintro e w' ⟨rfl, rfl⟩
              go_wp2_with fail
              refine (HL1.out W4 H4.out).mono ?_
              rintro e w' ⟨rfl, rfl⟩
              go_wp2_with fail
              go_meet
              exact ⟨rfl, H4.out⟩
          case rest =>
          obtain ⟨rfl, hb4⟩ := hcut
          have H4 := hid hb4
          clear hb4 HSM HL0 HL1
          obtain ⟨W4, rfl⟩ : ∃ W4 : World, W4 = wc := ⟨_, rfl⟩
          go_upto_region 44 with fail
          go_cut [251] from 245 to 251 (fun s wx => s = .bool false ∧ wx = W4)
          case first =>
            by_cases hi : iv = 210
            · have hw := h210.out hi
              have hb1 : ((iv : Int) == 210) = true := by simp [hi]
              have hw' : decide (0 < wl.length) = false := by simp; exact List.eq_nil_of_length_eq_zero hw
              clear hw hi
              go_wp2_with fail
              go_meet
              exact ⟨rfl, rfl⟩
            · have hb1 : ((iv : Int) == 210) = false := by simp [hi]
              clear hi
              go_wp2_with fail
              go_meet
              exact ⟨rfl, rfl⟩
          case rest =>
          obtain ⟨rfl, rfl⟩ := hcut
          obtain ⟨W5, rfl⟩ : ∃ W5 : World, W5 = wc := ⟨_, rfl⟩
          go_upto_region 46 with fail
          go_cut [264] from 252 to 264 (fun s wx => s = .bool false ∧ Below W5.heap.size W5 wx)
          case first =>
            by_cases hi : iv = 0
            · have hb1 : ((iv : Int) == 0) = true := by simp [hi]
              by_cases hw : wl.length ≤ 8
              · have hr := hi0.out hi hw
                have hw' : (wl.length : Int) ≤ 8 := by omega
                have hsm := same_rows (own_below HO3.out H4.out (Nat.le_refl _)) (own_below HOW3.out H4.out (Nat.le_refl _)) (HW3.out.below H4.out) (HWTB.out.below H4.out) (by omega) hwlen
                rw [decide_eq_true hr] at hsm
                have HSM := hid hsm
                clear hsm hr hi hw
                go_wp2_with fail
                refine HSM.out.mono ?_
                rintro e W6 ⟨rfl, hb6⟩
                have H6 := hid hb6
                clear hb6
                go_wp2_with fail
                go_meet
                exact ⟨rfl, H6.out⟩
              · have hw' : ¬ (wl.length : Int) ≤ 8 := by omega
                clear hi hw
                go_wp2_with fail
                go_meet
                exact ⟨rfl, Below.refl _ _⟩
            · have hb1 : ((iv : Int) == 0) = false := by simp [hi]
              clear hi
              go_wp2_with fail
              go_meet
              exact ⟨rfl, Below.refl _ _⟩
          case rest =>
          obtain ⟨rfl, hb6⟩ := hcut
          have HF6 := hid (HB3.out.trans ((H4.out.mono (by omega)).trans (hb6.mono (show w.heap.size ≤ W5.heap.size by have := H4.out.size; omega))))
          have hz6 : w.heap.size ≤ wc.heap.size := HF6.out.size
          have hcm := hid (coming5 wc)
          clear hb6
          go_wp2_with fail
          refine hcm.out.mono ?_
          rintro e w7 ⟨rfl, hb7⟩
          have H7 := hid (HF6.out.trans (hb7.mono hz6))
          clear hb7
          go_wp2_with fail
          go_ret
          exact ⟨rfl, H7.out⟩
end Go.Proofs.Ythgfmkdgemepnaa
