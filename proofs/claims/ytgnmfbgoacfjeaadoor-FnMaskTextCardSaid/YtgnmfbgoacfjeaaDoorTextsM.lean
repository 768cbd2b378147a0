/-
  Contracts: MaskText of the program and of the reference.
-/
import Derived.Test.YtgnmfbgoacfjeaaDoorTexts
import Derived.Test.YtgnmfbgoacfjeaaDoorMask
namespace Go.Proofs.YtgnmfbgoacfjeaaDoor
open Go.RowKit
open Go.TextMath (text line rowW cellW word tvB mvB)

theorem maskTextI (ao : Option Addr) (b off cap : Nat) (T : List (List Int)) (am : Option Addr) (bm om cm : Nat) (M : List (List Bool)) (w : World) (hr : Tab .i64 w ao b off T) (hl : T.length ≤ 9223372036854775807)
    (hm : TabB w am bm om M) (hlm : M.length ≤ cm ∧ cm ≤ 9223372036854775807) (ht : PowTab w) :
    Calls Tryd.prog 25 #[.slice ao T.length cap, .slice am M.length cm] w fun e w' => e = .returned (.string (mt T M)) ∧ Below w.heap.size w w' := by
  have HR := Lib.hid hr
  have HP := Lib.hid ht
  have HM := Lib.hid hm
  obtain ⟨hlm1, hlm2⟩ := hlm
  clear hr ht hm
  cases hv : mvB T M with
  | false =>
    have HT := Lib.hid (mt_f hv)
    go_enter Tryd.func25, Tryd.ntmps25
    go_wp2_with fail
    refine (maskValidI ao b off cap T am bm om cm M w HR.out hl HM.out (by omega)).mono ?_
    rintro e w' ⟨rfl, rfl⟩
    go_wp2_with fail
    go_ret
    exact ⟨by rw [HT.out]; rfl, Below.refl _ _⟩
  | true =>
    have HT := Lib.hid (mt_t hv)
    have HF := Lib.hid (tv_fit (mv_tv hv))
    have HMK : Hid (Mk w (.slice am M.length cm) T M) := by
      obtain ⟨h1, h2, h3⟩ := mv_t.1 hv
      obtain ⟨t1, t2, t3, t4, t5⟩ := tv_t.1 h1
      obtain rfl := HM.out.1 (by omega)
      refine .inr ⟨bm, om, cm, by rw [h2], by omega, hlm2, HM.out, h2, fun i hi => ?_⟩
      rw [h3 i (by omega), (t5 i hi).1]
    go_enter Tryd.func25, Tryd.ntmps25
    go_wp2_with fail
    refine (maskValidI ao b off cap T am bm om cm M w HR.out hl HM.out (by omega)).mono ?_
    rintro e w' ⟨rfl, rfl⟩
    go_wp2_with fail
    refine (cellsI ao b off cap T _ M w HR.out HF.out HMK.out HP.out).mono ?_
    rintro e w1 ⟨rfl, hb⟩
    have HB := Lib.hid hb
    clear hb
    go_wp2_with fail
    go_ret
    exact ⟨by rw [HT.out]; rfl, HB.out⟩

set_option maxHeartbeats 2000000 in
theorem maskTextS (ao : Option Addr) (b off cap : Nat) (T : List (List Int)) (am : Option Addr) (bm om cm : Nat) (M : List (List Bool)) (w : World) (hr : Tab .i64 w ao b off T) (hl : T.length ≤ 9223372036854775807)
    (hm : TabB w am bm om M) (hlm : M.length ≤ cm ∧ cm ≤ 9223372036854775807) :
    Calls Tryd.prog 26 #[.slice ao T.length cap, .slice am M.length cm] w fun e w' => e = .returned (.string (mt T M)) ∧ Below w.heap.size w w' := by
  have HR := Lib.hid hr
  have HM := Lib.hid hm
  obtain ⟨hlm1, hlm2⟩ := hlm
  clear hr hm
  cases hv : mvB T M with
  | false =>
    have HV := Lib.hid hv
    have HT := Lib.hid (mt_f hv)
    clear hv
    go_enter Tryd.func26, Tryd.ntmps26
    go_wp2_with fail
    go_loopw [5, 6] (fun o i wr => i = .int .i64 0 ∧ o = .string ⟨#[]⟩ ∧ wr = w) (fun _ _ _ => 0)
    case atStart => exact ⟨rfl, rfl, rfl⟩
    case round =>
      obtain ⟨rfl, rfl, rfl⟩ := hrel
      by_cases h0 : 0 < T.length
      · go_wp2_with fail
        refine (maskValidS ao b off cap T am bm om cm M _ HR.out hl HM.out (by omega)).mono ?_
        rintro e w' ⟨rfl, q, rfl⟩
        rw [HV.out]
        go_wp2_with fail
        go_ret
        exact ⟨by rw [HT.out]; rfl, below_draws _ _⟩
      · go_wp2_with fail
        go_ret
        exact ⟨by rw [HT.out]; rfl, Below.refl _ _⟩
  | true =>
    have HV := Lib.hid hv
    have HT := Lib.hid (mt_t hv)
    have HF := Lib.hid (tv_fit (mv_tv hv))
    obtain ⟨m1, m2, m3⟩ := mv_t.1 hv
    obtain ⟨t1, t2, t3, t4, t5⟩ := tv_t.1 m1
    obtain rfl := HR.out.1 (by omega)
    obtain rfl := HM.out.1 (by omega)
    have HM2 := Lib.hid m2
    have HM3 := Lib.hid (show ∀ i, i < T.length → (M.getD i []).length = (T.getD i []).length from fun i hi => by rw [m3 i (by omega), (t5 i hi).1])
    have hTM : T.length ≤ M.length := by omega
    have hMT : M.length ≤ T.length := by omega
    clear hv m1 m2 m3 t5
    go_enter Tryd.func26, Tryd.ntmps26
    go_wp2_with fail
    go_loopw [5, 6] (fun o i wr => ∃ k : Nat, k ≤ T.length ∧ i = .int .i64 k ∧ o = .string (bs (text (T.take k) M)) ∧ Below w.heap.size w wr) (fun _ i _ => T.length - (intOf i).toNat)
    case atStart => exact ⟨0, Nat.zero_le _, rfl, rfl, Below.refl _ _⟩
    case round =>
      obtain ⟨k, hk, rfl, rfl, hb⟩ := hrel
      have HB := Lib.hid hb
      clear hb
      have hts := text_short (M := M) HF.out k hk
      have hbz : (bs (text (T.take k) M)).size ≤ 164 := by rw [bs_size]; omega
      by_cases hlt : k < T.length
      · have HRW := Lib.hid (HR.out.keep HB.out (Nat.le_refl _))
        have HMW := Lib.hid (HM.out.keep HB.out (Nat.le_refl _))
        go_wp2_with fail
        refine (maskValidS _ b off cap T _ bm om cm M _ HRW.out hl HMW.out (by omega)).mono ?_
        rintro e w' ⟨rfl, q, rfl⟩
        rw [HV.out]
        obtain ⟨a', b', o', c', h1, h2, h3, h4⟩ := HR.out.2 k hlt
        obtain ⟨hf1, hf4, hf⟩ := HF.out.2 k hlt
        obtain ⟨a3, b3, o3, c3, g1, g2, g3, g4⟩ := HM.out.2 k (by omega)
        have hhl := HM3.out k hlt
        obtain ⟨r, hrr⟩ : ∃ r, T.getD k [] = r := ⟨_, rfl⟩
        obtain ⟨h, hh⟩ : ∃ h, M.getD k [] = h := ⟨_, rfl⟩
        rw [hrr] at h1 h2 h3 hf1 hf4 hf hhl
        rw [hh] at g1 g2 g3 hhl
        obtain rfl := h2.1 (by omega)
        obtain rfl := g2.1 (by omega)
        have HRR := Lib.hid hrr
        have HH := Lib.hid hh
        have HR2 := Lib.hid h2
        have HG2 := Lib.hid g2
        have HFF := Lib.hid hf
        have HHL := Lib.hid hhl
        have hhl1 : r.length ≤ h.length := by omega
        have hhl2 : h.length ≤ r.length := by omega
        have HH1 := Lib.hid h1
        have HG1 := Lib.hid g1
        have hbT : b < w.heap.size := World.block_lt_of_cell? _ _ h1
        have hbM : bm < w.heap.size := World.block_lt_of_cell? _ _ g1
        have hsz := HB.out.size
        clear hrr hh h2 g2 hf hhl h1 g1
        go_wp2_with fail
        have HO0 : Hid (OwnS ((wr.drewN q).alloc (.cells #[] 9)) w.heap.size (.slice (some ⟨wr.heap.size, 0, none⟩) 0 0) ((ws r h).take 0)) := by
          have := World.ownsRow_lit (base := w.heap.size) (e := 9) (size := 1) (wr.drewN q) #[] 0 hsz (by unfold maxLen; omega) (by simp)
          show OwnS _ _ _ _
          simpa [OwnS] using this
        have HB00 := Lib.hid ((HB.out.trans ((below_draws wr q).mono hsz)).alloc hsz (.cells #[] 9))
        go_loopw [7, 8] (fun v i wj => ∃ j : Nat, j ≤ r.length ∧ i = .int .i64 j ∧ OwnS wj w.heap.size v ((ws r h).take j) ∧ Below w.heap.size w wj) (fun _ i _ => r.length - (intOf i).toNat)
        case atStart => exact ⟨0, Nat.zero_le _, rfl, HO0.out, HB00.out⟩
        case round =>
          clear HO0 HB00
          obtain ⟨j, hj, rfl, ho, hb⟩ := hrel
          have HO := Lib.hid ho
          have HBJ := Lib.hid hb
          have hszj := hb.size
          have h1 := (hb.cell (p := ⟨b, off + k, none⟩) hbT).trans HH1.out
          have htl : Hid (((ws r h).take j).length = j) := by show _ = _; rw [List.length_take, ws_len]; omega
          clear ho hb
          by_cases hjn : j < r.length
          · have g1 := (HBJ.out.cell (p := ⟨bm, om + k, none⟩) hbM).trans HG1.out
            have hcx := HR2.out.2 j hjn
            have hcf := HG2.out.2 j (by omega)
            have hbx := World.block_lt_of_cell? _ _ hcx
            have hbf := World.block_lt_of_cell? _ _ hcf
            replace hcx := (HBJ.out.cell (p := ⟨b', o' + j, none⟩) hbx).trans hcx
            replace hcf := (HBJ.out.cell (p := ⟨b3, o3 + j, none⟩) hbf).trans hcf
            have hxx := HFF.out j hjn
            have hwt := ws_take (h := h) hjn
            obtain ⟨x, hxe⟩ : ∃ x, r.getD j 0 = x := ⟨_, rfl⟩
            obtain ⟨fl, hfl⟩ : ∃ fl, h.getD j false = fl := ⟨_, rfl⟩
            obtain ⟨L, hL⟩ : ∃ L, (ws r h).take j = L := ⟨_, rfl⟩
            have hol := HO.out
            rw [hL] at hol
            have HOL := Lib.hid hol
            have htl2 : Hid (L.length = j) := by have := htl.out; rw [hL] at this; exact this
            rw [hL] at hwt
            clear hL HO htl hol
            rw [hxe] at hcx hxx hwt
            rw [hfl] at hcf hwt
            obtain ⟨hx0, hx1⟩ := hxx
            have HWT := Lib.hid hwt
            have hkM : k < M.length := by omega
            have hjh : j < h.length := by omega
            clear hxe hfl hwt
            have fin : ∀ (v' : Value) (w2 : World) (s : ByteArray), s = cw x fl → w2.ownsRow w.heap.size 9 1 v' (L.length + 1) (L.map Value.string ++ [Value.string s]) → OwnS w2 w.heap.size v' ((ws r h).take (j + 1)) := by
              intro v' w2 s hs ho2
              rw [HWT.out, ← hs]
              unfold OwnS
              rw [List.length_append, List.map_append]
              exact ho2
            have FIN := Lib.hid fin
            clear fin
            cases fl with
            | true =>
              go_wp2_with (at_builtin; refine wpList_app eltS rfl (.tmp 37) (.tmp 38) rfl w.heap.size _ _ _ rfl HOL.out [.string ⟨#[120]⟩] rfl (by intro u hu; simp at hu; subst hu; rfl) rfl rfl ?c1 hszj ?_)
              case c1 => rw [htl2.out]; omega
              intro v' w2 ho2 hb2 _
              have HO2 := Lib.hid (FIN.out v' w2 _ (cw_t x).symm ho2)
              have HB2 := Lib.hid hb2
              clear ho2 hb2
              go_wp2_with fail
              go_roundw
              case rel => exact ⟨j + 1, by omega, by go_num, HO2.out, HBJ.out.trans HB2.out⟩
              case measure => simp [intOf]; omega
            | false =>
              go_wp2_with fail
              refine (decS (x.toNat + 1) x _ hx0 (by omega) hx1).mono ?_
              rintro e w1 ⟨rfl, hb1⟩
              have HB1 := Lib.hid hb1
              have HO1 := Lib.hid (HOL.out.below hb1)
              have hs1 := hb1.size
              clear hb1
              go_wp2_with (at_builtin; refine wpList_app eltS rfl (.tmp 40) (.tmp 49) rfl w.heap.size _ _ _ rfl HO1.out [.string (wd x)] rfl (by intro u hu; simp at hu; subst hu; rfl) rfl rfl ?c1 ?c2 ?_)
              case c1 => rw [htl2.out]; omega
              case c2 => omega
              intro v' w2 ho2 hb2 _
              have HO2 := Lib.hid (FIN.out v' w2 _ (cw_f x).symm ho2)
              have HB2 := Lib.hid hb2
              clear ho2 hb2
              go_wp2_with fail
              go_roundw
              case rel => exact ⟨j + 1, by omega, by go_num, HO2.out, (HBJ.out.trans (HB1.out.mono hszj)).trans HB2.out⟩
              case measure => simp [intOf]; omega
          · obtain rfl : j = r.length := by omega
            have hoe := HO.out
            rw [show (ws r h).take r.length = ws r h by rw [← ws_len r h, List.take_length]] at hoe
            obtain ⟨ao2, b2, c2, hv, hv1, hv2, hv3⟩ := hoe.row
            subst hv
            rw [ws_len] at hv1 ⊢
            have HV3 := Lib.hid hv3
            have hls := lnM_size (h := h) HFF.out hf4
            clear hoe hv3 HO htl
            go_wp2_with fail
            refine (joinM _ _ _ _ r h wr HV3.out (by omega) HFF.out).mono ?_
            rintro e w1 ⟨rfl, rfl⟩
            go_wp2_with fail
            go_roundw
            case rel =>
              refine ⟨k + 1, by omega, by go_num, ?_, HBJ.out⟩
              rw [text_take _ _ hlt, HRR.out, HH.out]
              unfold lnM
              rw [bs_add]
            case measure => simp [intOf]; omega
      · obtain rfl : k = T.length := by omega
        go_wp2_with fail
        go_ret
        exact ⟨by rw [HT.out, List.take_length]; rfl, HB.out⟩
end Go.Proofs.YtgnmfbgoacfjeaaDoor
