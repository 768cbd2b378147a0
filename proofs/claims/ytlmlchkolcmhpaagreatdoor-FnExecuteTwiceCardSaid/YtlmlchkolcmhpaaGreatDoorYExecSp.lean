/-
  Contract: spec.Execute, for every script.
-/
import Derived.Test.YtlmlchkolcmhpaaGreatDoorYLineS
namespace Go.Proofs.YtlmlchkolcmhpaaGreatDoor
open Go.RowKit
open Go.TextMath (tvB mvB text word)
open Go.ParseMath

theorem lineS_any (ws : List (List UInt8)) : LineQC (kindM ws) := by
  by_cases h1 : kindM ws = 1
  · rw [h1]; exact lineS1
  by_cases h2 : kindM ws = 2
  · rw [h2]; exact lineS2
  exact lineSx _ h1 h2
theorem cutB_atS (s : ByteArray) {k : Nat} (hk : k < (cutB 10 s).length) : ((cutB 10 s).getD k ⟨#[]⟩).data.toList = (cutL 10 s.data.toList).getD k [] := by
  unfold cutB at hk ⊢
  rw [List.length_map] at hk
  simp [List.getD_eq_getElem?_getD, List.getElem?_map, List.getElem?_eq_getElem hk]
theorem wsL_cutS (s : ByteArray) : wsL (cutB 32 s) = cutL 32 s.data.toList := by
  unfold wsL cutB
  rw [List.map_map]
  simp [Function.comp_def]
theorem cutB_pos (c : UInt8) (s : ByteArray) : 1 ≤ (cutB c s).length := by
  unfold cutB
  rw [List.length_map, Go.ParseMath.cutL_length]
  omega

/-- What the loop over the lines keeps. -/
def ExQ (w : World) (s : ByteArray) (k : Nat) (v o : Value) (W : World) : Prop :=
  ∃ b cap, v = .slice (some ⟨b, 0, none⟩) (runM [] ((linesM s.data.toList).take k)).1.length cap ∧ Ppl W (some ⟨b, 0, none⟩) b 0 (runM [] ((linesM s.data.toList).take k)).1 ∧ (runM [] ((linesM s.data.toList).take k)).1.length ≤ cap ∧ cap ≤ 9223372036854775807 ∧ o = .string (bs (runM [] ((linesM s.data.toList).take k)).2) ∧ Below w.heap.size w W

set_option maxRecDepth 100000 in
set_option maxHeartbeats 8000000 in
theorem executeS (s : ByteArray) (w : World) (hs : s.size ≤ 100000000) :
    Calls Tryz.prog 10 #[.string s] w fun e w' => e = .returned (.string (bs (execM s.data.toList))) ∧ Below w.heap.size w w' := by
  by_cases h5 : s.size ≤ 500
  · have HE := Lib.hid (show execM s.data.toList = (runM [] (linesM s.data.toList)).2 ++ sPeople ++ word ((runM [] (linesM s.data.toList)).1.length : Int) ++ [10] by unfold execM linesM; exact if_pos h5)
    have hlen : (cutB 10 s).length = (linesM s.data.toList).length + 1 := by rw [linesM_len]; unfold cutB; rw [List.length_map]
    have hcnt := cutB_lenS 10 s
    obtain ⟨n, hn⟩ : ∃ n, (linesM s.data.toList).length = n := ⟨_, rfl⟩
    rw [hn] at hlen
    have HN := Lib.hid hn
    have HLEN := Lib.hid hlen
    have hn5 : n ≤ 500 := by omega
    have hs5 : (s.size : Int) ≤ 500 := by omega
    have HCUT := Lib.hid (fun (W : World) => cutS s hs 10 W)
    clear hn hcnt
    go_enter Tryz.func10, Tryz.ntmps10
    go_wp2_with fail
    have hal := (Below.refl w.heap.size w).alloc (Nat.le_refl _) (.cells #[] 69)
    obtain ⟨W0, hW0⟩ : ∃ W0, w.alloc (.cells #[] 69) = W0 := ⟨_, rfl⟩
    rw [hW0] at hal ⊢
    have HAL := Lib.hid hal
    clear hW0 hal
    refine (HCUT.out W0).mono ?_
    rintro e w1 ⟨v, rfl, how, hb1⟩
    obtain ⟨ao, tb, tcap, rfl, -, -, hrow⟩ := how.row
    have htb := hrow.1 (by rw [hlen]; omega)
    subst htb
    have HROW := Lib.hid hrow
    have HB1 := Lib.hid (HAL.out.trans (hb1.mono HAL.out.size))
    have hst : ExQ w s 0 (.slice (some ⟨w.heap.size, 0, none⟩) 0 0) (.string ⟨#[]⟩) w1 := by
      refine ⟨w.heap.size, 0, ?_, ?_, ?_, by omega, ?_, HB1.out⟩
      · rw [List.take_zero, runM_nil]; rfl
      · rw [List.take_zero, runM_nil]; exact ⟨fun h => absurd h (by simp), fun i hi => absurd hi (by simp)⟩
      · rw [List.take_zero, runM_nil]; simp
      · rw [List.take_zero, runM_nil]; rfl
    have HST := Lib.hid hst
    rw [hlen]
    clear hst how hb1 hrow HCUT
    go_wp2_with fail
    go_loopw [3, 4, 6] (fun v o i W => ∃ k : Nat, k ≤ n ∧ i = .int .i64 k ∧ ExQ w s k v o W ∧ Below w1.heap.size w1 W) (fun _ _ i _ => n - (intOf i).toNat)
    case atStart => exact ⟨0, Nat.zero_le _, rfl, HST.out, Below.refl _ _⟩
    case round =>
      clear HST
      obtain ⟨k, hk, rfl, ⟨b, cap, rfl, hp, hc1, hc2, rfl, hb⟩, hbw⟩ := hrel
      have HB := Lib.hid hb
      have HBW := Lib.hid hbw
      obtain ⟨R, hR⟩ : ∃ R, runM [] ((linesM s.data.toList).take k) = R := ⟨_, rfl⟩
      have HRO := Lib.hid (show pplB R.1 = true by rw [← hR]; exact runM_ok pplB_nil _)
      have HRS := Lib.hid (show R.2.length ≤ 100000 by
        rw [← hR]
        have := run_short pplB_nil ((linesM s.data.toList).take k)
        rw [List.length_take] at this
        omega)
      rw [hR] at hp hc1 ⊢
      have HP := Lib.hid hp
      by_cases hlt : k < n
      · have hcell := (HROW.out.keep hbw (Nat.le_refl _)).2 k (by rw [HLEN.out]; omega)
        rw [Nat.zero_add] at hcell
        have HAT := Lib.hid (cutB_atS s (k := k) (by rw [HLEN.out]; omega))
        have HTK := Lib.hid (linesM_take (s := s.data.toList) (k := k) (by rw [HN.out]; exact hlt))
        have HLS := Lib.hid (show ((cutB 10 s).getD k ⟨#[]⟩).size ≤ 500 from Nat.le_trans (cutB_size (c := 10) (s := s) (by rw [List.getD_eq_getElem?_getD, List.getElem?_eq_getElem (by rw [HLEN.out]; omega), Option.getD_some]; exact List.getElem_mem _)) h5)
        obtain ⟨x, hx⟩ : ∃ x, (cutB 10 s).getD k ⟨#[]⟩ = x := ⟨_, rfl⟩
        rw [hx] at hcell HAT HLS
        rw [← HAT.out] at HTK
        have HRN := Lib.hid (show runM [] ((linesM s.data.toList).take (k + 1)) = ((stepM R.1 (cutL 32 x.data.toList)).1, R.2 ++ (stepM R.1 (cutL 32 x.data.toList)).2) by rw [HTK.out, runM_snoc, hR])
        have HSS := Lib.hid (step_short HRO.out (cutL 32 x.data.toList))
        have HCUT := Lib.hid (fun (W : World) => cutS x (by have := HLS.out; omega) 32 W)
        have hwl := cutB_lenS 32 x
        have hkn : (k : Int) + 1 < (n : Int) + 1 := by omega
        have hkn2 : (k : Int) < (n : Int) + 1 := by omega
        have hkn3 : (k : Int) < ((n + 1 : Nat) : Int) := by omega
        have HWL := Lib.hid (show 1 ≤ (cutB 32 x).length ∧ (cutB 32 x).length ≤ 100000 from ⟨cutB_pos 32 x, by have := HLS.out; omega⟩)
        clear hx hR hp hb hbw hwl
        go_wp2_with fail
        refine (HCUT.out wr).mono ?_
        rintro e w4 ⟨v4, rfl, how4, hb4⟩
        obtain ⟨a4, t4, c4, rfl, -, -, hrow4⟩ := how4.row
        have ht4 := hrow4.1 HWL.out.1
        subst ht4
        have HB4 := Lib.hid (HB.out.trans (hb4.mono HB.out.size))
        have HBW4 := Lib.hid (HBW.out.trans (hb4.mono HBW.out.size))
        have HP4 := Lib.hid (HP.out.keep hb4 (Nat.le_refl _))
        have HLC := Lib.hid (lineS_any (wsL (cutB 32 x)) b cap t4 c4 R.1 (cutB 32 x) w4 HP4.out HRO.out hc1 hc2 hrow4 HWL.out.1 HWL.out.2 (fun y hy => Nat.le_trans (cutB_size hy) (by have := HLS.out; omega)) rfl)
        clear how4 hb4 hrow4
        go_wp2_with fail
        refine (HLC.out).mono ?_
        rintro e w5 ⟨b5, c5, rfl, hp5, g1, g2, hb5⟩
        rw [wsL_cutS] at hp5 g1 ⊢
        have HB5 := Lib.hid (HB4.out.trans (hb5.mono HB4.out.size))
        have HBW5 := Lib.hid (HBW4.out.trans (hb5.mono HBW4.out.size))
        obtain ⟨L', hL'⟩ : ∃ L', (stepM R.1 (cutL 32 x.data.toList)).1 = L' := ⟨_, rfl⟩
        obtain ⟨o', ho'⟩ : ∃ o', (stepM R.1 (cutL 32 x.data.toList)).2 = o' := ⟨_, rfl⟩
        rw [hL'] at hp5 g1 HRN ⊢
        rw [ho'] at HRN HSS ⊢
        have hz1 : (bs R.2).size ≤ 100000 := by rw [bs_size]; exact HRS.out
        have hz2 : (bs o').size ≤ 200 := by rw [bs_size]; exact HSS.out
        have HADD := Lib.hid (bs_add R.2 o')
        obtain ⟨S1, hS1⟩ : ∃ S1, bs R.2 = S1 := ⟨_, rfl⟩
        obtain ⟨S2, hS2⟩ : ∃ S2, bs o' = S2 := ⟨_, rfl⟩
        rw [hS1] at hz1 HADD ⊢
        rw [hS2] at hz2 HADD ⊢
        have HP5 := Lib.hid hp5
        have HG := Lib.hid (And.intro g1 g2)
        clear hb5 hp5 g1 g2 hL' ho' hS1 hS2
        go_wp2_with fail
        go_roundw
        case rel =>
          refine ⟨k + 1, by omega, by go_num, ⟨b5, c5, by rw [HRN.out], by rw [HRN.out]; exact HP5.out, by rw [HRN.out]; exact HG.out.1, HG.out.2, by rw [HRN.out, ← HADD.out], HB5.out⟩, HBW5.out⟩
        case measure => simp [intOf]; omega
      · obtain rfl : k = n := by omega
        have HRR := Lib.hid (show runM [] (linesM s.data.toList) = R by rw [← hR, ← HN.out, List.take_length])
        have h40 := (ppl_t.1 HRO.out).1
        have HDEC := Lib.hid (fun (W : World) => decS ((R.1.length : Int).toNat + 1) (R.1.length : Int) W (by omega) (by omega) (by omega))
        have hz1 : (bs R.2).size ≤ 100000 := by rw [bs_size]; exact HRS.out
        have HWS := Lib.hid (show (wd (R.1.length : Int)).size ≤ 100 by
          have h9 := Go.TextMath.word_short (n := (R.1.length : Int)) (by omega) (by omega)
          unfold wd
          simp only [ByteArray.size, List.size_toArray]
          omega)
        have HEQ := Lib.hid (show bs (execM s.data.toList) = bs R.2 ++ ⟨#[112, 101, 111, 112, 108, 101, 32]⟩ ++ wd (R.1.length : Int) ++ ⟨#[10]⟩ by
          rw [HE.out, HRR.out]
          rw [← bs_add, ← bs_add, ← bs_add]
          rfl)
        obtain ⟨S1, hS1⟩ : ∃ S1, bs R.2 = S1 := ⟨_, rfl⟩
        rw [hS1] at hz1 HEQ ⊢
        obtain ⟨m, hm⟩ : ∃ m, R.1.length = m := ⟨_, rfl⟩
        rw [hm] at h40 HDEC HWS HEQ ⊢
        obtain ⟨D, hD⟩ : ∃ D, wd (m : Int) = D := ⟨_, rfl⟩
        rw [hD] at HDEC HWS HEQ
        have hz2 := HWS.out
        have hkn : ¬ ((k : Int) + 1 < (k : Int) + 1) := by omega
        clear hp hb hbw hc1 hR hS1 hm hD
        go_wp2_with fail
        refine (HDEC.out wr).mono ?_
        rintro e w9 ⟨rfl, hb9⟩
        have HB9 := Lib.hid (HB.out.trans (hb9.mono HB.out.size))
        clear hb9
        go_wp2_with fail
        go_ret
        exact ⟨by rw [HEQ.out]; rfl, HB9.out⟩
  · have HE := Lib.hid (show execM s.data.toList = sLong by unfold execM; exact if_neg (by rw [Array.length_toList]; exact h5))
    have hs5 : (500 : Int) < (s.size : Int) := by omega
    clear h5
    go_enter Tryz.func10, Tryz.ntmps10
    go_wp2_with fail
    go_ret
    exact ⟨by rw [HE.out]; rfl, Below.refl _ _⟩
end Go.Proofs.YtlmlchkolcmhpaaGreatDoor
