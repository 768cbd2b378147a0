/-
  The walk of laws.FnExactTableFrom.
-/
import Derived.Test.YthncpnopplhlkaaDoorTfS
import Derived.Test.YthncpnopplhlkaaDoorTfI
import Derived.Test.YthncpnopplhlkaaDoorEqs
import Derived.Test.YthncpnopplhlkaaDoorMark
import Derived.Test.YthncpnopplhlkaaDoorErrLaid
namespace Go.Proofs.YthncpnopplhlkaaDoor
open Go.RowKit
open Go.ParseMath (tfB ttL rowsS)
open Go.TextMath (tvB text)

theorem tf_small (l : List UInt8) : (tfT l).length ≤ 4 ∧ ∀ i, i < (tfT l).length → ((tfT l).getD i []).length ≤ 4 := by
  cases h : tfB l with
  | false => rw [tf_f h]; exact ⟨by simp, fun i hi => absurd hi (by simp)⟩
  | true =>
    rw [tf_tt h]
    obtain ⟨h1, h2, h3, h4, h5⟩ := tv_t.1 (Go.ParseMath.tf_t h).1
    exact ⟨h2, fun i hi => by rw [(h5 i hi).1]; exact h4⟩
/-- A table of the call's own, for the marks. -/
theorem mt_parts_ {w : World} {base : Nat} {v : Value} {T : List (List Int)} {g : Nat → Nat} (h : MtI w base v T g) : ∃ ao tb cap, v = .slice ao T.length cap ∧ T.length ≤ cap ∧ cap ≤ 9223372036854775807 ∧ (0 < T.length → ao = some ⟨tb, 0, none⟩) ∧ HeadsT w tb T g ∧ (∀ i, i < T.length → RowN w (g i) (T.getD i []).length) ∧
    (∀ i, i < T.length → tb ≠ g i) ∧ Tab .i64 w ao tb 0 T := by
  obtain ⟨ao, tb, cap, rfl, h1, h2, htab⟩ := h.tab
  refine ⟨ao, tb, cap, rfl, h1, h2, fun hp => htab.1 hp, fun i hi => ?_, fun i hi => ?_, fun i hi => ?_, htab⟩
  · obtain rfl := htab.1 (by omega)
    obtain ⟨c, hc, _⟩ := h.at_ hi
    exact ⟨c, hc⟩
  · obtain ⟨cs, _, hcs⟩ := h.top
    obtain ⟨c, f, _, h4, _, h5, _⟩ := hcs i hi
    exact ⟨c, f, h5, h4⟩
  · obtain rfl := htab.1 (by omega)
    exact h.tb_ne (by decide) hi

set_option maxHeartbeats 2000000 in
theorem exactTableFrom (s : ByteArray) (w : World) (hs : s.size ≤ 9223372036854775807) (hl : LibL w) :
    Calls Tryd.prog 5 #[.string s] w fun e w' => e = .returned (.bool true) ∧ Below w.heap.size w w' := by
  have HL := Lib.hid hl
  clear hl
  by_cases hbig : 1048576 < s.size
  · go_enter Tryd.func5, Tryd.ntmps5
    go_wp2_with fail
    go_ret
    exact ⟨rfl, Below.refl _ _⟩
  · have hs1 : s.size ≤ 1048576 := by omega
    have HTFS := Lib.hid (tfS s (by omega) w)
    have HTFI := Lib.hid (fun (W : World) (h : LibL W) => tfI s (by omega) W h.2 h.1)
    obtain ⟨hsm1, hsm2⟩ := tf_small s.data.toList
    have HSM := Lib.hid hsm2
    unfold TfP at HTFS HTFI
    obtain ⟨T, hT⟩ : ∃ T, tfT s.data.toList = T := ⟨_, rfl⟩
    obtain ⟨ok, hok⟩ : ∃ ok, tfB s.data.toList = ok := ⟨_, rfl⟩
    rw [hT] at HTFS HTFI hsm1 HSM
    rw [hok] at HTFS HTFI
    clear hbig hsm2 hT hok
    go_enter Tryd.func5, Tryd.ntmps5
    go_wp2_with fail
    refine (HTFS.out).mono ?_
    rintro e w1 ⟨v0, g0, rfl, hm0, hb1⟩
    obtain ⟨a0, t0, c0, rfl, k1, k2, -, -, -, -, htab0⟩ := mt_parts_ hm0
    have HT0 := Lib.hid htab0
    have HB1 := Lib.hid hb1
    have HL1 := Lib.hid (HL.out.keep hb1 (Nat.le_refl _))
    clear hm0 hb1 htab0
    go_wp2_with fail
    refine (HTFI.out w1 HL1.out).mono ?_
    rintro e w2 ⟨v1, g1, rfl, hm1, hb2⟩
    obtain ⟨a1, t1, c1, rfl, k3, k4, ha1, hh1, hr1, hn1, htab1⟩ := mt_parts_ hm1
    have HA1 := Lib.hid ha1
    have HH1 := Lib.hid hh1
    have HR1 := Lib.hid hr1
    have HN1 := Lib.hid hn1
    have HM1 := Lib.hid hm1
    have HT1 := Lib.hid htab1
    have HT02 := Lib.hid (HT0.out.keep hb2 (Nat.le_refl _))
    have HB2 := Lib.hid hb2
    have HL2 := Lib.hid (HL1.out.keep hb2 (Nat.le_refl _))
    clear hm1 hb2 ha1 hh1 hr1 hn1 htab1
    go_wp2_with fail
    refine (eqIntss a1 a0 t1 0 c1 t0 0 c0 T w2 HT1.out HT02.out (by omega)).mono ?_
    rintro e w3 ⟨rfl, q, hq3⟩
    have hd3 : Below w2.heap.size w2 w3 := by rw [hq3]; exact below_draws w2 q
    have hmk : Calls Tryd.prog 21 #[.slice a1 T.length c1, .int .i64 1] w3 _ := markII a1 t1 c1 w1.heap.size 1 T g1 w3 HA1.out (by rw [hq3]; exact HH1.out.of_block rfl) (fun i hi => by rw [hq3]; exact (HR1.out i hi).of_block rfl) HN1.out HM1.out.inj HM1.out.low (by omega) (fun i hi => by have := HSM.out i hi; omega) (by omega)
    have HMK := Lib.hid hmk
    have HD3 := Lib.hid hd3
    clear hmk hq3 hd3
    cases ok
    all_goals
      go_wp2_with fail
      refine (HMK.out).mono ?_
      rintro e w4 ⟨rfl, hh4, hr4, hb4⟩
      have HH4 := Lib.hid hh4
      have HR4 := Lib.hid hr4
      have hb14 : Below w1.heap.size w1 w4 := (HB2.out.trans (HD3.out.mono HB2.out.size)).trans hb4
      have HB4 := Lib.hid hb14
      have HL4 := Lib.hid (HL1.out.keep hb14 (Nat.le_refl _))
      have HT04 := Lib.hid (HT0.out.keep hb14 (Nat.le_refl _))
      obtain ⟨z, hz⟩ : ∃ z, 1 + off T T.length = z := ⟨_, rfl⟩
      have HZ := Lib.hid hz
      rw [hz]
      clear hh4 hr4 hb4 hb14 hz
      go_wp2_with fail
      have hhd : Calls Tryd.prog 22 #[.slice a1 T.length c1, .int .i64 1] w4 _ := heldII a1 t1 c1 1 T g1 w4 HA1.out HH4.out HR4.out (by omega) (fun i hi => by have := HSM.out i hi; omega) (by omega)
      refine hhd.mono ?_
      rintro e w5 ⟨rfl, rfl⟩
      clear hhd
      rw [HZ.out]
      go_wp2_with fail
      refine (HTFI.out w4 HL4.out).mono ?_
      rintro e w6 ⟨v6, g6, rfl, hm6, hb6⟩
      obtain ⟨a6, t6, c6, rfl, k5, k6, -, -, -, -, htab6⟩ := mt_parts_ hm6
      have HT6 := Lib.hid htab6
      have HT06 := Lib.hid (HT04.out.keep hb6 (Nat.le_refl _))
      have HB6 := Lib.hid hb6
      clear hm6 hb6 htab6
      go_wp2_with fail
      refine (eqIntss a6 a0 t6 0 c6 t0 0 c0 T w6 HT6.out HT06.out (by omega)).mono ?_
      rintro e w7 ⟨rfl, q7, rfl⟩
      have hd7 := below_draws w6 q7
      have hb47 : Below w4.heap.size w4 (w6.drewN q7) := HB6.out.trans (hd7.mono HB6.out.size)
      have HB7 := Lib.hid (HB1.out.trans ((HB4.out.trans (hb47.mono HB4.out.size)).mono HB1.out.size))
      have HB47 := Lib.hid hb47
      clear hb47 hd7
      have hhd : Calls Tryd.prog 22 #[.slice a1 T.length c1, .int .i64 1] (w6.drewN q7) _ := heldII a1 t1 c1 1 T g1 _ HA1.out (HH4.out.keep HB47.out) (fun i hi => (HR4.out i hi).keep HB47.out) (by omega) (fun i hi => by have := HSM.out i hi; omega) (by omega)
      have HHD := Lib.hid hhd
      clear hhd
      go_wp2_with fail
      refine (HHD.out).mono ?_
      rintro e w9 ⟨rfl, rfl⟩
      rw [HZ.out]
      go_wp2_with fail
      go_ret
      exact ⟨rfl, HB7.out⟩
end Go.Proofs.YthncpnopplhlkaaDoor
