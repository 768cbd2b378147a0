/-
  The walk of laws.FnExactPeopleFrom.
-/
import Derived.Test.YthncpnopplhlkaaDoorPfS
import Derived.Test.YthncpnopplhlkaaDoorPfI
import Derived.Test.YthncpnopplhlkaaDoorSameP
import Derived.Test.YthncpnopplhlkaaDoorErrLaid
namespace Go.Proofs.YthncpnopplhlkaaDoor
open Go.RowKit

theorem pf_small (l : List UInt8) : (pfL l).length ≤ 40 := by
  cases h : pfB l with
  | false => rw [pf_f h]; exact Nat.zero_le _
  | true =>
    by_cases hn : l = []
    · subst hn; rw [pfl_nil]; exact Nat.zero_le _
    · exact (ppl_t.1 (pf_t h hn).1).1

set_option maxHeartbeats 2000000 in
theorem exactPeopleFrom (s : ByteArray) (w : World) (hs : s.size ≤ 9223372036854775807) (hl : LibL w) :
    Calls Tryd.prog 6 #[.string s] w fun e w' => e = .returned (.bool true) ∧ Below w.heap.size w w' := by
  have HL := Lib.hid hl
  clear hl
  by_cases hbig : 1048576 < s.size
  · go_enter Tryd.func6, Tryd.ntmps6
    go_wp2_with fail
    go_ret
    exact ⟨rfl, Below.refl _ _⟩
  · have hs1 : s.size ≤ 1048576 := by omega
    have HTFS := Lib.hid (pfS s (by omega) w)
    have HTFI := Lib.hid (fun (W : World) (h : LibL W) => pfI s (by omega) W h.2 h.1)
    have hsm := pf_small s.data.toList
    unfold PfP at HTFS HTFI
    obtain ⟨T, hT⟩ : ∃ T, pfL s.data.toList = T := ⟨_, rfl⟩
    obtain ⟨ok, hok⟩ : ∃ ok, pfB s.data.toList = ok := ⟨_, rfl⟩
    rw [hT] at HTFS HTFI hsm
    rw [hok] at HTFS HTFI
    clear hbig hT hok
    go_enter Tryd.func6, Tryd.ntmps6
    go_wp2_with fail
    refine (HTFS.out).mono ?_
    rintro e w1 ⟨v0, rfl, hm0, hb1⟩
    obtain ⟨a0, t0, c0, rfl, k1, k2, -, -, -, htab0⟩ := own_pplN hm0
    have HT0 := Lib.hid htab0
    have HB1 := Lib.hid hb1
    have HL1 := Lib.hid (HL.out.keep hb1 (Nat.le_refl _))
    clear hm0 hb1 htab0
    go_wp2_with fail
    refine (HTFI.out w1 HL1.out).mono ?_
    rintro e w2 ⟨v1, rfl, hm1, hb2⟩
    obtain ⟨a1, t1, c1, rfl, k3, k4, ha1, hlw1, hr1, htab1⟩ := own_pplN hm1
    have HA1 := Lib.hid ha1
    have HR1 := Lib.hid hr1
    have HLW1 := Lib.hid hlw1
    have HT1 := Lib.hid htab1
    have HT02 := Lib.hid (HT0.out.keep hb2 (Nat.le_refl _))
    have HB2 := Lib.hid hb2
    clear hm1 hb2 ha1 hr1 hlw1 htab1
    go_wp2_with fail
    refine (eqPers a1 a0 t1 0 c1 t0 0 c0 T w2 HT1.out HT02.out (by omega)).mono ?_
    rintro e w3 ⟨rfl, hd3⟩
    have HR3 := Lib.hid (show 0 < T.length → PplN w3 t1 T.length from fun hp => by
      have h := HR1.out hp
      obtain ⟨c, f, h1, _⟩ := id h
      exact h.of_block (hd3.block t1 h1.lt))
    have HMK := Lib.hid (markP a1 t1 T.length c1 1 w3 HA1.out HR3.out (by omega) (by omega))
    have HD3 := Lib.hid hd3
    clear hd3
    cases ok
    all_goals
      go_wp2_with fail
      refine (HMK.out).mono ?_
      rintro e w4 ⟨rfl, hr4, ho4, hz4⟩
      have HR4 := Lib.hid hr4
      have hb4 : Below w1.heap.size w3 w4 := by
        by_cases hp : 0 < T.length
        · obtain ⟨o1, o2, o3, o4, o5⟩ := ho4
          exact ⟨o1, o2, o3, Nat.le_of_eq o4.symm, fun j hj => o5 j (by have := HLW1.out hp; omega)⟩
        · obtain rfl := hz4 (by omega)
          exact Below.refl _ _
      have hb14 : Below w1.heap.size w1 w4 := (HB2.out.trans (HD3.out.mono HB2.out.size)).trans hb4
      have HB4 := Lib.hid hb14
      have HL4 := Lib.hid (HL1.out.keep hb14 (Nat.le_refl _))
      have HT04 := Lib.hid (HT0.out.keep hb14 (Nat.le_refl _))
      obtain ⟨z, hz⟩ : ∃ z, 1 + T.length * 4 = z := ⟨_, rfl⟩
      have HZ := Lib.hid hz
      rw [hz]
      clear hr4 ho4 hz4 hb4 hb14 hz
      go_wp2_with fail
      have hhd := heldP a1 t1 T.length c1 1 w4 HA1.out HR4.out (by omega) (by omega)
      refine hhd.mono ?_
      rintro e w5 ⟨rfl, rfl⟩
      clear hhd
      rw [HZ.out]
      go_wp2_with fail
      refine (HTFI.out w4 HL4.out).mono ?_
      rintro e w6 ⟨v6, rfl, hm6, hb6⟩
      obtain ⟨a6, t6, c6, rfl, k5, k6, -, -, -, htab6⟩ := own_pplN hm6
      have HT6 := Lib.hid htab6
      have HT06 := Lib.hid (HT04.out.keep hb6 (Nat.le_refl _))
      have HB6 := Lib.hid hb6
      clear hm6 hb6 htab6
      go_wp2_with fail
      refine (eqPers a6 a0 t6 0 c6 t0 0 c0 T w6 HT6.out HT06.out (by omega)).mono ?_
      rintro e w7 ⟨rfl, hd7⟩
      have hb47 : Below w4.heap.size w4 w7 := HB6.out.trans (hd7.mono HB6.out.size)
      have HB7 := Lib.hid (HB1.out.trans ((HB4.out.trans (hb47.mono HB4.out.size)).mono HB1.out.size))
      have HHD := Lib.hid (heldP a1 t1 T.length c1 1 w7 HA1.out (fun hp => (HR4.out hp).of_block (hb47.block t1 (HR4.out hp).lt)) (by omega) (by omega))
      clear hb47 hd7
      go_wp2_with fail
      refine (HHD.out).mono ?_
      rintro e w9 ⟨rfl, rfl⟩
      rw [HZ.out]
      go_wp2_with fail
      go_ret
      exact ⟨rfl, HB7.out⟩
end Go.Proofs.YthncpnopplhlkaaDoor
