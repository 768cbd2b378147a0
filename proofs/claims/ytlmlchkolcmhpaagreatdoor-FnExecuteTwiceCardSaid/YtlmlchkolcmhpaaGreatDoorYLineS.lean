/-
  Contract: spec.l51Line.
-/
import Derived.Test.YtlmlchkolcmhpaaGreatDoorYAskArm
namespace Go.Proofs.YtlmlchkolcmhpaaGreatDoor
open Go.RowKit
open Go.TextMath (tvB mvB text word)

theorem own_some {w : World} {base : Nat} {v : Value} {L : List Per} (h : OwnPpl w base v L) (hn : v ≠ .slice none 0 0) : ∃ b cap, v = .slice (some ⟨b, 0, none⟩) L.length cap ∧ Ppl w (some ⟨b, 0, none⟩) b 0 L ∧ L.length ≤ cap ∧ cap ≤ 9223372036854775807 := by
  obtain ⟨ao, b, cap, hv, h1, h2, h3, h4⟩ := OwnPpl.ppl h
  by_cases h0 : 0 < L.length
  · obtain ⟨rfl, -, -⟩ := h3 h0
    exact ⟨b, cap, hv, h4, h1, h2⟩
  · rcases h.2 with ⟨e, _⟩ | ⟨g, c2, cur, e, -, -, -⟩
    · exact absurd e hn
    · rw [hv] at e
      injection e with e1 e2 e3
      subst e1
      exact ⟨g, cap, hv, ⟨fun h => absurd h h0, fun i hi => absurd hi (by omega)⟩, h1, h2⟩

/-- What l51Line answers. -/
def LineQ (L : List Per) (ws : List (List UInt8)) (w : World) (e : Ending) (w' : World) : Prop :=
  ∃ b cap, e = .returned (.tuple #[.slice (some ⟨b, 0, none⟩) (stepM L ws).1.length cap, .string (bs (stepM L ws).2)]) ∧ Ppl w' (some ⟨b, 0, none⟩) b 0 (stepM L ws).1 ∧ (stepM L ws).1.length ≤ cap ∧ cap ≤ 9223372036854775807 ∧ Below w.heap.size w w'
theorem lineQ_of {L L' : List Per} {ws : List (List UInt8)} {o : List UInt8} (h : stepM L ws = (L', o)) {w w' : World} {b cap : Nat} {e : Ending} (he : e = .returned (.tuple #[.slice (some ⟨b, 0, none⟩) L'.length cap, .string (bs o)])) (h1 : Ppl w' (some ⟨b, 0, none⟩) b 0 L') (h2 : L'.length ≤ cap) (h3 : cap ≤ 9223372036854775807) (h4 : Below w.heap.size w w') : LineQ L ws w e w' := by
  unfold LineQ
  rw [h]
  exact ⟨b, cap, he, h1, h2, h3, h4⟩
def LineQC (k : Nat) : Prop := ∀ (b cap sb scap : Nat) (L : List Per) (ss : List ByteArray) (w : World), Ppl w (some ⟨b, 0, none⟩) b 0 L → pplB L = true → L.length ≤ cap → cap ≤ 9223372036854775807 → RowS w (some ⟨sb, 0, none⟩) sb 0 ss → 1 ≤ ss.length → ss.length ≤ 100000 → (∀ x ∈ ss, x.size ≤ 100000000) → kindM (wsL ss) = k →
  Calls Tryz.prog 16 #[.slice (some ⟨b, 0, none⟩) L.length cap, .slice (some ⟨sb, 0, none⟩) ss.length scap] w (LineQ L (wsL ss) w)
theorem step_fst {L : List Per} {ws : List (List UInt8)} (h1 : kindM ws ≠ 1) (h2 : kindM ws ≠ 2) : (stepM L ws).1 = L := by
  unfold stepM
  split
  · next h => exact absurd h h1
  · next h => exact absurd h h2
  all_goals rfl

set_option maxRecDepth 100000 in
set_option maxHeartbeats 4000000 in
theorem lineS1 : LineQC 1 := by
  intro b cap sb scap L ss w hr hv hc1 hc2 hrow hl1 hl2 hsz hkind
  have HN := Lib.hid (scrsS sb scap ss w hrow hl1 hl2 hsz)
  have h0 := hrow.2 0 (by omega)
  rw [Nat.zero_add] at h0
  have hsb : sb < w.heap.size := World.block_lt_of_cell? _ _ h0
  have HR := Lib.hid hr
  have HV := Lib.hid hv
  have HROW := Lib.hid hrow
  have HSZ := Lib.hid hsz
  have HNB := Lib.hid (numsB_eq ss)
  obtain ⟨hk0, hkn⟩ := kind_1 hkind
  rw [wsL_len] at hkn
  rw [wsL_at ss (by omega)] at hk0
  have hnl : (numsB ss).length = 4 := by rw [numsB_len]; omega
  have HK := Lib.hid (step_1 (L := L) hkind)
  obtain ⟨x, hx⟩ : ∃ x, ss.getD 0 ⟨#[]⟩ = x := ⟨_, rfl⟩
  rw [hx] at hk0 h0
  have t1 : (x.toList == [112, 101, 114, 115, 111, 110]) = true := word_t hk0
  clear hx hk0 hkn hkind
  obtain ⟨y0, y1, y2, y3, hy⟩ := four hnl
  rw [HNB.out, hy] at HK
  have HK2 := Lib.hid (show stepM L (wsL ss) = if pplB (L ++ [⟨y0, y1, y2, y3⟩]) then (L ++ [⟨y0, y1, y2, y3⟩], sOk) else (L, sNo) from HK.out)
  rw [hy] at HN
  clear hnl hy HK
  clear hr hv hrow hsz
  go_enter Tryz.func16, Tryz.ntmps16
  go_wp2_with fail
  refine (HN.out).mono ?_
  rintro e w1 ⟨v1, rfl, ho, hb1⟩
  obtain ⟨an, bn, cn, rfl, hn1, hn2, hrn, -, -⟩ := ho.row
  have h01 := (hb1.cell (p := ⟨sb, 0, none⟩) hsb).trans h0
  have HB1 := Lib.hid hb1
  have HR1 := Lib.hid (HR.out.keep hb1 (Nat.le_refl _))
  have HRW1 := Lib.hid (HROW.out.keep hb1 (Nat.le_refl _))
  have n0 := hrn.2 0 (by simp)
  have n1 := hrn.2 1 (by simp)
  have n2 := hrn.2 2 (by simp)
  have n3 := hrn.2 3 (by simp)
  obtain rfl := hrn.1 (by simp)
  simp only [List.getD_cons_zero, List.getD_cons_succ, Nat.zero_add] at n0 n1 n2 n3
  simp only [List.length_cons, List.length_nil, Nat.zero_add, Nat.reduceAdd] at hn1 ⊢
  have HC := Lib.hid (personArmS b cap bn cn L y0 y1 y2 y3 w1 HR1.out HV.out n0 n1 n2 n3)
  clear hb1 ho hrn h0 n0 n1 n2 n3
  go_wp2_with fail
  refine (HC.out).mono ?_
  rintro e w2 ⟨hb2, h⟩
  have HB2 := Lib.hid (HB1.out.trans (hb2.mono HB1.out.size))
  have HR2 := Lib.hid (HR1.out.keep hb2 (Nat.le_refl _))
  rcases h with ⟨hp, v, rfl, how⟩ | ⟨hp, rfl⟩
  · obtain ⟨ao3, b3, c3, hv3, g1, g2, g3, g4⟩ := OwnPpl.ppl how
    obtain ⟨rfl, -, -⟩ := g3 (by simp)
    subst hv3
    have HKK := Lib.hid (show stepM L (wsL ss) = (L ++ [⟨y0, y1, y2, y3⟩], sOk) by rw [HK2.out, if_pos hp])
    have HP := Lib.hid g4
    have HG := Lib.hid (And.intro g1 g2)
    obtain ⟨M, hM⟩ : ∃ M, L ++ [⟨y0, y1, y2, y3⟩] = M := ⟨_, rfl⟩
    rw [hM] at HKK HP HG ⊢
    clear hb2 how g1 g2 g3 g4 hp hM
    go_wp2_with fail
    go_ret2
    exact lineQ_of HKK.out rfl HP.out HG.out.1 HG.out.2 HB2.out
  · have HKK := Lib.hid (show stepM L (wsL ss) = (L, sNo) by rw [HK2.out, if_neg (by rw [hp]; decide)])
    have HCC := Lib.hid (And.intro hc1 hc2)
    clear hb2 hp
    go_wp2_with fail
    go_ret2
    exact lineQ_of HKK.out rfl HR2.out HCC.out.1 HCC.out.2 HB2.out

set_option maxRecDepth 100000 in
set_option maxHeartbeats 4000000 in
theorem lineS2 : LineQC 2 := by
  intro b cap sb scap L ss w hr hv hc1 hc2 hrow hl1 hl2 hsz hkind
  have HN := Lib.hid (scrsS sb scap ss w hrow hl1 hl2 hsz)
  have h0 := hrow.2 0 (by omega)
  rw [Nat.zero_add] at h0
  have hsb : sb < w.heap.size := World.block_lt_of_cell? _ _ h0
  have HR := Lib.hid hr
  have HV := Lib.hid hv
  have HROW := Lib.hid hrow
  have HSZ := Lib.hid hsz
  have HNB := Lib.hid (numsB_eq ss)
  obtain ⟨hk0, hkn⟩ := kind_2 hkind
  rw [wsL_len] at hkn
  rw [wsL_at ss (by omega)] at hk0
  have hnl : (numsB ss).length = 1 := by rw [numsB_len]; omega
  have HK := Lib.hid (step_2 (L := L) hkind)
  obtain ⟨x, hx⟩ : ∃ x, ss.getD 0 ⟨#[]⟩ = x := ⟨_, rfl⟩
  rw [hx] at hk0 h0
  have t1 : (x.toList == [112, 101, 114, 115, 111, 110]) = false := word_f (by rw [hk0]; decide)
  have t2 : (x.toList == [100, 114, 111, 112]) = true := word_t hk0
  clear hx hk0 hkn hkind
  obtain ⟨y0, hy⟩ := one1 hnl
  rw [HNB.out, hy] at HK
  have HK2 := Lib.hid (show stepM L (wsL ss) = if 0 ≤ y0 ∧ y0 < L.length then (without L y0.toNat, sOk) else (L, sNo) from HK.out)
  rw [hy] at HN
  clear hnl hy HK
  clear hr hv hrow hsz
  go_enter Tryz.func16, Tryz.ntmps16
  go_wp2_with fail
  refine (HN.out).mono ?_
  rintro e w1 ⟨v1, rfl, ho, hb1⟩
  obtain ⟨an, bn, cn, rfl, hn1, hn2, hrn, -, -⟩ := ho.row
  have h01 := (hb1.cell (p := ⟨sb, 0, none⟩) hsb).trans h0
  have HB1 := Lib.hid hb1
  have HR1 := Lib.hid (HR.out.keep hb1 (Nat.le_refl _))
  have HRW1 := Lib.hid (HROW.out.keep hb1 (Nat.le_refl _))
  have n0 := hrn.2 0 (by simp)
  obtain rfl := hrn.1 (by simp)
  simp only [List.getD_cons_zero, Nat.zero_add] at n0
  simp only [List.length_cons, List.length_nil, Nat.zero_add] at hn1 ⊢
  have HCC := Lib.hid (And.intro hc1 hc2)
  by_cases hk : 0 ≤ y0 ∧ y0 < L.length
  · have HKK := Lib.hid (show stepM L (wsL ss) = (without L y0.toNat, sOk) by rw [HK2.out, if_pos hk])
    obtain ⟨k, rfl⟩ : ∃ k : Nat, y0 = k := ⟨y0.toNat, by omega⟩
    rw [Int.toNat_natCast] at HKK
    have HC := Lib.hid (dropArmS (some ⟨b, 0, none⟩) b cap L k w1 HR1.out HV.out (by omega) hc1 hc2)
    clear hb1 ho hrn h0 hk
    go_wp2_with fail
    refine (HC.out).mono ?_
    rintro e w2 ⟨v, rfl, hnn, how, hb2⟩
    have HB2 := Lib.hid (HB1.out.trans (hb2.mono HB1.out.size))
    obtain ⟨b3, c3, rfl, g1, g2, g3⟩ := own_some how hnn
    have HP := Lib.hid g1
    have HG := Lib.hid (And.intro g2 g3)
    obtain ⟨M, hM⟩ : ∃ M, without L k = M := ⟨_, rfl⟩
    rw [hM] at HKK HP HG ⊢
    clear hb2 how g1 g2 g3 hM hnn
    go_wp2_with fail
    go_ret2
    exact lineQ_of HKK.out rfl HP.out HG.out.1 HG.out.2 HB2.out
  · have HKK := Lib.hid (show stepM L (wsL ss) = (L, sNo) by rw [HK2.out, if_neg hk])
    have HC := Lib.hid (dropArmS_f (some ⟨b, 0, none⟩) b cap L y0 w1 HR1.out HV.out hk)
    clear hb1 ho hrn h0 hk
    go_wp2_with fail
    refine (HC.out).mono ?_
    rintro e w2 ⟨rfl, hb2⟩
    have HB2 := Lib.hid (HB1.out.trans (hb2.mono HB1.out.size))
    have HR2 := Lib.hid (HR1.out.keep hb2 (Nat.le_refl _))
    clear hb2
    go_wp2_with fail
    go_ret2
    exact lineQ_of HKK.out rfl HR2.out HCC.out.1 HCC.out.2 HB2.out

set_option maxRecDepth 100000 in
set_option maxHeartbeats 4000000 in
theorem lineSx (k : Nat) (h1k : k ≠ 1) (h2k : k ≠ 2) : LineQC k := by
  intro b cap sb scap L ss w hr hv hc1 hc2 hrow hl1 hl2 hsz hkind
  have HN := Lib.hid (scrsS sb scap ss w hrow hl1 hl2 hsz)
  have h0 := hrow.2 0 (by omega)
  rw [Nat.zero_add] at h0
  have hsb : sb < w.heap.size := World.block_lt_of_cell? _ _ h0
  have HR := Lib.hid hr
  have HV := Lib.hid hv
  have HROW := Lib.hid hrow
  have HSZ := Lib.hid hsz
  have HNB := Lib.hid (numsB_eq ss)
  have HASK := Lib.hid (fun (W : World) (hb : Below w.heap.size w W) => ask_any (wsL ss) (by rw [hkind]; exact h1k) (by rw [hkind]; exact h2k) (some ⟨b, 0, none⟩) b cap sb scap L ss W (hr.keep hb (Nat.le_refl _)) hv (hrow.keep hb (Nat.le_refl _)) hl1 hl2 hsz rfl)
  have HST := Lib.hid (show stepM L (wsL ss) = (L, (stepM L (wsL ss)).2) from Prod.ext (step_fst (by rw [hkind]; exact h1k) (by rw [hkind]; exact h2k)) rfl)
  have hnl := numsB_len ss
  obtain ⟨x, hx⟩ : ∃ x, ss.getD 0 ⟨#[]⟩ = x := ⟨_, rfl⟩
  have hw0 : (wsL ss).getD 0 [] = x.data.toList := by rw [wsL_at ss (by omega), hx]
  have hwl := wsL_len ss
  rw [hx] at h0
  have hz1 : x.data.toList = [112, 101, 114, 115, 111, 110] → (numsB ss).length ≠ 4 := fun h e => by
    apply h1k
    rw [← hkind]
    unfold kindM
    exact if_pos ⟨by rw [hw0, h]; rfl, by rw [hwl]; omega⟩
  have hz2 : x.data.toList = [100, 114, 111, 112] → (numsB ss).length ≠ 1 := fun h e => by
    apply h2k
    rw [← hkind]
    unfold kindM
    rw [if_neg (by rw [hw0, h]; rintro ⟨h9, -⟩; revert h9; decide)]
    exact if_pos ⟨by rw [hw0, h]; rfl, by rw [hwl]; omega⟩
  obtain ⟨N, hN⟩ : ∃ N, (numsB ss).length = N := ⟨_, rfl⟩
  rw [hN] at hz1 hz2
  have HNN := Lib.hid hN
  have HCC := Lib.hid (And.intro hc1 hc2)
  clear hx hw0 hwl hkind hnl hN
  by_cases e1 : x.data.toList = [112, 101, 114, 115, 111, 110]
  · have t1 : (x.toList == [112, 101, 114, 115, 111, 110]) = true := word_t e1
    have t2 : (x.toList == [100, 114, 111, 112]) = false := word_f (by rw [e1]; decide)
    have f1 : ((N : Int) == 4) = false := by rw [beq_eq_false_iff_ne]; have := hz1 e1; omega
    clear hz1 hz2 e1
    clear hr hv hrow hsz
    go_enter Tryz.func16, Tryz.ntmps16
    go_wp2_with fail
    refine (HN.out).mono ?_
    rintro e w1 ⟨v1, rfl, ho, hb1⟩
    obtain ⟨an, bn, cn, rfl, hn1, hn2, hrn, -, -⟩ := ho.row
    have h01 := (hb1.cell (p := ⟨sb, 0, none⟩) hsb).trans h0
    have HB1 := Lib.hid hb1
    have HR1 := Lib.hid (HR.out.keep hb1 (Nat.le_refl _))
    have HRW1 := Lib.hid (HROW.out.keep hb1 (Nat.le_refl _))
    rw [HNN.out] at hn1 ⊢
    clear hb1 ho hrn h0
    go_wp2_with fail
    refine (HASK.out w1 HB1.out).mono ?_
    rintro e w2 ⟨rfl, hb2⟩
    have HB2 := Lib.hid (HB1.out.trans (hb2.mono HB1.out.size))
    have HR2 := Lib.hid (HR1.out.keep hb2 (Nat.le_refl _))
    obtain ⟨o, ho9⟩ : ∃ o, (stepM L (wsL ss)).2 = o := ⟨_, rfl⟩
    rw [ho9] at HST ⊢
    clear hb2 ho9
    go_wp2_with fail
    go_ret2
    exact lineQ_of HST.out rfl HR2.out HCC.out.1 HCC.out.2 HB2.out
  · by_cases e2 : x.data.toList = [100, 114, 111, 112]
    · have t1 : (x.toList == [112, 101, 114, 115, 111, 110]) = false := word_f e1
      have t2 : (x.toList == [100, 114, 111, 112]) = true := word_t e2
      have f1 : ((N : Int) == 1) = false := by rw [beq_eq_false_iff_ne]; have := hz2 e2; omega
      clear hz1 hz2 e1 e2
      clear hr hv hrow hsz
      go_enter Tryz.func16, Tryz.ntmps16
      go_wp2_with fail
      refine (HN.out).mono ?_
      rintro e w1 ⟨v1, rfl, ho, hb1⟩
      obtain ⟨an, bn, cn, rfl, hn1, hn2, hrn, -, -⟩ := ho.row
      have h01 := (hb1.cell (p := ⟨sb, 0, none⟩) hsb).trans h0
      have HB1 := Lib.hid hb1
      have HR1 := Lib.hid (HR.out.keep hb1 (Nat.le_refl _))
      have HRW1 := Lib.hid (HROW.out.keep hb1 (Nat.le_refl _))
      rw [HNN.out] at hn1 ⊢
      clear hb1 ho hrn h0
      go_wp2_with fail
      refine (HASK.out w1 HB1.out).mono ?_
      rintro e w2 ⟨rfl, hb2⟩
      have HB2 := Lib.hid (HB1.out.trans (hb2.mono HB1.out.size))
      have HR2 := Lib.hid (HR1.out.keep hb2 (Nat.le_refl _))
      obtain ⟨o, ho9⟩ : ∃ o, (stepM L (wsL ss)).2 = o := ⟨_, rfl⟩
      rw [ho9] at HST ⊢
      clear hb2 ho9
      go_wp2_with fail
      go_ret2
      exact lineQ_of HST.out rfl HR2.out HCC.out.1 HCC.out.2 HB2.out
    · have t1 : (x.toList == [112, 101, 114, 115, 111, 110]) = false := word_f e1
      have t2 : (x.toList == [100, 114, 111, 112]) = false := word_f e2
      clear hz1 hz2 e1 e2
      clear hr hv hrow hsz
      go_enter Tryz.func16, Tryz.ntmps16
      go_wp2_with fail
      refine (HN.out).mono ?_
      rintro e w1 ⟨v1, rfl, ho, hb1⟩
      obtain ⟨an, bn, cn, rfl, hn1, hn2, hrn, -, -⟩ := ho.row
      have h01 := (hb1.cell (p := ⟨sb, 0, none⟩) hsb).trans h0
      have HB1 := Lib.hid hb1
      have HR1 := Lib.hid (HR.out.keep hb1 (Nat.le_refl _))
      have HRW1 := Lib.hid (HROW.out.keep hb1 (Nat.le_refl _))
      rw [HNN.out] at hn1 ⊢
      clear hb1 ho hrn h0
      go_wp2_with fail
      refine (HASK.out w1 HB1.out).mono ?_
      rintro e w2 ⟨rfl, hb2⟩
      have HB2 := Lib.hid (HB1.out.trans (hb2.mono HB1.out.size))
      have HR2 := Lib.hid (HR1.out.keep hb2 (Nat.le_refl _))
      obtain ⟨o, ho9⟩ : ∃ o, (stepM L (wsL ss)).2 = o := ⟨_, rfl⟩
      rw [ho9] at HST ⊢
      clear hb2 ho9
      go_wp2_with fail
      go_ret2
      exact lineQ_of HST.out rfl HR2.out HCC.out.1 HCC.out.2 HB2.out
end Go.Proofs.YtlmlchkolcmhpaaGreatDoor
