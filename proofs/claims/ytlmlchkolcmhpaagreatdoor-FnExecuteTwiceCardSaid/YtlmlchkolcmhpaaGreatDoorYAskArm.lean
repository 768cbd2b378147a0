/-
  Contract: spec.l51Ask.
-/
import Derived.Test.YtlmlchkolcmhpaaGreatDoorYArmP
import Derived.Test.YtlmlchkolcmhpaaGreatDoorJ6
namespace Go.Proofs.YtlmlchkolcmhpaaGreatDoor
open Go.RowKit
open Go.TextMath (tvB mvB text word)

theorem word_t {x : ByteArray} {l : List UInt8} (h : x.data.toList = l) : (x.toList == l) = true := by rw [Lib.toList_data, h]; simp
theorem word_f {x : ByteArray} {l : List UInt8} (h : x.data.toList ≠ l) : (x.toList == l) = false := by rw [beq_eq_false_iff_ne, Lib.toList_data]; exact h
theorem three3 {xs : List Int} (h : xs.length = 3) : ∃ y0 y1 y2, xs = [y0, y1, y2] := by
  match xs, h with
  | [a, b, c], _ => exact ⟨a, b, c, rfl⟩
theorem two2 {xs : List Int} (h : xs.length = 2) : ∃ y0 y1, xs = [y0, y1] := by
  match xs, h with
  | [a, b], _ => exact ⟨a, b, rfl⟩
theorem one1 {xs : List Int} (h : xs.length = 1) : ∃ y0, xs = [y0] := by
  match xs, h with
  | [a], _ => exact ⟨a, rfl⟩
theorem st_0 {L : List Per} {ws : List (List UInt8)} (h : kindM ws = 0) : stepM L ws = (L, sWhat) := by unfold stepM; rw [h]; rfl
theorem text_ne {T : List (List Int)} (h : tvB T = true) (M : List (List Bool)) : text T M ≠ [] := by
  have h1 := (tv_t.1 h).1
  have h2 := text_take (T := T) (k := 0) M (by omega)
  intro e
  have h3 := text_take (T := T) (k := T.length - 1) M (by omega)
  rw [show T.length - 1 + 1 = T.length by omega, List.take_length, e] at h3
  have h4 := congrArg List.length h3
  simp [Go.TextMath.line] at h4

/-- What l51Ask answers at a kind. -/
def AskC (k : Nat) : Prop := ∀ (ao : Option Addr) (b cap sb scap : Nat) (L : List Per) (ss : List ByteArray) (w : World), Ppl w ao b 0 L → pplB L = true → RowS w (some ⟨sb, 0, none⟩) sb 0 ss → 1 ≤ ss.length → ss.length ≤ 100000 → (∀ x ∈ ss, x.size ≤ 100000000) → kindM (wsL ss) = k →
  Calls Tryz.prog 32 #[.slice ao L.length cap, .slice (some ⟨sb, 0, none⟩) ss.length scap] w fun e w' => e = .returned (.string (bs (stepM L (wsL ss)).2)) ∧ Below w.heap.size w w'

set_option maxRecDepth 100000 in
set_option maxHeartbeats 4000000 in
theorem ask3 : AskC 3 := by
  intro ao b cap sb scap L ss w hr hv hrow hl1 hl2 hsz hkind
  have HN := Lib.hid (scrsS sb scap ss w hrow hl1 hl2 hsz)
  have h0 := hrow.2 0 (by omega)
  rw [Nat.zero_add] at h0
  have hsb : sb < w.heap.size := World.block_lt_of_cell? _ _ h0
  have HR := Lib.hid hr
  have HV := Lib.hid hv
  have HNB := Lib.hid (numsB_eq ss)
  obtain ⟨hk0, hkn⟩ := kind_3 hkind
  rw [wsL_len] at hkn
  rw [wsL_at ss (by omega)] at hk0
  have hnl : (numsB ss).length = 3 := by rw [numsB_len]; omega
  have HK := Lib.hid (step_3 (L := L) hkind)
  obtain ⟨x, hx⟩ : ∃ x, ss.getD 0 ⟨#[]⟩ = x := ⟨_, rfl⟩
  rw [hx] at hk0 h0
  have t3 : (x.toList == [99, 111, 117, 110, 116]) = true := word_t hk0
  clear hx hk0 hkn hkind
  obtain ⟨y0, y1, y2, hy⟩ := three3 hnl
  rw [HNB.out, hy] at HK
  rw [hy] at HN
  clear hnl hy
  clear hr hv hrow hsz
  go_enter Tryz.func32, Tryz.ntmps32
  go_wp2_with fail
  refine (HN.out).mono ?_
  rintro e w1 ⟨v1, rfl, ho, hb1⟩
  obtain ⟨an, bn, cn, rfl, hn1, hn2, hrn, -, -⟩ := ho.row
  have h01 := (hb1.cell (p := ⟨sb, 0, none⟩) hsb).trans h0
  have HB1 := Lib.hid hb1
  have HR1 := Lib.hid (HR.out.keep hb1 (Nat.le_refl _))
  have HRN := Lib.hid hrn
  have n0 := hrn.2 0 (by simp)
  have n1 := hrn.2 1 (by simp)
  have n2 := hrn.2 2 (by simp)
  obtain rfl := hrn.1 (by simp)
  simp only [List.getD_cons_zero, List.getD_cons_succ, Nat.zero_add] at n0 n1 n2
  simp only [List.length_cons, List.length_nil, Nat.zero_add, Nat.reduceAdd] at hn1 ⊢
  clear hb1 ho hrn h0
  have HC := Lib.hid (countArmS ao b cap bn cn L y0 y1 y2 w1 HR1.out HV.out n0 n1 n2)
  go_wp2_with fail
  refine (HC.out).mono ?_
  rintro e w2 ⟨rfl, hb2⟩
  have HB2 := Lib.hid (HB1.out.trans (hb2.mono HB1.out.size))
  obtain ⟨X, hX⟩ : ∃ X, bs (countM L [y0, y1, y2]) = X := ⟨_, rfl⟩
  rw [hX]
  have HX := Lib.hid hX
  clear hb2 hX
  go_wp2_with fail
  go_ret
  exact ⟨by rw [HK.out, show bs (countM L [y0, y1, y2]) = X from HX.out]; rfl, HB2.out⟩

set_option maxRecDepth 100000 in
set_option maxHeartbeats 4000000 in
theorem ask4 : AskC 4 := by
  intro ao b cap sb scap L ss w hr hv hrow hl1 hl2 hsz hkind
  have HN := Lib.hid (scrsS sb scap ss w hrow hl1 hl2 hsz)
  have h0 := hrow.2 0 (by omega)
  rw [Nat.zero_add] at h0
  have hsb : sb < w.heap.size := World.block_lt_of_cell? _ _ h0
  have HR := Lib.hid hr
  have HV := Lib.hid hv
  have HNB := Lib.hid (numsB_eq ss)
  obtain ⟨hk0, hkn⟩ := kind_4 hkind
  rw [wsL_len] at hkn
  rw [wsL_at ss (by omega)] at hk0
  have hnl : (numsB ss).length = 0 := by rw [numsB_len]; omega
  have HK := Lib.hid (step_4 (L := L) hkind)
  obtain ⟨x, hx⟩ : ∃ x, ss.getD 0 ⟨#[]⟩ = x := ⟨_, rfl⟩
  rw [hx] at hk0 h0
  have t3 : (x.toList == [99, 111, 117, 110, 116]) = false := word_f (by rw [hk0]; decide)
  have t4 : (x.toList == [116, 97, 98, 108, 101]) = true := word_t hk0
  clear hx hk0 hkn hkind
  have hy : numsB ss = [] := List.eq_nil_of_length_eq_zero hnl
  rw [hy] at HN
  clear hnl hy
  clear hr hv hrow hsz
  go_enter Tryz.func32, Tryz.ntmps32
  go_wp2_with fail
  refine (HN.out).mono ?_
  rintro e w1 ⟨v1, rfl, ho, hb1⟩
  obtain ⟨an, bn, cn, rfl, hn1, hn2, hrn, -, -⟩ := ho.row
  have h01 := (hb1.cell (p := ⟨sb, 0, none⟩) hsb).trans h0
  have HB1 := Lib.hid hb1
  have HR1 := Lib.hid (HR.out.keep hb1 (Nat.le_refl _))
  have HRN := Lib.hid hrn
  simp only [List.length_nil] at hn1 ⊢
  clear hb1 ho hrn h0
  have HTO := Lib.hid (tableOfS ao b 0 cap L w1 HR1.out HV.out)
  have HTV := Lib.hid (tabO_tv HV.out)
  obtain ⟨T, hT⟩ : ∃ T, tabO L = T := ⟨_, rfl⟩
  rw [hT] at HTO HTV HK
  have h4 := (tv_t.1 HTV.out).2.1
  clear hT
  go_wp2_with fail
  refine (HTO.out).mono ?_
  rintro e w2 ⟨v2, g2, rfl, hm2, hb2⟩
  obtain ⟨a2, b2, c2, rfl, k1, k2, htab⟩ := hm2.tab
  have HB2 := Lib.hid (HB1.out.trans (hb2.mono HB1.out.size))
  have HTAB := Lib.hid htab
  clear hm2 hb2 htab
  go_wp2_with fail
  refine (tableTextS a2 b2 0 c2 T w2 HTAB.out (by omega)).mono ?_
  rintro e w3 ⟨rfl, hb3⟩
  have HB3 := Lib.hid (HB2.out.trans (hb3.mono HB2.out.size))
  rw [tt_t HTV.out]
  have HOR := Lib.hid (orS (text T []) (text_ne HTV.out []) w3)
  obtain ⟨X, hX⟩ : ∃ X : ByteArray, bs (text T []) = X := ⟨_, rfl⟩
  have HX := Lib.hid hX
  rw [hX] at HOR
  rw [show (⟨(text T []).toArray⟩ : ByteArray) = X from hX]
  clear hb3 hX
  go_wp2_with fail
  refine (HOR.out).mono ?_
  rintro e w4 ⟨rfl, rfl⟩
  go_wp2_with fail
  go_ret
  exact ⟨by rw [HK.out, show bs (text T []) = X from HX.out]; rfl, HB3.out⟩

set_option maxRecDepth 100000 in
set_option maxHeartbeats 4000000 in
theorem ask5 : AskC 5 := by
  intro ao b cap sb scap L ss w hr hv hrow hl1 hl2 hsz hkind
  have HN := Lib.hid (scrsS sb scap ss w hrow hl1 hl2 hsz)
  have h0 := hrow.2 0 (by omega)
  rw [Nat.zero_add] at h0
  have hsb : sb < w.heap.size := World.block_lt_of_cell? _ _ h0
  have HR := Lib.hid hr
  have HV := Lib.hid hv
  have HNB := Lib.hid (numsB_eq ss)
  obtain ⟨hk0, hkn⟩ := kind_5 hkind
  rw [wsL_len] at hkn
  rw [wsL_at ss (by omega)] at hk0
  have hnl : (numsB ss).length = 1 := by rw [numsB_len]; omega
  have HK := Lib.hid (step_5 (L := L) hkind)
  obtain ⟨x, hx⟩ : ∃ x, ss.getD 0 ⟨#[]⟩ = x := ⟨_, rfl⟩
  rw [hx] at hk0 h0
  have t3 : (x.toList == [99, 111, 117, 110, 116]) = false := word_f (by rw [hk0]; decide)
  have t4 : (x.toList == [116, 97, 98, 108, 101]) = false := word_f (by rw [hk0]; decide)
  have t5 : (x.toList == [115, 109, 97, 108, 108]) = true := word_t hk0
  clear hx hk0 hkn hkind
  obtain ⟨y0, hy⟩ := one1 hnl
  rw [HNB.out, hy] at HK
  rw [hy] at HN
  clear hnl hy
  clear hr hv hrow hsz
  go_enter Tryz.func32, Tryz.ntmps32
  go_wp2_with fail
  refine (HN.out).mono ?_
  rintro e w1 ⟨v1, rfl, ho, hb1⟩
  obtain ⟨an, bn, cn, rfl, hn1, hn2, hrn, -, -⟩ := ho.row
  have h01 := (hb1.cell (p := ⟨sb, 0, none⟩) hsb).trans h0
  have HB1 := Lib.hid hb1
  have HR1 := Lib.hid (HR.out.keep hb1 (Nat.le_refl _))
  have HRN := Lib.hid hrn
  have n0 := hrn.2 0 (by simp)
  obtain rfl := hrn.1 (by simp)
  simp only [List.getD_cons_zero, Nat.zero_add] at n0
  simp only [List.length_cons, List.length_nil, Nat.zero_add] at hn1 ⊢
  clear hb1 ho hrn h0
  have HC := Lib.hid (smallArmS ao b cap L y0 w1 HR1.out HV.out)
  go_wp2_with fail
  refine (HC.out).mono ?_
  rintro e w2 ⟨rfl, hb2⟩
  have HB2 := Lib.hid (HB1.out.trans (hb2.mono HB1.out.size))
  obtain ⟨X, hX⟩ : ∃ X, bs (text (tabO L) (maskS (tabO L) y0)) = X := ⟨_, rfl⟩
  rw [hX]
  have HX := Lib.hid hX
  clear hb2 hX
  go_wp2_with fail
  go_ret
  exact ⟨by rw [HK.out]; show Ending.returned (Value.string X) = _; rw [← show bs (text (tabO L) (maskS (tabO L) y0)) = X from HX.out] <;> rfl, HB2.out⟩

set_option maxRecDepth 100000 in
set_option maxHeartbeats 4000000 in
theorem ask6 : AskC 6 := by
  intro ao b cap sb scap L ss w hr hv hrow hl1 hl2 hsz hkind
  have HN := Lib.hid (scrsS sb scap ss w hrow hl1 hl2 hsz)
  have h0 := hrow.2 0 (by omega)
  rw [Nat.zero_add] at h0
  have hsb : sb < w.heap.size := World.block_lt_of_cell? _ _ h0
  have HR := Lib.hid hr
  have HV := Lib.hid hv
  have HNB := Lib.hid (numsB_eq ss)
  obtain ⟨hk0, hkn⟩ := kind_6 hkind
  rw [wsL_len] at hkn
  rw [wsL_at ss (by omega)] at hk0
  have hnl : (numsB ss).length = 2 := by rw [numsB_len]; omega
  have HK := Lib.hid (step_6 (L := L) hkind)
  obtain ⟨x, hx⟩ : ∃ x, ss.getD 0 ⟨#[]⟩ = x := ⟨_, rfl⟩
  rw [hx] at hk0 h0
  have t3 : (x.toList == [99, 111, 117, 110, 116]) = false := word_f (by rw [hk0]; decide)
  have t4 : (x.toList == [116, 97, 98, 108, 101]) = false := word_f (by rw [hk0]; decide)
  have t5 : (x.toList == [115, 109, 97, 108, 108]) = false := word_f (by rw [hk0]; decide)
  have t6 : (x.toList == [103, 114, 111, 119]) = true := word_t hk0
  clear hx hk0 hkn hkind
  obtain ⟨y0, y1, hy⟩ := two2 hnl
  rw [HNB.out, hy] at HK
  rw [hy] at HN
  clear hnl hy
  clear hr hv hrow hsz
  go_enter Tryz.func32, Tryz.ntmps32
  go_wp2_with fail
  refine (HN.out).mono ?_
  rintro e w1 ⟨v1, rfl, ho, hb1⟩
  obtain ⟨an, bn, cn, rfl, hn1, hn2, hrn, -, -⟩ := ho.row
  have h01 := (hb1.cell (p := ⟨sb, 0, none⟩) hsb).trans h0
  have HB1 := Lib.hid hb1
  have HR1 := Lib.hid (HR.out.keep hb1 (Nat.le_refl _))
  have HRN := Lib.hid hrn
  have n0 := hrn.2 0 (by simp)
  have n1 := hrn.2 1 (by simp)
  obtain rfl := hrn.1 (by simp)
  simp only [List.getD_cons_zero, List.getD_cons_succ, Nat.zero_add] at n0 n1
  simp only [List.length_cons, List.length_nil, Nat.zero_add, Nat.reduceAdd] at hn1 ⊢
  clear hb1 ho hrn h0
  have HC := Lib.hid (fun (W : World) (hb : Below w1.heap.size w1 W) => growArmS ao b cap L y0 y1 W (HR1.out.keep hb (Nat.le_refl _)) HV.out)
  go_wp2_with fail
  go_still_tail 7, (by kernel_rfl)
  have hd := (Below.refl w1.heap.size w1).drew
  change wpList _ _ _ _ _ w1.drew
  obtain ⟨Wd, hWd⟩ : ∃ Wd, w1.drew = Wd := ⟨_, rfl⟩
  rw [hWd] at hd ⊢
  have HD := Lib.hid hd
  have HBD := Lib.hid (HB1.out.trans (hd.mono HB1.out.size))
  clear hWd hd
  go_wp2_with fail
  refine (HC.out Wd HD.out).mono ?_
  rintro e w2 ⟨rfl, hb2⟩
  have HB2 := Lib.hid (HBD.out.trans (hb2.mono HBD.out.size))
  obtain ⟨X, hX⟩ : ∃ X, bs (growS (tabO L) y0 y1) = X := ⟨_, rfl⟩
  rw [hX]
  have HX := Lib.hid hX
  clear hb2 hX
  go_wp2_with fail
  go_ret
  exact ⟨by rw [HK.out]; show Ending.returned (Value.string X) = _; rw [← show bs (growS (tabO L) y0 y1) = X from HX.out] <;> rfl, HB2.out⟩

set_option maxRecDepth 100000 in
set_option maxHeartbeats 4000000 in
theorem ask7 : AskC 7 := by
  intro ao b cap sb scap L ss w hr hv hrow hl1 hl2 hsz hkind
  have HN := Lib.hid (scrsS sb scap ss w hrow hl1 hl2 hsz)
  have h0 := hrow.2 0 (by omega)
  rw [Nat.zero_add] at h0
  have hsb : sb < w.heap.size := World.block_lt_of_cell? _ _ h0
  have HR := Lib.hid hr
  have HV := Lib.hid hv
  have HNB := Lib.hid (numsB_eq ss)
  obtain ⟨hk0, hkn⟩ := kind_7 hkind
  rw [wsL_len] at hkn
  rw [wsL_at ss (by omega)] at hk0
  have hnl : (numsB ss).length = 1 := by rw [numsB_len]; omega
  have HK := Lib.hid (step_7 (L := L) hkind)
  obtain ⟨x, hx⟩ : ∃ x, ss.getD 0 ⟨#[]⟩ = x := ⟨_, rfl⟩
  rw [hx] at hk0 h0
  have t3 : (x.toList == [99, 111, 117, 110, 116]) = false := word_f (by rw [hk0]; decide)
  have t4 : (x.toList == [116, 97, 98, 108, 101]) = false := word_f (by rw [hk0]; decide)
  have t5 : (x.toList == [115, 109, 97, 108, 108]) = false := word_f (by rw [hk0]; decide)
  have t6 : (x.toList == [103, 114, 111, 119]) = false := word_f (by rw [hk0]; decide)
  have t7 : (x.toList == [114, 111, 117, 110, 100]) = true := word_t hk0
  clear hx hk0 hkn hkind
  obtain ⟨y0, hy⟩ := one1 hnl
  rw [HNB.out, hy] at HK
  rw [hy] at HN
  clear hnl hy
  clear hr hv hrow hsz
  go_enter Tryz.func32, Tryz.ntmps32
  go_wp2_with fail
  refine (HN.out).mono ?_
  rintro e w1 ⟨v1, rfl, ho, hb1⟩
  obtain ⟨an, bn, cn, rfl, hn1, hn2, hrn, -, -⟩ := ho.row
  have h01 := (hb1.cell (p := ⟨sb, 0, none⟩) hsb).trans h0
  have HB1 := Lib.hid hb1
  have HR1 := Lib.hid (HR.out.keep hb1 (Nat.le_refl _))
  have HRN := Lib.hid hrn
  have n0 := hrn.2 0 (by simp)
  obtain rfl := hrn.1 (by simp)
  simp only [List.getD_cons_zero, Nat.zero_add] at n0
  simp only [List.length_cons, List.length_nil, Nat.zero_add] at hn1 ⊢
  clear hb1 ho hrn h0
  cases hbx : baseB y0 with
  | false =>
    have HC := Lib.hid (roundArmS_f ao b cap L y0 w1 HR1.out HV.out hbx)
    have HBX := Lib.hid hbx
    clear hbx
    go_wp2_with fail
    refine (HC.out).mono ?_
    rintro e w2 ⟨rfl, hb2⟩
    have HB2 := Lib.hid (HB1.out.trans (hb2.mono HB1.out.size))
    obtain ⟨X, hX⟩ : ∃ X, bs (sNo) = X := ⟨_, rfl⟩
    rw [hX]
    have HX := Lib.hid hX
    clear hb2 hX
    go_wp2_with fail
    go_ret
    exact ⟨by rw [HK.out]; show Ending.returned (Value.string X) = _; rw [← show bs (roundM (tabO L) y0) = X from (show bs (roundM (tabO L) y0) = X by unfold roundM; rw [HBX.out]; exact HX.out)] <;> rfl, HB2.out⟩
  | true =>
    have HC := Lib.hid (roundArmS_t ao b cap L y0 w1 HR1.out HV.out hbx)
    have HBX := Lib.hid hbx
    clear hbx
    go_wp2_with fail
    refine (HC.out).mono ?_
    rintro e w2 ⟨rfl, hb2⟩
    have HB2 := Lib.hid (HB1.out.trans (hb2.mono HB1.out.size))
    obtain ⟨X, hX⟩ : ∃ X, bs (text (nearT (tabO L) y0) []) = X := ⟨_, rfl⟩
    rw [hX]
    have HX := Lib.hid hX
    clear hb2 hX
    go_wp2_with fail
    go_ret
    exact ⟨by rw [HK.out]; show Ending.returned (Value.string X) = _; rw [← show bs (roundM (tabO L) y0) = X from (show bs (roundM (tabO L) y0) = X by unfold roundM; rw [HBX.out]; exact HX.out)] <;> rfl, HB2.out⟩

set_option maxRecDepth 100000 in
set_option maxHeartbeats 4000000 in
theorem ask8 : AskC 8 := by
  intro ao b cap sb scap L ss w hr hv hrow hl1 hl2 hsz hkind
  have HN := Lib.hid (scrsS sb scap ss w hrow hl1 hl2 hsz)
  have h0 := hrow.2 0 (by omega)
  rw [Nat.zero_add] at h0
  have hsb : sb < w.heap.size := World.block_lt_of_cell? _ _ h0
  have HR := Lib.hid hr
  have HV := Lib.hid hv
  have HNB := Lib.hid (numsB_eq ss)
  obtain ⟨hk0, hkn⟩ := kind_8 hkind
  rw [wsL_len] at hkn
  rw [wsL_at ss (by omega)] at hk0
  have hnl : (numsB ss).length = 0 := by rw [numsB_len]; omega
  have HK := Lib.hid (step_8 (L := L) hkind)
  obtain ⟨x, hx⟩ : ∃ x, ss.getD 0 ⟨#[]⟩ = x := ⟨_, rfl⟩
  rw [hx] at hk0 h0
  have t3 : (x.toList == [99, 111, 117, 110, 116]) = false := word_f (by rw [hk0]; decide)
  have t4 : (x.toList == [116, 97, 98, 108, 101]) = false := word_f (by rw [hk0]; decide)
  have t5 : (x.toList == [115, 109, 97, 108, 108]) = false := word_f (by rw [hk0]; decide)
  have t6 : (x.toList == [103, 114, 111, 119]) = false := word_f (by rw [hk0]; decide)
  have t7 : (x.toList == [114, 111, 117, 110, 100]) = false := word_f (by rw [hk0]; decide)
  have t8 : (x.toList == [103, 114, 111, 117, 112, 115]) = true := word_t hk0
  clear hx hk0 hkn hkind
  have hy : numsB ss = [] := List.eq_nil_of_length_eq_zero hnl
  rw [hy] at HN
  clear hnl hy
  clear hr hv hrow hsz
  go_enter Tryz.func32, Tryz.ntmps32
  go_wp2_with fail
  refine (HN.out).mono ?_
  rintro e w1 ⟨v1, rfl, ho, hb1⟩
  obtain ⟨an, bn, cn, rfl, hn1, hn2, hrn, -, -⟩ := ho.row
  have h01 := (hb1.cell (p := ⟨sb, 0, none⟩) hsb).trans h0
  have HB1 := Lib.hid hb1
  have HR1 := Lib.hid (HR.out.keep hb1 (Nat.le_refl _))
  have HRN := Lib.hid hrn
  simp only [List.length_nil] at hn1 ⊢
  clear hb1 ho hrn h0
  have HC := Lib.hid (groupsArmS ao b cap L w1 HR1.out HV.out)
  go_wp2_with fail
  refine (HC.out).mono ?_
  rintro e w2 ⟨rfl, hb2⟩
  have HB2 := Lib.hid (HB1.out.trans (hb2.mono HB1.out.size))
  obtain ⟨X, hX⟩ : ∃ X, bs (groupsM L) = X := ⟨_, rfl⟩
  rw [hX]
  have HX := Lib.hid hX
  clear hb2 hX
  go_wp2_with fail
  go_ret
  exact ⟨by rw [HK.out]; show Ending.returned (Value.string X) = _; rw [← show bs (groupsM L) = X from HX.out] <;> rfl, HB2.out⟩

set_option maxRecDepth 100000 in
set_option maxHeartbeats 8000000 in
theorem ask0 : AskC 0 := by
  intro ao b cap sb scap L ss w hr hv hrow hl1 hl2 hsz hkind
  have HN := Lib.hid (scrsS sb scap ss w hrow hl1 hl2 hsz)
  have h0 := hrow.2 0 (by omega)
  rw [Nat.zero_add] at h0
  have hsb : sb < w.heap.size := World.block_lt_of_cell? _ _ h0
  have HR := Lib.hid hr
  have HV := Lib.hid hv
  have HNB := Lib.hid (numsB_eq ss)
  have HK := Lib.hid (st_0 (L := L) hkind)
  have hnl := numsB_len ss
  obtain ⟨x, hx⟩ : ∃ x, ss.getD 0 ⟨#[]⟩ = x := ⟨_, rfl⟩
  have hw0 : (wsL ss).getD 0 [] = x.data.toList := by rw [wsL_at ss (by omega), hx]
  have hwl := wsL_len ss
  rw [hx] at h0
  have HNO : (x.data.toList = [99, 111, 117, 110, 116] → (numsB ss).length ≠ 3) ∧ (x.data.toList = [116, 97, 98, 108, 101] → (numsB ss).length ≠ 0) ∧ (x.data.toList = [115, 109, 97, 108, 108] → (numsB ss).length ≠ 1) ∧ (x.data.toList = [103, 114, 111, 119] → (numsB ss).length ≠ 2) ∧ (x.data.toList = [114, 111, 117, 110, 100] → (numsB ss).length ≠ 1) ∧ (x.data.toList = [103, 114, 111, 117, 112, 115] → (numsB ss).length ≠ 0) := by
    unfold kindM at hkind
    rw [hw0, hwl] at hkind
    refine ⟨?_, ?_, ?_, ?_, ?_, ?_⟩
    all_goals
      intro h e
      have hl9 : ss.length = (numsB ss).length + 1 := by omega
      rw [h, hl9, e] at hkind
      revert hkind
      decide
  obtain ⟨z3, z4, z5, z6, z7, z8⟩ := HNO
  obtain ⟨N, hN⟩ : ∃ N, (numsB ss).length = N := ⟨_, rfl⟩
  rw [hN] at z3 z4 z5 z6 z7 z8
  have HNN := Lib.hid hN
  clear hx hw0 hwl hkind hnl hN
  by_cases e3 : x.data.toList = [99, 111, 117, 110, 116]
  · have t3 : (x.toList == [99, 111, 117, 110, 116]) = true := word_t e3
    have t4 : (x.toList == [116, 97, 98, 108, 101]) = false := word_f (by rw [e3]; decide)
    have t5 : (x.toList == [115, 109, 97, 108, 108]) = false := word_f (by rw [e3]; decide)
    have t6 : (x.toList == [103, 114, 111, 119]) = false := word_f (by rw [e3]; decide)
    have t7 : (x.toList == [114, 111, 117, 110, 100]) = false := word_f (by rw [e3]; decide)
    have t8 : (x.toList == [103, 114, 111, 117, 112, 115]) = false := word_f (by rw [e3]; decide)
    have f3 : ((N : Int) == 3) = false := by rw [beq_eq_false_iff_ne]; have := z3 e3; omega
    clear z3 z4 z5 z6 z7 z8 e3
    clear hr hv hrow hsz
    go_enter Tryz.func32, Tryz.ntmps32
    go_wp2_with fail
    refine (HN.out).mono ?_
    rintro e w1 ⟨v1, rfl, ho, hb1⟩
    obtain ⟨an, bn, cn, rfl, hn1, hn2, hrn, -, -⟩ := ho.row
    have h01 := (hb1.cell (p := ⟨sb, 0, none⟩) hsb).trans h0
    have HB1 := Lib.hid hb1
    have HR1 := Lib.hid (HR.out.keep hb1 (Nat.le_refl _))
    have HRN := Lib.hid hrn
    rw [HNN.out] at hn1 ⊢
    clear hb1 ho hrn h0
    go_wp2_with fail
    go_ret
    exact ⟨by rw [HK.out]; rfl, HB1.out⟩
  · skip
    by_cases e4 : x.data.toList = [116, 97, 98, 108, 101]
    · have t3 : (x.toList == [99, 111, 117, 110, 116]) = false := word_f (by rw [e4]; decide)
      have t4 : (x.toList == [116, 97, 98, 108, 101]) = true := word_t e4
      have t5 : (x.toList == [115, 109, 97, 108, 108]) = false := word_f (by rw [e4]; decide)
      have t6 : (x.toList == [103, 114, 111, 119]) = false := word_f (by rw [e4]; decide)
      have t7 : (x.toList == [114, 111, 117, 110, 100]) = false := word_f (by rw [e4]; decide)
      have t8 : (x.toList == [103, 114, 111, 117, 112, 115]) = false := word_f (by rw [e4]; decide)
      have f4 : ((N : Int) == 0) = false := by rw [beq_eq_false_iff_ne]; have := z4 e4; omega
      clear z3 z4 z5 z6 z7 z8 e3 e4
      clear hr hv hrow hsz
      go_enter Tryz.func32, Tryz.ntmps32
      go_wp2_with fail
      refine (HN.out).mono ?_
      rintro e w1 ⟨v1, rfl, ho, hb1⟩
      obtain ⟨an, bn, cn, rfl, hn1, hn2, hrn, -, -⟩ := ho.row
      have h01 := (hb1.cell (p := ⟨sb, 0, none⟩) hsb).trans h0
      have HB1 := Lib.hid hb1
      have HR1 := Lib.hid (HR.out.keep hb1 (Nat.le_refl _))
      have HRN := Lib.hid hrn
      rw [HNN.out] at hn1 ⊢
      clear hb1 ho hrn h0
      go_wp2_with fail
      go_ret
      exact ⟨by rw [HK.out]; rfl, HB1.out⟩
    · skip
      by_cases e5 : x.data.toList = [115, 109, 97, 108, 108]
      · have t3 : (x.toList == [99, 111, 117, 110, 116]) = false := word_f (by rw [e5]; decide)
        have t4 : (x.toList == [116, 97, 98, 108, 101]) = false := word_f (by rw [e5]; decide)
        have t5 : (x.toList == [115, 109, 97, 108, 108]) = true := word_t e5
        have t6 : (x.toList == [103, 114, 111, 119]) = false := word_f (by rw [e5]; decide)
        have t7 : (x.toList == [114, 111, 117, 110, 100]) = false := word_f (by rw [e5]; decide)
        have t8 : (x.toList == [103, 114, 111, 117, 112, 115]) = false := word_f (by rw [e5]; decide)
        have f5 : ((N : Int) == 1) = false := by rw [beq_eq_false_iff_ne]; have := z5 e5; omega
        clear z3 z4 z5 z6 z7 z8 e3 e4 e5
        clear hr hv hrow hsz
        go_enter Tryz.func32, Tryz.ntmps32
        go_wp2_with fail
        refine (HN.out).mono ?_
        rintro e w1 ⟨v1, rfl, ho, hb1⟩
        obtain ⟨an, bn, cn, rfl, hn1, hn2, hrn, -, -⟩ := ho.row
        have h01 := (hb1.cell (p := ⟨sb, 0, none⟩) hsb).trans h0
        have HB1 := Lib.hid hb1
        have HR1 := Lib.hid (HR.out.keep hb1 (Nat.le_refl _))
        have HRN := Lib.hid hrn
        rw [HNN.out] at hn1 ⊢
        clear hb1 ho hrn h0
        go_wp2_with fail
        go_ret
        exact ⟨by rw [HK.out]; rfl, HB1.out⟩
      · skip
        by_cases e6 : x.data.toList = [103, 114, 111, 119]
        · have t3 : (x.toList == [99, 111, 117, 110, 116]) = false := word_f (by rw [e6]; decide)
          have t4 : (x.toList == [116, 97, 98, 108, 101]) = false := word_f (by rw [e6]; decide)
          have t5 : (x.toList == [115, 109, 97, 108, 108]) = false := word_f (by rw [e6]; decide)
          have t6 : (x.toList == [103, 114, 111, 119]) = true := word_t e6
          have t7 : (x.toList == [114, 111, 117, 110, 100]) = false := word_f (by rw [e6]; decide)
          have t8 : (x.toList == [103, 114, 111, 117, 112, 115]) = false := word_f (by rw [e6]; decide)
          have f6 : ((N : Int) == 2) = false := by rw [beq_eq_false_iff_ne]; have := z6 e6; omega
          clear z3 z4 z5 z6 z7 z8 e3 e4 e5 e6
          clear hr hv hrow hsz
          go_enter Tryz.func32, Tryz.ntmps32
          go_wp2_with fail
          refine (HN.out).mono ?_
          rintro e w1 ⟨v1, rfl, ho, hb1⟩
          obtain ⟨an, bn, cn, rfl, hn1, hn2, hrn, -, -⟩ := ho.row
          have h01 := (hb1.cell (p := ⟨sb, 0, none⟩) hsb).trans h0
          have HB1 := Lib.hid hb1
          have HR1 := Lib.hid (HR.out.keep hb1 (Nat.le_refl _))
          have HRN := Lib.hid hrn
          rw [HNN.out] at hn1 ⊢
          clear hb1 ho hrn h0
          go_wp2_with fail
          go_ret
          exact ⟨by rw [HK.out]; rfl, HB1.out⟩
        · skip
          by_cases e7 : x.data.toList = [114, 111, 117, 110, 100]
          · have t3 : (x.toList == [99, 111, 117, 110, 116]) = false := word_f (by rw [e7]; decide)
            have t4 : (x.toList == [116, 97, 98, 108, 101]) = false := word_f (by rw [e7]; decide)
            have t5 : (x.toList == [115, 109, 97, 108, 108]) = false := word_f (by rw [e7]; decide)
            have t6 : (x.toList == [103, 114, 111, 119]) = false := word_f (by rw [e7]; decide)
            have t7 : (x.toList == [114, 111, 117, 110, 100]) = true := word_t e7
            have t8 : (x.toList == [103, 114, 111, 117, 112, 115]) = false := word_f (by rw [e7]; decide)
            have f7 : ((N : Int) == 1) = false := by rw [beq_eq_false_iff_ne]; have := z7 e7; omega
            clear z3 z4 z5 z6 z7 z8 e3 e4 e5 e6 e7
            clear hr hv hrow hsz
            go_enter Tryz.func32, Tryz.ntmps32
            go_wp2_with fail
            refine (HN.out).mono ?_
            rintro e w1 ⟨v1, rfl, ho, hb1⟩
            obtain ⟨an, bn, cn, rfl, hn1, hn2, hrn, -, -⟩ := ho.row
            have h01 := (hb1.cell (p := ⟨sb, 0, none⟩) hsb).trans h0
            have HB1 := Lib.hid hb1
            have HR1 := Lib.hid (HR.out.keep hb1 (Nat.le_refl _))
            have HRN := Lib.hid hrn
            rw [HNN.out] at hn1 ⊢
            clear hb1 ho hrn h0
            go_wp2_with fail
            go_ret
            exact ⟨by rw [HK.out]; rfl, HB1.out⟩
          · skip
            by_cases e8 : x.data.toList = [103, 114, 111, 117, 112, 115]
            · have t3 : (x.toList == [99, 111, 117, 110, 116]) = false := word_f (by rw [e8]; decide)
              have t4 : (x.toList == [116, 97, 98, 108, 101]) = false := word_f (by rw [e8]; decide)
              have t5 : (x.toList == [115, 109, 97, 108, 108]) = false := word_f (by rw [e8]; decide)
              have t6 : (x.toList == [103, 114, 111, 119]) = false := word_f (by rw [e8]; decide)
              have t7 : (x.toList == [114, 111, 117, 110, 100]) = false := word_f (by rw [e8]; decide)
              have t8 : (x.toList == [103, 114, 111, 117, 112, 115]) = true := word_t e8
              have f8 : ((N : Int) == 0) = false := by rw [beq_eq_false_iff_ne]; have := z8 e8; omega
              clear z3 z4 z5 z6 z7 z8 e3 e4 e5 e6 e7 e8
              clear hr hv hrow hsz
              go_enter Tryz.func32, Tryz.ntmps32
              go_wp2_with fail
              refine (HN.out).mono ?_
              rintro e w1 ⟨v1, rfl, ho, hb1⟩
              obtain ⟨an, bn, cn, rfl, hn1, hn2, hrn, -, -⟩ := ho.row
              have h01 := (hb1.cell (p := ⟨sb, 0, none⟩) hsb).trans h0
              have HB1 := Lib.hid hb1
              have HR1 := Lib.hid (HR.out.keep hb1 (Nat.le_refl _))
              have HRN := Lib.hid hrn
              rw [HNN.out] at hn1 ⊢
              clear hb1 ho hrn h0
              go_wp2_with fail
              go_ret
              exact ⟨by rw [HK.out]; rfl, HB1.out⟩
            · have t3 : (x.toList == [99, 111, 117, 110, 116]) = false := word_f e3
              have t4 : (x.toList == [116, 97, 98, 108, 101]) = false := word_f e4
              have t5 : (x.toList == [115, 109, 97, 108, 108]) = false := word_f e5
              have t6 : (x.toList == [103, 114, 111, 119]) = false := word_f e6
              have t7 : (x.toList == [114, 111, 117, 110, 100]) = false := word_f e7
              have t8 : (x.toList == [103, 114, 111, 117, 112, 115]) = false := word_f e8
              clear z3 z4 z5 z6 z7 z8 e3 e4 e5 e6 e7 e8
              clear hr hv hrow hsz
              go_enter Tryz.func32, Tryz.ntmps32
              go_wp2_with fail
              refine (HN.out).mono ?_
              rintro e w1 ⟨v1, rfl, ho, hb1⟩
              obtain ⟨an, bn, cn, rfl, hn1, hn2, hrn, -, -⟩ := ho.row
              have h01 := (hb1.cell (p := ⟨sb, 0, none⟩) hsb).trans h0
              have HB1 := Lib.hid hb1
              have HR1 := Lib.hid (HR.out.keep hb1 (Nat.le_refl _))
              have HRN := Lib.hid hrn
              rw [HNN.out] at hn1 ⊢
              clear hb1 ho hrn h0
              go_wp2_with fail
              go_ret
              exact ⟨by rw [HK.out]; rfl, HB1.out⟩

theorem ask_any (ws : List (List UInt8)) (h1 : kindM ws ≠ 1) (h2 : kindM ws ≠ 2) : AskC (kindM ws) := by
  unfold kindM at h1 h2 ⊢
  split
  · next h => rw [if_pos h] at h1; exact absurd rfl h1
  next h3 =>
  rw [if_neg h3] at h2
  split
  · next h => rw [if_pos h] at h2; exact absurd rfl h2
  split
  · exact ask3
  split
  · exact ask4
  split
  · exact ask5
  split
  · exact ask6
  split
  · exact ask7
  split
  · exact ask8
  · exact ask0
end Go.Proofs.YtlmlchkolcmhpaaGreatDoor
