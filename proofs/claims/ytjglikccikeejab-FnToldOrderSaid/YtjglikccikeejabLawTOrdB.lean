/-
  The walk of the law FnToldOrder.
-/
import Derived.Test.YtjglikccikeejabAskV
import Derived.Test.YtjglikccikeejabAskSafe
import Derived.Test.YtjglikccikeejabAskS3
import Derived.Test.YtjglikccikeejabDrawT
import Derived.Test.YtjglikccikeejabDrawN
import Derived.Deep.RegionLaw
import Derived.Deep.DeepCutAuto
namespace Go.Proofs.Ytjglikccikeejab
open Go.RowKit
open Go.AskMath (rnk tel tld)

/-- An operation whose guard holds runs as one that has none. -/
theorem app_g {P : Program} {ops : Array Oper} {o : Oper} {a : Act} {w : World} {K : Act → World → Prop} {Q : Exit → Act → World → Prop} {E : Prop}
    (hw : Region.wanted o (yielded ops a.tmps) = true)
    (h : if Region.wanted { o with guard := none } (yielded ops a.tmps) = true then ({ o with guard := none } : Oper).wp P a w K Q else False) :
    if Region.wanted o (yielded ops a.tmps) = true then o.wp P a w K Q else E := by
  rw [if_pos hw]
  rw [if_pos (show Region.wanted { o with guard := none } (yielded ops a.tmps) = true from by simp [Region.wanted])] at h
  exact h

set_option maxRecDepth 100000 in
set_option maxHeartbeats 4000000 in
theorem walkToldOrder (a0 : Option Addr) (b0 o0 c0 : Nat) (xs0 : List Int) (a1 : Option Addr) (b1 o1 c1 : Nat) (xs1 : List Int) (w : World)
    (hr0 : Row .u8 w a0 b0 o0 xs0) (hl0 : xs0.length ≤ c0 ∧ c0 ≤ 9223372036854775807) (hw0 : ∀ i, i < xs0.length → (Lit.int .u8 (xs0.getD i 0)).wf = true)
    (_hr1 : Row .u8 w a1 b1 o1 xs1) (hl1 : xs1.length ≤ c1 ∧ c1 ≤ 9223372036854775807) (_hw1 : ∀ i, i < xs1.length → (Lit.int .u8 (xs1.getD i 0)).wf = true) :
    Calls Try.prog 6 #[.slice a0 xs0.length c0, .slice a1 xs1.length c1] w fun e w' => e = .returned (.bool true) ∧ Below w.heap.size w w' := by
  obtain ⟨hl01, hl02⟩ := hl0
  obtain ⟨hl11, hl12⟩ := hl1
  by_cases h20 : xs0.length ≤ 1048576 ∧ xs1.length ≤ 1048576
  · obtain ⟨h20, h21⟩ := h20
    go_enter Try.func6, Try.ntmps6
    go_wp2_with fail
    refine (drawTold_any a0 b0 o0 c0 xs0 w hr0 hl01 hw0 hl02).mono ?_
    rintro e w1 ⟨n, v, zs, rfl, hzl, hO, hB⟩
    obtain ⟨ao, b, cap, rfl, hcap, hcap2, hrow, hnil, hao⟩ := hO.row2
    have HAO := Lib.hid hao
    have HN := Lib.hid hnil
    have HR1 := Lib.hid hrow
    have HB1 := Lib.hid hB
    clear hO hnil hrow hB hao hr0 hw0
    obtain ⟨z, hz⟩ : ∃ z : Int, (if vldB n zs then (tld n.toNat zs n.toNat : Int) else -1) = z := ⟨_, rfl⟩
    have HZ := Lib.hid hz
    clear hz
    go_wp2_with fail
    refine (askToldI n ao b 0 cap zs _ HR1.out HN.out (by omega)).mono ?_
    rw [HZ.out]
    rintro e w2 ⟨rfl, hb2⟩
    have HB2 := Lib.hid (HB1.out.trans (hb2.mono HB1.out.size))
    have HR2 := Lib.hid (HR1.out.keep hb2 (Nat.le_refl _))
    clear hb2 HB1 HR1
    go_wp2_with fail
    refine (askToldS n ao b 0 cap zs _ HR2.out HN.out (by omega)).mono ?_
    rw [HZ.out]
    rintro e w3 ⟨rfl, hb3⟩
    have HB3 := Lib.hid (HB2.out.trans (hb3.mono HB2.out.size))
    have HR3 := Lib.hid (HR2.out.keep hb3 (Nat.le_refl _))
    clear hb3 HB2 HR2
    have hzz : (z != z) = false := by simp
    cases hv : vldB n zs with
    | false =>
      have hz1 : z = -1 := by rw [← HZ.out, hv]; rfl
      subst hz1
      clear hv
      go_wp2_with fail
      all_goals
        go_ret
        exact ⟨rfl, HB3.out⟩
    | true =>
      obtain ⟨m, rfl, hm1, hm6, hx12, hx⟩ := vld_range hv
      obtain ⟨r, hr⟩ : ∃ r, tld m zs m = r := ⟨_, rfl⟩
      have hz1 : z = (r : Int) := by rw [← HZ.out, hv, ← hr]; rfl
      subst hz1
      have HX := Lib.hid hx
      have HV := Lib.hid hv
      have HRE := Lib.hid hr
      clear hx hv hr HZ
      obtain ⟨K, hK⟩ : ∃ K, xs1.length % (zs.length + 1) = K := ⟨_, rfl⟩
      have hK1 : K ≤ zs.length := by have := Nat.mod_lt xs1.length (show 0 < zs.length + 1 by omega); omega
      have hKe : (xs1.length : Int) % ((zs.length : Int) + 1) = (K : Int) := by rw [← hK]; rfl
      have HKE := Lib.hid hKe
      clear hK hKe
      go_wp2_with fail
      rw [HKE.out]
      have HB4 := Lib.hid ((Below.refl w3.heap.size w3).alloc (Nat.le_refl _) (.cells #[] 3)).drew
      have HO0 := Lib.hid (Own.lit (w := w3) (base := w3.heap.size) [] (Nat.le_refl _) (by simp))
      have HR4 := Lib.hid (HR3.out.keep HB4.out (Nat.le_refl _))
      have hkz : (K : Int) ≤ (zs.length : Int) := by omega
      have hkc : (K : Int) ≤ (cap : Int) := by omega
      have hkc2 : K ≤ cap := by omega
      have htk : (zs.take K).length = K := by rw [List.length_take]; omega
      have HTK := Lib.hid htk
      clear htk
      go_cut [10] (fun s wx => RotT zs w3 s wx)
      case first =>
        have hdl : (zs.drop K).length = zs.length - K := List.length_drop
        have HDL := Lib.hid hdl
        clear hdl
        have fin : ∀ (v' : Value) (w' : World), Own w' w3.heap.size v' (zs.drop K ++ zs.take K) → Below w3.heap.size w3 w' → RotT zs w3 v' w' := fun v' w' h1 h2 =>
          ⟨_, mem_rot K, by rw [List.length_append, HDL.out, HTK.out]; omega, h1, h2⟩
        have Fin := Lib.hid fin
        clear fin
        rcases HAO.out with hn | hn
        · subst hn
          have hc0 := HN.out rfl
          subst hc0
          have hz0 : zs.length = 0 := by omega
          have hzn : zs = [] := List.length_eq_zero_iff.1 hz0
          subst hzn
          obtain rfl : K = 0 := by omega
          clear hz0
          go_region_law (fail)
          all_goals
            go_wp2_with fail
            go_meet
            exact Fin.out _ _ HO0.out HB4.out
        · subst hn
          have HRD := Lib.hid (HR4.out.drop2 (K := K) hcap)
          by_cases hcK : cap = K
          · have hrd := HRD.out
            rw [if_pos hcK] at hrd
            have HRD := Lib.hid hrd
            clear hrd
            obtain rfl : K = cap := hcK.symm
            clear hcK
            have htz : zs.take K = zs := List.take_of_length_le (by omega)
            have fin2 : ∀ (v' : Value) (w' : World), Own w' w3.heap.size v' ([] ++ zs.take K) → Below w3.heap.size w3 w' → RotT zs w3 v' w' := fun v' w' h1 h2 =>
              ⟨_, fun q => by rw [htz]; simp, by rw [htz]; simp, h1, h2⟩
            have Fin2 := Lib.hid fin2
            clear fin2 htz
            go_region_law (refine step_appL rfl (.tmp 50) (.tmp 53) rfl w3.heap.size _ [] (by rfl) HO0.out (some ⟨b, 0, none⟩) b 0 K (zs.take K) (by rw [HTK.out]; rfl) (fun h => by cases h) (HR4.out.take K) (by simp) (by rw [HTK.out]; omega) HB4.out.size ?_; intro v6 w6 hO6 hB6 _)
            all_goals
              have HO6 := Lib.hid hO6
              have HB6 := Lib.hid (HB4.out.trans hB6)
              clear hO6 hB6
              go_wp2_with fail
              go_meet
              exact Fin2.out _ _ HO6.out HB6.out
          · have hrd := HRD.out
            rw [if_neg hcK] at hrd
            have HRD := Lib.hid hrd
            clear hrd
            go_region_law (first
              | (refine step_appL rfl (.tmp 46) (.tmp 49) rfl w3.heap.size _ [] (by rfl) HO0.out (some ⟨b, K, none⟩) b K (cap - K) (zs.drop K) (by rw [HDL.out]; rfl) (fun h => by cases h) HRD.out (by simp) (by rw [HDL.out]; omega) HB4.out.size ?_; intro v5 w5 hO5 hB5 _; have HO5 := Lib.hid hO5; have HB5 := Lib.hid (HB4.out.trans hB5); have HR5 := Lib.hid (HR4.out.keep2 hB5 HR3.out.lt))
              | (refine step_appL rfl (.tmp 50) (.tmp 53) rfl w3.heap.size _ (zs.drop K) (by rfl) HO5.out (some ⟨b, 0, none⟩) b 0 cap (zs.take K) (by rw [HTK.out]; rfl) (fun h => by cases h) (HR5.out.take K) (by rw [HDL.out]; omega) (by rw [HTK.out]; omega) HB5.out.size ?_; intro v6 w6 hO6 hB6 _))
            all_goals
              have HO6 := Lib.hid hO6
              have HB6 := Lib.hid (HB5.out.trans hB6)
              clear hO6 hB6
              go_wp2_with fail
              go_meet
              exact Fin.out _ _ HO6.out HB6.out
      case rest =>
        clear HO0 HB4 HR4 HTK
        rename_i w4
        obtain ⟨X, hX, hXl, hO, hB⟩ := hcut
        obtain ⟨ax, bx, cx, rfl, hxc, hxc2, hrx, hnx, _⟩ := hO.row2
        have HXM := Lib.hid hX
        have HXR := Lib.hid hrx
        have HXN := Lib.hid hnx
        have HB4 := Lib.hid (HB3.out.trans (hB.mono HB3.out.size))
        have HR4 := Lib.hid (HR3.out.keep hB (Nat.le_refl _))
        have HXL := Lib.hid hXl
        clear hX hrx hnx hO hB hXl
        have hvx : vldB m X = true := vld_sub HV.out (fun q hq => (HXM.out q).1 hq) (by rw [HXL.out]; omega)
        have htx : tld m X m = r := by rw [← HRE.out]; exact Go.AskMath.tld_same HXM.out m
        have HVX := Lib.hid hvx
        have HTX := Lib.hid htx
        clear hvx htx
        by_cases hcut : zs.length = 0 ∨ zs.length = 12
        · have fin : ∀ (P : Prop), P → P := fun _ h => h
          clear fin
          by_cases h0 : zs.length = 0
          · have h0b : (zs.length == 0) = true := by rw [beq_iff_eq]; exact h0
            have h0c : ((zs.length : Int) == 0) = true := by rw [beq_iff_eq]; omega
            clear hcut h0
            go_wp2_with fail
            refine (askToldV m r ax bx 0 cx X _ HXR.out HXN.out HVX.out HTX.out).mono ?_
            rintro e w6 ⟨rfl, hb6⟩
            have HB6 := Lib.hid (HB4.out.trans (hb6.mono HB4.out.size))
            clear hb6
            go_wp2_with fail
            go_ret
            exact ⟨by simp, HB6.out⟩
          · have h12 : zs.length = 12 := by omega
            have h0b : (zs.length == 0) = false := by rw [beq_eq_false_iff_ne]; exact h0
            have h0c : ((zs.length : Int) == 0) = false := by rw [beq_eq_false_iff_ne]; omega
            have h12b : (zs.length == 12) = true := by rw [beq_iff_eq]; exact h12
            have h12c : ((zs.length : Int) == 12) = true := by rw [beq_iff_eq]; omega
            clear hcut h0 h12
            go_wp2_with fail
            refine (askToldV m r ax bx 0 cx X _ HXR.out HXN.out HVX.out HTX.out).mono ?_
            rintro e w6 ⟨rfl, hb6⟩
            have HB6 := Lib.hid (HB4.out.trans (hb6.mono HB4.out.size))
            clear hb6
            go_wp2_with fail
            go_ret
            exact ⟨by simp, HB6.out⟩
        · have hz0 : 0 < zs.length := by omega
          have hl11 : zs.length ≤ 11 := by omega
          have h0b : (zs.length == 0) = false := by rw [beq_eq_false_iff_ne]; omega
          have h0c : ((zs.length : Int) == 0) = false := by rw [beq_eq_false_iff_ne]; omega
          have h12b : (zs.length == 12) = false := by rw [beq_eq_false_iff_ne]; omega
          have h12c : ((zs.length : Int) == 12) = false := by rw [beq_eq_false_iff_ne]; omega
          clear hcut
          obtain rfl : ao = some ⟨b, 0, none⟩ := HR3.out.1 hz0
          obtain ⟨y, hy⟩ : ∃ y, zs.getD (zs.length - 1) 0 = y := ⟨_, rfl⟩
          have HYE := Lib.hid hy
          have hl1 : IntKind.i64.wrap ((zs.length : Int) - 1) = ((zs.length - 1 : Nat) : Int) := by
            rw [show (zs.length : Int) - 1 = ((zs.length - 1 : Nat) : Int) from by omega]; exact IntWalk.i64_in _ ⟨by omega, by omega⟩
          have hl2 : ((zs.length - 1 : Nat) : Int) < (zs.length : Int) := by omega
          have hl3 : zs.length - 1 < zs.length := by omega
          have hym : y ∈ zs := by rw [← hy, List.getD_eq_getElem?_getD, List.getElem?_eq_getElem hl3]; exact List.getElem_mem hl3
          have HV1 := Lib.hid (fun (ys : List Int) (h : zs ++ [y] = ys) => (show vldB m ys = true ∧ tld m ys m = r from by
            have hsame : ∀ q, q ∈ ys ↔ q ∈ zs := fun q => by
              rw [← h, List.mem_append, List.mem_singleton]
              exact ⟨fun h => h.elim id (fun e => e ▸ hym), .inl⟩
            exact ⟨vld_sub HV.out (fun q hq => (hsame q).1 hq) (by rw [← h]; simp; omega), by rw [← HRE.out]; exact Go.AskMath.tld_same hsame m⟩))
          have HXD := Lib.hid (show Row .i64 wc.drew ax bx 0 X from HXR.out)
          clear hy hym
          go_wp2_with fail
          refine wp_region_any (by kernel_rfl) ?_
          change wpAny _ _ _ _ _ _ _ (World.drew _)
          refine wpAny_take (i := 0) (v := ?_) rfl (by kernel_rfl) (by kernel_rfl) (by kernel_rfl) (fun _ _ _ h => h) (Or.inl ⟨by rfl, ?_⟩) ?_
          rotate_left
          · intro w
            go_simp
            try with_reducible rfl
          refine wpAny_take (i := 1) (v := ?_) rfl (by kernel_rfl) (by kernel_rfl) (by kernel_rfl) (fun _ _ _ h => h) (Or.inl ⟨by rfl, ?_⟩) ?_
          rotate_left
          · intro w
            go_simp
            try with_reducible rfl
          refine wpAny_take (i := 3) (v := ?_) rfl (by kernel_rfl) (by kernel_rfl) (by kernel_rfl) (fun _ _ _ h => h) (Or.inl ⟨by rfl, ?_⟩) ?_
          rotate_left
          · intro w
            go_simp
            try with_reducible rfl
          go_simp
          refine wpAny_ready (rs := [2]) (by kernel_rfl) (by simp) ?_
          refine AllReady.cons rfl (fun KK hKK => ?_) AllReady.nil
          go_simp
          go_at_call 21
          (with_reducible refine (askToldV m r ax bx 0 cx X _ HXD.out HXN.out HVX.out HTX.out).mono ?_)
          rintro e w5 ⟨rfl, hb5⟩
          have HR5 := Lib.hid ((show Row .i64 wc.drew (some ⟨b, 0, none⟩) b 0 zs from HR4.out).keep hb5 (Nat.le_refl _))
          have HB5 := Lib.hid (HB4.out.drew.trans (hb5.mono HB4.out.size))
          have hbl := HR5.out.lt (by omega)
          have hc9 := HR5.out.2 (zs.length - 1) (by omega)
          rw [HYE.out, Nat.zero_add] at hc9
          have hc9b : (w5.alloc (.cells #[] 3)).cell? ⟨b, zs.length - 1, none⟩ = some (.int .i64 y) := (((Below.refl w5.heap.size w5).alloc (Nat.le_refl _) (.cells #[] 3)).cell (p := ⟨b, zs.length - 1, none⟩) hbl).trans hc9
          clear hb5
          have HBA := Lib.hid ((Below.refl w5.heap.size w5).alloc (Nat.le_refl _) (.cells #[] 3))
          have HBB := Lib.hid (((Below.refl w5.heap.size w5).alloc (Nat.le_refl _) (.cells #[] 3)).alloc (by simp) (.cells #[.int .i64 y] 3))
          have HBC := Lib.hid (((Below.refl w5.heap.size w5).alloc (Nat.le_refl _) (.cells #[.int .i64 y] 3)).alloc (by simp) (.cells #[] 3))
          have HOA := Lib.hid (Own.lit (w := w5) (base := w5.heap.size) [] (Nat.le_refl _) (by simp))
          have HOB := Lib.hid (HOA.out.alloc (.cells #[.int .i64 y] 3))
          have hoc := Own.lit (w := w5.alloc (.cells #[.int .i64 y] 3)) (base := w5.heap.size) [] (by simp) (by simp)
          rw [World.size_alloc] at hoc
          have HOC := Lib.hid hoc
          have HRA := Lib.hid (HR5.out.keep HBA.out (Nat.le_refl _))
          have HRB := Lib.hid (HR5.out.keep HBB.out (Nat.le_refl _))
          have HRC := Lib.hid (HR5.out.keep HBC.out (Nat.le_refl _))
          have hyb := rowL (w5.alloc (.cells #[] 3)) [y]
          rw [World.size_alloc] at hyb
          have HYRB := Lib.hid hyb
          have HYRC := Lib.hid ((rowL w5 [y]).keep ((Below.refl (w5.heap.size + 1) (w5.alloc (.cells #[.int .i64 y] 3))).alloc (by simp) (.cells #[] 3)) (by simp))
          clear hoc hyb
          refine hKK _ _ ?_
          clear hKK KK
          refine wpAny_take (i := 4) (v := ?_) rfl (by kernel_rfl) (by kernel_rfl) (by kernel_rfl) (fun _ _ _ h => h) (Or.inl ⟨by rfl, ?_⟩) ?_
          rotate_left
          · intro w
            go_simp
            try with_reducible rfl
          refine wpAny_take (i := 5) (v := ?_) rfl (by kernel_rfl) (by kernel_rfl) (by kernel_rfl) (fun _ _ _ h => h) (Or.inl ⟨by rfl, ?_⟩) ?_
          rotate_left
          · intro w
            go_simp
            try with_reducible rfl
          go_simp
          refine wpAny_take (i := 6) (v := ?_) rfl (by kernel_rfl) (by kernel_rfl) (by kernel_rfl) (fun _ _ _ h => h) (Or.inl ⟨by rfl, ?_⟩) ?_
          rotate_left
          · intro w
            go_simp
            try with_reducible rfl
          refine wpAny_take (i := 8) (v := ?_) rfl (by kernel_rfl) (by kernel_rfl) (by kernel_rfl) (fun _ _ _ h => h) (Or.inl ⟨by rfl, ?_⟩) ?_
          rotate_left
          · intro w
            go_simp
            try with_reducible rfl
          go_simp
          refine wpAny_take (i := 10) (v := ?_) rfl (by kernel_rfl) (by kernel_rfl) (by kernel_rfl) (fun _ _ _ h => h) (Or.inl ⟨by rfl, ?_⟩) ?_
          rotate_left
          · intro w
            go_simp
            try with_reducible rfl
          refine wpAny_take (i := 11) (v := ?_) rfl (by kernel_rfl) (by kernel_rfl) (by kernel_rfl) (fun _ _ _ h => h) (Or.inl ⟨by rfl, ?_⟩) ?_
          rotate_left
          · intro w
            go_simp
            try with_reducible rfl
          go_simp
          refine wpAny_take (i := 12) (v := ?_) rfl (by kernel_rfl) (by kernel_rfl) (by kernel_rfl) (fun _ _ _ h => h) (Or.inl ⟨by rfl, ?_⟩) ?_
          rotate_left
          · intro w
            go_simp
            try with_reducible rfl
          go_simp
          refine wpAny_take (i := 13) (v := ?_) rfl (by kernel_rfl) (by kernel_rfl) (by kernel_rfl) (fun _ _ _ h => h) (Or.inl ⟨by rfl, ?_⟩) ?_
          rotate_left
          · intro w
            go_simp
            try with_reducible rfl
          go_simp
          refine wpAny_take (i := 14) (v := ?_) rfl (by kernel_rfl) (by kernel_rfl) (by kernel_rfl) (fun _ _ _ h => h) (Or.inl ⟨by rfl, ?_⟩) ?_
          rotate_left
          · intro w
            go_simp
            try with_reducible rfl
          go_simp
          refine wpAny_take (i := 19) (v := ?_) rfl (by kernel_rfl) (by kernel_rfl) (by kernel_rfl) (fun _ _ _ h => h) (Or.inl ⟨by rfl, ?_⟩) ?_
          rotate_left
          · intro w
            go_simp
            try with_reducible rfl
          go_simp
          refine wpAny_ready (rs := [7, 15]) (by kernel_rfl) (by simp) ?_
          refine AllReady.cons rfl (fun KK hKK => ?_) (AllReady.cons rfl (fun KK hKK => ?_) AllReady.nil)
          · go_simp
            refine hKK _ _ ?_
            clear hKK KK
            refine wpAny_ready (rs := [9, 15]) (by kernel_rfl) (by simp) ?_
            refine AllReady.cons (o := { dst := some 77, op := Op.call { callee := Callee.builtin Builtin.append, args := #[Operand.tmp 75, Operand.tmp 76], argTypes := #[23, 23] }, type := 23, pos := "laws.go:5198", after := #[{ on := 7, ground := Ground.data }, { on := 8, ground := Ground.data }, { on := 5, ground := Ground.chain }, { on := 5, ground := Ground.guard }], guard := some (5, true) }) rfl (fun KK hKK => ?_) (AllReady.cons rfl (fun KK hKK => ?_) AllReady.nil)
            · refine app_g (by rfl) ?_
              refine step_appL rfl (.tmp 75) (.tmp 76) rfl w5.heap.size _ [] (by rfl) ?_ _ b 0 cap zs (by rfl) HN.out ?_ (by simp) (by omega) ?_ ?_
              (first | exact HOA.out | exact HOB.out | exact HOC.out)
              (first | exact HRA.out | exact HRB.out | exact HRC.out)
              (first | exact HBA.out.size | exact HBB.out.size | exact HBC.out.size)
              intro va wa hOa hBa hGa
              have HOa := Lib.hid hOa
              have HBa := Lib.hid (app_below HBA.out HBB.out HBC.out hBa)
              (try have HYa := Lib.hid (row_grown0 HYRB.out hGa (by show (some w5.heap.size : Option Nat) ≠ some (w5.heap.size + 1); simp)))
              (try have HYa := Lib.hid (row_grown0 HYRC.out hGa (by show (some (w5.heap.size + 1) : Option Nat) ≠ some w5.heap.size; simp)))
              clear hOa hBa hGa
              have hc9a := (HBa.out.cell (p := ⟨b, zs.length - 1, none⟩) hbl).trans hc9
              try go_simp
              refine hKK _ _ ?_
              clear hKK KK
              refine wpAny_ready (rs := [15]) (by kernel_rfl) (by simp) ?_
              refine AllReady.cons rfl (fun KK hKK => ?_) AllReady.nil
              go_simp
              refine hKK _ _ ?_
              clear hKK KK
              refine wpAny_ready (rs := [16]) (by kernel_rfl) (by simp) ?_
              refine AllReady.cons rfl (fun KK hKK => ?_) AllReady.nil
              go_simp
              refine hKK _ _ ?_
              clear hKK KK
              refine wpAny_ready (rs := [17]) (by kernel_rfl) (by simp) ?_
              refine AllReady.cons (o := { dst := some 85, op := Op.call { callee := Callee.builtin Builtin.append, args := #[Operand.tmp 77, Operand.tmp 84], argTypes := #[23, 23] }, type := 23, pos := "laws.go:5198", after := #[{ on := 9, ground := Ground.data }, { on := 16, ground := Ground.data }, { on := 9, ground := Ground.chain }, { on := 5, ground := Ground.guard }], guard := some (5, true) }) rfl (fun KK hKK => ?_) AllReady.nil
              refine app_g (by rfl) ?_
              first
                | (refine step_app1 (w0 := wa) rfl (.tmp 77) (.tmp 84) rfl w5.heap.size _ zs (by rfl) HOa.out y rfl (by rfl) (by omega) HBa.out.size ?_; intro vb wb hOb hBb _; obtain ⟨ys, hys⟩ : ∃ ys, zs ++ [y] = ys := ⟨_, rfl⟩; rw [hys] at hOb; obtain ⟨ay, by_, cy, rfl, _, _, hyr, hyn, _⟩ := hOb.row2; have HYR := Lib.hid hyr; have HYN := Lib.hid hyn; have HVY := Lib.hid (HV1.out ys hys).1; have HTY := Lib.hid (HV1.out ys hys).2; have HBb := Lib.hid (HBa.out.trans hBb); clear hys hOb hyr hyn hBb)
                | (refine step_appL rfl (.tmp 77) (.tmp 84) rfl w5.heap.size _ zs (by rfl) HOa.out _ _ 0 1 [y] (by rfl) (fun h => by cases h) HYa.out (by omega) (by simp) HBa.out.size ?_; intro vb wb hOb hBb _; obtain ⟨ys, hys⟩ : ∃ ys, zs ++ [y] = ys := ⟨_, rfl⟩; rw [hys] at hOb; obtain ⟨ay, by_, cy, rfl, _, _, hyr, hyn, _⟩ := hOb.row2; have HYR := Lib.hid hyr; have HYN := Lib.hid hyn; have HVY := Lib.hid (HV1.out ys hys).1; have HTY := Lib.hid (HV1.out ys hys).2; have HBb := Lib.hid (HBa.out.trans hBb); clear hys hOb hyr hyn hBb)
              try go_simp
              refine hKK _ _ ?_
              clear hKK KK
              refine wpAny_ready (rs := [18]) (by kernel_rfl) (by simp) ?_
              refine AllReady.cons rfl (fun KK hKK => ?_) AllReady.nil
              go_simp
              go_at_call 21
              with_reducible refine (askToldV m r ay by_ 0 cy ys _ HYR.out HYN.out HVY.out HTY.out).mono ?_
              rintro e w7 ⟨rfl, hb7⟩
              try go_simp
              refine hKK _ _ ?_
              clear hKK KK
              refine wpAny_take (i := 20) (v := ?_) rfl (by kernel_rfl) (by kernel_rfl) (by kernel_rfl) (fun _ _ _ h => h) (Or.inl ⟨by rfl, ?_⟩) ?_
              rotate_left
              · intro w
                go_simp
                try with_reducible rfl
              go_simp
              refine wpAny_take (i := 21) (v := ?_) rfl (by kernel_rfl) (by kernel_rfl) (by kernel_rfl) (fun _ _ _ h => h) (Or.inl ⟨by rfl, ?_⟩) ?_
              rotate_left
              · intro w
                go_simp
                try with_reducible rfl
              go_simp
              refine wpAny_take (i := 22) (v := ?_) rfl (by kernel_rfl) (by kernel_rfl) (by kernel_rfl) (fun _ _ _ h => h) (Or.inl ⟨by rfl, ?_⟩) ?_
              rotate_left
              · intro w
                go_simp
                try with_reducible rfl
              go_simp
              refine wpAny_done (by kernel_rfl) ?_ _
              have HB7 := Lib.hid (HB5.out.trans ((HBb.out.trans (hb7.mono HBb.out.size)).mono HB5.out.size))
              clear hb7
              go_wp2_with fail
              go_ret
              exact ⟨by simp, HB7.out⟩
            · go_simp
              refine hKK _ _ ?_
              clear hKK KK
              refine wpAny_ready (rs := [9, 16]) (by kernel_rfl) (by simp) ?_
              refine AllReady.cons (o := { dst := some 77, op := Op.call { callee := Callee.builtin Builtin.append, args := #[Operand.tmp 75, Operand.tmp 76], argTypes := #[23, 23] }, type := 23, pos := "laws.go:5198", after := #[{ on := 7, ground := Ground.data }, { on := 8, ground := Ground.data }, { on := 5, ground := Ground.chain }, { on := 5, ground := Ground.guard }], guard := some (5, true) }) rfl (fun KK hKK => ?_) (AllReady.cons rfl (fun KK hKK => ?_) AllReady.nil)
              · refine app_g (by rfl) ?_
                refine step_appL rfl (.tmp 75) (.tmp 76) rfl w5.heap.size _ [] (by rfl) ?_ _ b 0 cap zs (by rfl) HN.out ?_ (by simp) (by omega) ?_ ?_
                (first | exact HOA.out | exact HOB.out | exact HOC.out)
                (first | exact HRA.out | exact HRB.out | exact HRC.out)
                (first | exact HBA.out.size | exact HBB.out.size | exact HBC.out.size)
                intro va wa hOa hBa hGa
                have HOa := Lib.hid hOa
                have HBa := Lib.hid (app_below HBA.out HBB.out HBC.out hBa)
                (try have HYa := Lib.hid (row_grown0 HYRB.out hGa (by show (some w5.heap.size : Option Nat) ≠ some (w5.heap.size + 1); simp)))
                (try have HYa := Lib.hid (row_grown0 HYRC.out hGa (by show (some (w5.heap.size + 1) : Option Nat) ≠ some w5.heap.size; simp)))
                clear hOa hBa hGa
                have hc9a := (HBa.out.cell (p := ⟨b, zs.length - 1, none⟩) hbl).trans hc9
                try go_simp
                refine hKK _ _ ?_
                clear hKK KK
                refine wpAny_ready (rs := [16]) (by kernel_rfl) (by simp) ?_
                refine AllReady.cons rfl (fun KK hKK => ?_) AllReady.nil
                go_simp
                refine hKK _ _ ?_
                clear hKK KK
                refine wpAny_ready (rs := [17]) (by kernel_rfl) (by simp) ?_
                refine AllReady.cons (o := { dst := some 85, op := Op.call { callee := Callee.builtin Builtin.append, args := #[Operand.tmp 77, Operand.tmp 84], argTypes := #[23, 23] }, type := 23, pos := "laws.go:5198", after := #[{ on := 9, ground := Ground.data }, { on := 16, ground := Ground.data }, { on := 9, ground := Ground.chain }, { on := 5, ground := Ground.guard }], guard := some (5, true) }) rfl (fun KK hKK => ?_) AllReady.nil
                refine app_g (by rfl) ?_
                first
                  | (refine step_app1 (w0 := wa) rfl (.tmp 77) (.tmp 84) rfl w5.heap.size _ zs (by rfl) HOa.out y rfl (by rfl) (by omega) HBa.out.size ?_; intro vb wb hOb hBb _; obtain ⟨ys, hys⟩ : ∃ ys, zs ++ [y] = ys := ⟨_, rfl⟩; rw [hys] at hOb; obtain ⟨ay, by_, cy, rfl, _, _, hyr, hyn, _⟩ := hOb.row2; have HYR := Lib.hid hyr; have HYN := Lib.hid hyn; have HVY := Lib.hid (HV1.out ys hys).1; have HTY := Lib.hid (HV1.out ys hys).2; have HBb := Lib.hid (HBa.out.trans hBb); clear hys hOb hyr hyn hBb)
                  | (refine step_appL rfl (.tmp 77) (.tmp 84) rfl w5.heap.size _ zs (by rfl) HOa.out _ _ 0 1 [y] (by rfl) (fun h => by cases h) HYa.out (by omega) (by simp) HBa.out.size ?_; intro vb wb hOb hBb _; obtain ⟨ys, hys⟩ : ∃ ys, zs ++ [y] = ys := ⟨_, rfl⟩; rw [hys] at hOb; obtain ⟨ay, by_, cy, rfl, _, _, hyr, hyn, _⟩ := hOb.row2; have HYR := Lib.hid hyr; have HYN := Lib.hid hyn; have HVY := Lib.hid (HV1.out ys hys).1; have HTY := Lib.hid (HV1.out ys hys).2; have HBb := Lib.hid (HBa.out.trans hBb); clear hys hOb hyr hyn hBb)
                try go_simp
                refine hKK _ _ ?_
                clear hKK KK
                refine wpAny_ready (rs := [18]) (by kernel_rfl) (by simp) ?_
                refine AllReady.cons rfl (fun KK hKK => ?_) AllReady.nil
                go_simp
                go_at_call 21
                with_reducible refine (askToldV m r ay by_ 0 cy ys _ HYR.out HYN.out HVY.out HTY.out).mono ?_
                rintro e w7 ⟨rfl, hb7⟩
                try go_simp
                refine hKK _ _ ?_
                clear hKK KK
                refine wpAny_take (i := 20) (v := ?_) rfl (by kernel_rfl) (by kernel_rfl) (by kernel_rfl) (fun _ _ _ h => h) (Or.inl ⟨by rfl, ?_⟩) ?_
                rotate_left
                · intro w
                  go_simp
                  try with_reducible rfl
                go_simp
                refine wpAny_take (i := 21) (v := ?_) rfl (by kernel_rfl) (by kernel_rfl) (by kernel_rfl) (fun _ _ _ h => h) (Or.inl ⟨by rfl, ?_⟩) ?_
                rotate_left
                · intro w
                  go_simp
                  try with_reducible rfl
                go_simp
                refine wpAny_take (i := 22) (v := ?_) rfl (by kernel_rfl) (by kernel_rfl) (by kernel_rfl) (fun _ _ _ h => h) (Or.inl ⟨by rfl, ?_⟩) ?_
                rotate_left
                · intro w
                  go_simp
                  try with_reducible rfl
                go_simp
                refine wpAny_done (by kernel_rfl) ?_ _
                have HB7 := Lib.hid (HB5.out.trans ((HBb.out.trans (hb7.mono HBb.out.size)).mono HB5.out.size))
                clear hb7
                go_wp2_with fail
                go_ret
                exact ⟨by simp, HB7.out⟩
              · go_simp
                refine hKK _ _ ?_
                clear hKK KK
                refine wpAny_ready (rs := [9]) (by kernel_rfl) (by simp) ?_
                refine AllReady.cons (o := { dst := some 77, op := Op.call { callee := Callee.builtin Builtin.append, args := #[Operand.tmp 75, Operand.tmp 76], argTypes := #[23, 23] }, type := 23, pos := "laws.go:5198", after := #[{ on := 7, ground := Ground.data }, { on := 8, ground := Ground.data }, { on := 5, ground := Ground.chain }, { on := 5, ground := Ground.guard }], guard := some (5, true) }) rfl (fun KK hKK => ?_) AllReady.nil
                refine app_g (by rfl) ?_
                refine step_appL rfl (.tmp 75) (.tmp 76) rfl w5.heap.size _ [] (by rfl) ?_ _ b 0 cap zs (by rfl) HN.out ?_ (by simp) (by omega) ?_ ?_
                (first | exact HOA.out | exact HOB.out | exact HOC.out)
                (first | exact HRA.out | exact HRB.out | exact HRC.out)
                (first | exact HBA.out.size | exact HBB.out.size | exact HBC.out.size)
                intro va wa hOa hBa hGa
                have HOa := Lib.hid hOa
                have HBa := Lib.hid (app_below HBA.out HBB.out HBC.out hBa)
                (try have HYa := Lib.hid (row_grown0 HYRB.out hGa (by show (some w5.heap.size : Option Nat) ≠ some (w5.heap.size + 1); simp)))
                (try have HYa := Lib.hid (row_grown0 HYRC.out hGa (by show (some (w5.heap.size + 1) : Option Nat) ≠ some w5.heap.size; simp)))
                clear hOa hBa hGa
                have hc9a := (HBa.out.cell (p := ⟨b, zs.length - 1, none⟩) hbl).trans hc9
                try go_simp
                refine hKK _ _ ?_
                clear hKK KK
                refine wpAny_ready (rs := [17]) (by kernel_rfl) (by simp) ?_
                refine AllReady.cons (o := { dst := some 85, op := Op.call { callee := Callee.builtin Builtin.append, args := #[Operand.tmp 77, Operand.tmp 84], argTypes := #[23, 23] }, type := 23, pos := "laws.go:5198", after := #[{ on := 9, ground := Ground.data }, { on := 16, ground := Ground.data }, { on := 9, ground := Ground.chain }, { on := 5, ground := Ground.guard }], guard := some (5, true) }) rfl (fun KK hKK => ?_) AllReady.nil
                refine app_g (by rfl) ?_
                first
                  | (refine step_app1 (w0 := wa) rfl (.tmp 77) (.tmp 84) rfl w5.heap.size _ zs (by rfl) HOa.out y rfl (by rfl) (by omega) HBa.out.size ?_; intro vb wb hOb hBb _; obtain ⟨ys, hys⟩ : ∃ ys, zs ++ [y] = ys := ⟨_, rfl⟩; rw [hys] at hOb; obtain ⟨ay, by_, cy, rfl, _, _, hyr, hyn, _⟩ := hOb.row2; have HYR := Lib.hid hyr; have HYN := Lib.hid hyn; have HVY := Lib.hid (HV1.out ys hys).1; have HTY := Lib.hid (HV1.out ys hys).2; have HBb := Lib.hid (HBa.out.trans hBb); clear hys hOb hyr hyn hBb)
                  | (refine step_appL rfl (.tmp 77) (.tmp 84) rfl w5.heap.size _ zs (by rfl) HOa.out _ _ 0 1 [y] (by rfl) (fun h => by cases h) HYa.out (by omega) (by simp) HBa.out.size ?_; intro vb wb hOb hBb _; obtain ⟨ys, hys⟩ : ∃ ys, zs ++ [y] = ys := ⟨_, rfl⟩; rw [hys] at hOb; obtain ⟨ay, by_, cy, rfl, _, _, hyr, hyn, _⟩ := hOb.row2; have HYR := Lib.hid hyr; have HYN := Lib.hid hyn; have HVY := Lib.hid (HV1.out ys hys).1; have HTY := Lib.hid (HV1.out ys hys).2; have HBb := Lib.hid (HBa.out.trans hBb); clear hys hOb hyr hyn hBb)
                try go_simp
                refine hKK _ _ ?_
                clear hKK KK
                refine wpAny_ready (rs := [18]) (by kernel_rfl) (by simp) ?_
                refine AllReady.cons rfl (fun KK hKK => ?_) AllReady.nil
                go_simp
                go_at_call 21
                with_reducible refine (askToldV m r ay by_ 0 cy ys _ HYR.out HYN.out HVY.out HTY.out).mono ?_
                rintro e w7 ⟨rfl, hb7⟩
                try go_simp
                refine hKK _ _ ?_
                clear hKK KK
                refine wpAny_take (i := 20) (v := ?_) rfl (by kernel_rfl) (by kernel_rfl) (by kernel_rfl) (fun _ _ _ h => h) (Or.inl ⟨by rfl, ?_⟩) ?_
                rotate_left
                · intro w
                  go_simp
                  try with_reducible rfl
                go_simp
                refine wpAny_take (i := 21) (v := ?_) rfl (by kernel_rfl) (by kernel_rfl) (by kernel_rfl) (fun _ _ _ h => h) (Or.inl ⟨by rfl, ?_⟩) ?_
                rotate_left
                · intro w
                  go_simp
                  try with_reducible rfl
                go_simp
                refine wpAny_take (i := 22) (v := ?_) rfl (by kernel_rfl) (by kernel_rfl) (by kernel_rfl) (fun _ _ _ h => h) (Or.inl ⟨by rfl, ?_⟩) ?_
                rotate_left
                · intro w
                  go_simp
                  try with_reducible rfl
                go_simp
                refine wpAny_done (by kernel_rfl) ?_ _
                have HB7 := Lib.hid (HB5.out.trans ((HBb.out.trans (hb7.mono HBb.out.size)).mono HB5.out.size))
                clear hb7
                go_wp2_with fail
                go_ret
                exact ⟨by simp, HB7.out⟩
          · go_simp
            refine hKK _ _ ?_
            clear hKK KK
            refine wpAny_ready (rs := [7, 16]) (by kernel_rfl) (by simp) ?_
            refine AllReady.cons rfl (fun KK hKK => ?_) (AllReady.cons rfl (fun KK hKK => ?_) AllReady.nil)
            · go_simp
              refine hKK _ _ ?_
              clear hKK KK
              refine wpAny_ready (rs := [9, 16]) (by kernel_rfl) (by simp) ?_
              refine AllReady.cons (o := { dst := some 77, op := Op.call { callee := Callee.builtin Builtin.append, args := #[Operand.tmp 75, Operand.tmp 76], argTypes := #[23, 23] }, type := 23, pos := "laws.go:5198", after := #[{ on := 7, ground := Ground.data }, { on := 8, ground := Ground.data }, { on := 5, ground := Ground.chain }, { on := 5, ground := Ground.guard }], guard := some (5, true) }) rfl (fun KK hKK => ?_) (AllReady.cons rfl (fun KK hKK => ?_) AllReady.nil)
              · refine app_g (by rfl) ?_
                refine step_appL rfl (.tmp 75) (.tmp 76) rfl w5.heap.size _ [] (by rfl) ?_ _ b 0 cap zs (by rfl) HN.out ?_ (by simp) (by omega) ?_ ?_
                (first | exact HOA.out | exact HOB.out | exact HOC.out)
                (first | exact HRA.out | exact HRB.out | exact HRC.out)
                (first | exact HBA.out.size | exact HBB.out.size | exact HBC.out.size)
                intro va wa hOa hBa hGa
                have HOa := Lib.hid hOa
                have HBa := Lib.hid (app_below HBA.out HBB.out HBC.out hBa)
                (try have HYa := Lib.hid (row_grown0 HYRB.out hGa (by show (some w5.heap.size : Option Nat) ≠ some (w5.heap.size + 1); simp)))
                (try have HYa := Lib.hid (row_grown0 HYRC.out hGa (by show (some (w5.heap.size + 1) : Option Nat) ≠ some w5.heap.size; simp)))
                clear hOa hBa hGa
                have hc9a := (HBa.out.cell (p := ⟨b, zs.length - 1, none⟩) hbl).trans hc9
                try go_simp
                refine hKK _ _ ?_
                clear hKK KK
                refine wpAny_ready (rs := [16]) (by kernel_rfl) (by simp) ?_
                refine AllReady.cons rfl (fun KK hKK => ?_) AllReady.nil
                go_simp
                refine hKK _ _ ?_
                clear hKK KK
                refine wpAny_ready (rs := [17]) (by kernel_rfl) (by simp) ?_
                refine AllReady.cons (o := { dst := some 85, op := Op.call { callee := Callee.builtin Builtin.append, args := #[Operand.tmp 77, Operand.tmp 84], argTypes := #[23, 23] }, type := 23, pos := "laws.go:5198", after := #[{ on := 9, ground := Ground.data }, { on := 16, ground := Ground.data }, { on := 9, ground := Ground.chain }, { on := 5, ground := Ground.guard }], guard := some (5, true) }) rfl (fun KK hKK => ?_) AllReady.nil
                refine app_g (by rfl) ?_
                first
                  | (refine step_app1 (w0 := wa) rfl (.tmp 77) (.tmp 84) rfl w5.heap.size _ zs (by rfl) HOa.out y rfl (by rfl) (by omega) HBa.out.size ?_; intro vb wb hOb hBb _; obtain ⟨ys, hys⟩ : ∃ ys, zs ++ [y] = ys := ⟨_, rfl⟩; rw [hys] at hOb; obtain ⟨ay, by_, cy, rfl, _, _, hyr, hyn, _⟩ := hOb.row2; have HYR := Lib.hid hyr; have HYN := Lib.hid hyn; have HVY := Lib.hid (HV1.out ys hys).1; have HTY := Lib.hid (HV1.out ys hys).2; have HBb := Lib.hid (HBa.out.trans hBb); clear hys hOb hyr hyn hBb)
                  | (refine step_appL rfl (.tmp 77) (.tmp 84) rfl w5.heap.size _ zs (by rfl) HOa.out _ _ 0 1 [y] (by rfl) (fun h => by cases h) HYa.out (by omega) (by simp) HBa.out.size ?_; intro vb wb hOb hBb _; obtain ⟨ys, hys⟩ : ∃ ys, zs ++ [y] = ys := ⟨_, rfl⟩; rw [hys] at hOb; obtain ⟨ay, by_, cy, rfl, _, _, hyr, hyn, _⟩ := hOb.row2; have HYR := Lib.hid hyr; have HYN := Lib.hid hyn; have HVY := Lib.hid (HV1.out ys hys).1; have HTY := Lib.hid (HV1.out ys hys).2; have HBb := Lib.hid (HBa.out.trans hBb); clear hys hOb hyr hyn hBb)
                try go_simp
                refine hKK _ _ ?_
                clear hKK KK
                refine wpAny_ready (rs := [18]) (by kernel_rfl) (by simp) ?_
                refine AllReady.cons rfl (fun KK hKK => ?_) AllReady.nil
                go_simp
                go_at_call 21
                with_reducible refine (askToldV m r ay by_ 0 cy ys _ HYR.out HYN.out HVY.out HTY.out).mono ?_
                rintro e w7 ⟨rfl, hb7⟩
                try go_simp
                refine hKK _ _ ?_
                clear hKK KK
                refine wpAny_take (i := 20) (v := ?_) rfl (by kernel_rfl) (by kernel_rfl) (by kernel_rfl) (fun _ _ _ h => h) (Or.inl ⟨by rfl, ?_⟩) ?_
                rotate_left
                · intro w
                  go_simp
                  try with_reducible rfl
                go_simp
                refine wpAny_take (i := 21) (v := ?_) rfl (by kernel_rfl) (by kernel_rfl) (by kernel_rfl) (fun _ _ _ h => h) (Or.inl ⟨by rfl, ?_⟩) ?_
                rotate_left
                · intro w
                  go_simp
                  try with_reducible rfl
                go_simp
                refine wpAny_take (i := 22) (v := ?_) rfl (by kernel_rfl) (by kernel_rfl) (by kernel_rfl) (fun _ _ _ h => h) (Or.inl ⟨by rfl, ?_⟩) ?_
                rotate_left
                · intro w
                  go_simp
                  try with_reducible rfl
                go_simp
                refine wpAny_done (by kernel_rfl) ?_ _
                have HB7 := Lib.hid (HB5.out.trans ((HBb.out.trans (hb7.mono HBb.out.size)).mono HB5.out.size))
                clear hb7
                go_wp2_with fail
                go_ret
                exact ⟨by simp, HB7.out⟩
              · go_simp
                refine hKK _ _ ?_
                clear hKK KK
                refine wpAny_ready (rs := [9]) (by kernel_rfl) (by simp) ?_
                refine AllReady.cons (o := { dst := some 77, op := Op.call { callee := Callee.builtin Builtin.append, args := #[Operand.tmp 75, Operand.tmp 76], argTypes := #[23, 23] }, type := 23, pos := "laws.go:5198", after := #[{ on := 7, ground := Ground.data }, { on := 8, ground := Ground.data }, { on := 5, ground := Ground.chain }, { on := 5, ground := Ground.guard }], guard := some (5, true) }) rfl (fun KK hKK => ?_) AllReady.nil
                refine app_g (by rfl) ?_
                refine step_appL rfl (.tmp 75) (.tmp 76) rfl w5.heap.size _ [] (by rfl) ?_ _ b 0 cap zs (by rfl) HN.out ?_ (by simp) (by omega) ?_ ?_
                (first | exact HOA.out | exact HOB.out | exact HOC.out)
                (first | exact HRA.out | exact HRB.out | exact HRC.out)
                (first | exact HBA.out.size | exact HBB.out.size | exact HBC.out.size)
                intro va wa hOa hBa hGa
                have HOa := Lib.hid hOa
                have HBa := Lib.hid (app_below HBA.out HBB.out HBC.out hBa)
                (try have HYa := Lib.hid (row_grown0 HYRB.out hGa (by show (some w5.heap.size : Option Nat) ≠ some (w5.heap.size + 1); simp)))
                (try have HYa := Lib.hid (row_grown0 HYRC.out hGa (by show (some (w5.heap.size + 1) : Option Nat) ≠ some w5.heap.size; simp)))
                clear hOa hBa hGa
                have hc9a := (HBa.out.cell (p := ⟨b, zs.length - 1, none⟩) hbl).trans hc9
                try go_simp
                refine hKK _ _ ?_
                clear hKK KK
                refine wpAny_ready (rs := [17]) (by kernel_rfl) (by simp) ?_
                refine AllReady.cons (o := { dst := some 85, op := Op.call { callee := Callee.builtin Builtin.append, args := #[Operand.tmp 77, Operand.tmp 84], argTypes := #[23, 23] }, type := 23, pos := "laws.go:5198", after := #[{ on := 9, ground := Ground.data }, { on := 16, ground := Ground.data }, { on := 9, ground := Ground.chain }, { on := 5, ground := Ground.guard }], guard := some (5, true) }) rfl (fun KK hKK => ?_) AllReady.nil
                refine app_g (by rfl) ?_
                first
                  | (refine step_app1 (w0 := wa) rfl (.tmp 77) (.tmp 84) rfl w5.heap.size _ zs (by rfl) HOa.out y rfl (by rfl) (by omega) HBa.out.size ?_; intro vb wb hOb hBb _; obtain ⟨ys, hys⟩ : ∃ ys, zs ++ [y] = ys := ⟨_, rfl⟩; rw [hys] at hOb; obtain ⟨ay, by_, cy, rfl, _, _, hyr, hyn, _⟩ := hOb.row2; have HYR := Lib.hid hyr; have HYN := Lib.hid hyn; have HVY := Lib.hid (HV1.out ys hys).1; have HTY := Lib.hid (HV1.out ys hys).2; have HBb := Lib.hid (HBa.out.trans hBb); clear hys hOb hyr hyn hBb)
                  | (refine step_appL rfl (.tmp 77) (.tmp 84) rfl w5.heap.size _ zs (by rfl) HOa.out _ _ 0 1 [y] (by rfl) (fun h => by cases h) HYa.out (by omega) (by simp) HBa.out.size ?_; intro vb wb hOb hBb _; obtain ⟨ys, hys⟩ : ∃ ys, zs ++ [y] = ys := ⟨_, rfl⟩; rw [hys] at hOb; obtain ⟨ay, by_, cy, rfl, _, _, hyr, hyn, _⟩ := hOb.row2; have HYR := Lib.hid hyr; have HYN := Lib.hid hyn; have HVY := Lib.hid (HV1.out ys hys).1; have HTY := Lib.hid (HV1.out ys hys).2; have HBb := Lib.hid (HBa.out.trans hBb); clear hys hOb hyr hyn hBb)
                try go_simp
                refine hKK _ _ ?_
                clear hKK KK
                refine wpAny_ready (rs := [18]) (by kernel_rfl) (by simp) ?_
                refine AllReady.cons rfl (fun KK hKK => ?_) AllReady.nil
                go_simp
                go_at_call 21
                with_reducible refine (askToldV m r ay by_ 0 cy ys _ HYR.out HYN.out HVY.out HTY.out).mono ?_
                rintro e w7 ⟨rfl, hb7⟩
                try go_simp
                refine hKK _ _ ?_
                clear hKK KK
                refine wpAny_take (i := 20) (v := ?_) rfl (by kernel_rfl) (by kernel_rfl) (by kernel_rfl) (fun _ _ _ h => h) (Or.inl ⟨by rfl, ?_⟩) ?_
                rotate_left
                · intro w
                  go_simp
                  try with_reducible rfl
                go_simp
                refine wpAny_take (i := 21) (v := ?_) rfl (by kernel_rfl) (by kernel_rfl) (by kernel_rfl) (fun _ _ _ h => h) (Or.inl ⟨by rfl, ?_⟩) ?_
                rotate_left
                · intro w
                  go_simp
                  try with_reducible rfl
                go_simp
                refine wpAny_take (i := 22) (v := ?_) rfl (by kernel_rfl) (by kernel_rfl) (by kernel_rfl) (fun _ _ _ h => h) (Or.inl ⟨by rfl, ?_⟩) ?_
                rotate_left
                · intro w
                  go_simp
                  try with_reducible rfl
                go_simp
                refine wpAny_done (by kernel_rfl) ?_ _
                have HB7 := Lib.hid (HB5.out.trans ((HBb.out.trans (hb7.mono HBb.out.size)).mono HB5.out.size))
                clear hb7
                go_wp2_with fail
                go_ret
                exact ⟨by simp, HB7.out⟩
            · go_simp
              refine hKK _ _ ?_
              clear hKK KK
              refine wpAny_ready (rs := [7]) (by kernel_rfl) (by simp) ?_
              refine AllReady.cons rfl (fun KK hKK => ?_) AllReady.nil
              go_simp
              refine hKK _ _ ?_
              clear hKK KK
              refine wpAny_ready (rs := [9]) (by kernel_rfl) (by simp) ?_
              refine AllReady.cons (o := { dst := some 77, op := Op.call { callee := Callee.builtin Builtin.append, args := #[Operand.tmp 75, Operand.tmp 76], argTypes := #[23, 23] }, type := 23, pos := "laws.go:5198", after := #[{ on := 7, ground := Ground.data }, { on := 8, ground := Ground.data }, { on := 5, ground := Ground.chain }, { on := 5, ground := Ground.guard }], guard := some (5, true) }) rfl (fun KK hKK => ?_) AllReady.nil
              refine app_g (by rfl) ?_
              refine step_appL rfl (.tmp 75) (.tmp 76) rfl w5.heap.size _ [] (by rfl) ?_ _ b 0 cap zs (by rfl) HN.out ?_ (by simp) (by omega) ?_ ?_
              (first | exact HOA.out | exact HOB.out | exact HOC.out)
              (first | exact HRA.out | exact HRB.out | exact HRC.out)
              (first | exact HBA.out.size | exact HBB.out.size | exact HBC.out.size)
              intro va wa hOa hBa hGa
              have HOa := Lib.hid hOa
              have HBa := Lib.hid (app_below HBA.out HBB.out HBC.out hBa)
              (try have HYa := Lib.hid (row_grown0 HYRB.out hGa (by show (some w5.heap.size : Option Nat) ≠ some (w5.heap.size + 1); simp)))
              (try have HYa := Lib.hid (row_grown0 HYRC.out hGa (by show (some (w5.heap.size + 1) : Option Nat) ≠ some w5.heap.size; simp)))
              clear hOa hBa hGa
              have hc9a := (HBa.out.cell (p := ⟨b, zs.length - 1, none⟩) hbl).trans hc9
              try go_simp
              refine hKK _ _ ?_
              clear hKK KK
              refine wpAny_ready (rs := [17]) (by kernel_rfl) (by simp) ?_
              refine AllReady.cons (o := { dst := some 85, op := Op.call { callee := Callee.builtin Builtin.append, args := #[Operand.tmp 77, Operand.tmp 84], argTypes := #[23, 23] }, type := 23, pos := "laws.go:5198", after := #[{ on := 9, ground := Ground.data }, { on := 16, ground := Ground.data }, { on := 9, ground := Ground.chain }, { on := 5, ground := Ground.guard }], guard := some (5, true) }) rfl (fun KK hKK => ?_) AllReady.nil
              refine app_g (by rfl) ?_
              first
                | (refine step_app1 (w0 := wa) rfl (.tmp 77) (.tmp 84) rfl w5.heap.size _ zs (by rfl) HOa.out y rfl (by rfl) (by omega) HBa.out.size ?_; intro vb wb hOb hBb _; obtain ⟨ys, hys⟩ : ∃ ys, zs ++ [y] = ys := ⟨_, rfl⟩; rw [hys] at hOb; obtain ⟨ay, by_, cy, rfl, _, _, hyr, hyn, _⟩ := hOb.row2; have HYR := Lib.hid hyr; have HYN := Lib.hid hyn; have HVY := Lib.hid (HV1.out ys hys).1; have HTY := Lib.hid (HV1.out ys hys).2; have HBb := Lib.hid (HBa.out.trans hBb); clear hys hOb hyr hyn hBb)
                | (refine step_appL rfl (.tmp 77) (.tmp 84) rfl w5.heap.size _ zs (by rfl) HOa.out _ _ 0 1 [y] (by rfl) (fun h => by cases h) HYa.out (by omega) (by simp) HBa.out.size ?_; intro vb wb hOb hBb _; obtain ⟨ys, hys⟩ : ∃ ys, zs ++ [y] = ys := ⟨_, rfl⟩; rw [hys] at hOb; obtain ⟨ay, by_, cy, rfl, _, _, hyr, hyn, _⟩ := hOb.row2; have HYR := Lib.hid hyr; have HYN := Lib.hid hyn; have HVY := Lib.hid (HV1.out ys hys).1; have HTY := Lib.hid (HV1.out ys hys).2; have HBb := Lib.hid (HBa.out.trans hBb); clear hys hOb hyr hyn hBb)
              try go_simp
              refine hKK _ _ ?_
              clear hKK KK
              refine wpAny_ready (rs := [18]) (by kernel_rfl) (by simp) ?_
              refine AllReady.cons rfl (fun KK hKK => ?_) AllReady.nil
              go_simp
              go_at_call 21
              with_reducible refine (askToldV m r ay by_ 0 cy ys _ HYR.out HYN.out HVY.out HTY.out).mono ?_
              rintro e w7 ⟨rfl, hb7⟩
              try go_simp
              refine hKK _ _ ?_
              clear hKK KK
              refine wpAny_take (i := 20) (v := ?_) rfl (by kernel_rfl) (by kernel_rfl) (by kernel_rfl) (fun _ _ _ h => h) (Or.inl ⟨by rfl, ?_⟩) ?_
              rotate_left
              · intro w
                go_simp
                try with_reducible rfl
              go_simp
              refine wpAny_take (i := 21) (v := ?_) rfl (by kernel_rfl) (by kernel_rfl) (by kernel_rfl) (fun _ _ _ h => h) (Or.inl ⟨by rfl, ?_⟩) ?_
              rotate_left
              · intro w
                go_simp
                try with_reducible rfl
              go_simp
              refine wpAny_take (i := 22) (v := ?_) rfl (by kernel_rfl) (by kernel_rfl) (by kernel_rfl) (fun _ _ _ h => h) (Or.inl ⟨by rfl, ?_⟩) ?_
              rotate_left
              · intro w
                go_simp
                try with_reducible rfl
              go_simp
              refine wpAny_done (by kernel_rfl) ?_ _
              have HB7 := Lib.hid (HB5.out.trans ((HBb.out.trans (hb7.mono HBb.out.size)).mono HB5.out.size))
              clear hb7
              go_wp2_with fail
              go_ret
              exact ⟨by simp, HB7.out⟩
  · by_cases h0 : xs0.length ≤ 1048576
    all_goals
      go_enter Try.func6, Try.ntmps6
      go_wp2_with fail
      go_ret
      exact ⟨rfl, Below.refl _ _⟩

end Go.Proofs.Ytjglikccikeejab
