/-
  Contract: spec.l92Mask: masks that are drawn.
-/
import Derived.Test.YtgnmfbgoacfjeaaDoorDrawTT
namespace Go.Proofs.YtgnmfbgoacfjeaaDoor
open Go.RowKit

/-- A mask that was drawn, whatever it holds, in memory of the call's own. -/
def MaskD (rb : Nat) (p : Int) (w : World) (e : Ending) (w' : World) : Prop :=
  ∃ (v : Value) (M : List (List Bool)) (g : Nat → Nat) (p' : Int), e = .returned v ∧ MtB w' w.heap.size v M g ∧ M.length ≤ 5 ∧ (∀ i, i < M.length → (M.getD i []).length ≤ 5) ∧ IsRd w' rb p' ∧ p' ≤ p + 40 ∧ Fr rb w w'

theorem own_rowIs {w : World} {base gb n c : Nat} {r : List Bool} (h : w.ownsRow base 4 1 (.slice (some ⟨gb, 0, none⟩) n c) r.length (r.map Value.bool)) :
    ∃ f, w.rowIs gb 4 c f ∧ (∀ j x, r[j]? = some x → f j = Value.bool x) ∧ n = r.length ∧ r.length ≤ c ∧ c ≤ 9223372036854775807 ∧ base ≤ gb := by
  have hcl := fun i u hu => World.ownsRow.cells (g := gb) h rfl i u hu
  rcases h.2 with ⟨h0, _⟩ | ⟨g2, cap2, cur2, hv2, hb2, hh2, hn2, hm2, hs2, _⟩
  · cases h0
  · injection hv2 with e1 e2 e3
    injection e1 with e1
    injection e1 with e1 _ _
    subst e1
    subst e3
    have hr2 : w.rowIs gb 4 c (fun j => cur2.getD j undef) := ⟨cur2, hh2, by rw [hs2, Nat.mul_one], fun j hj => by
      have : j < cur2.size := by rw [hs2]; omega
      simp [Array.getD, this]⟩
    refine ⟨_, hr2, fun j x hx => ?_, e2, hn2, by unfold maxLen at hm2; omega, hb2⟩
    have h1 := hcl j (Value.bool x) (by rw [List.getElem?_map, hx]; rfl)
    rw [add_none, Nat.zero_add] at h1
    have hj := (List.getElem?_eq_some_iff.1 hx).1
    rw [hr2.cell (by omega)] at h1
    injection h1

theorem own_lit {base H : Nat} (w : World) (hb : base ≤ w.heap.size) (hH : H = w.heap.size) : (w.alloc (.cells #[] 4)).ownsRow base 4 1 (.slice (some ⟨H, 0, none⟩) 0 0) 0 ([] : List Value) := by
  subst hH
  have := World.ownsRow_lit (base := base) (e := 4) (size := 1) w #[] 0 hb (by unfold maxLen; omega) (by simp)
  simpa using this
theorem rows_snoc {M : List (List Bool)} {r : List Bool} (h : ∀ i, i < M.length → (M.getD i []).length ≤ 5) (hr : r.length ≤ 5) : ∀ i, i < (M ++ [r]).length → ((M ++ [r]).getD i []).length ≤ 5 := fun i hi => by
  by_cases e : i < M.length
  · rw [List.getD_eq_getElem?_getD, List.getElem?_append_left e, ← List.getD_eq_getElem?_getD]; exact h i e
  · obtain rfl : i = M.length := by simp at hi; omega
    simp [List.getD_eq_getElem?_getD]; exact hr

theorem row_lit1 (w : World) : (w.alloc (.cells #[.bool true] 4)).rowIs w.heap.size 4 1 (fun _ => .bool true) :=
  World.rowIs_alloc w #[.bool true] 4 (fun _ => .bool true) (fun i hi => by
    have h0 : i = 0 := by simp at hi; exact hi
    subst h0
    rfl)
theorem own_only {w w' : World} {rb base size n : Nat} {e : TypeId} {v : Value} {cs : List Value} (h : w.ownsRow base e size v n cs) (ho : Only rb w w') (hb : rb < base) : w'.ownsRow base e size v n cs := by
  refine World.ownsRow.kept (row := some rb) h ⟨ho.1, ho.2.1, ho.2.2.1, Nat.le_of_eq ho.2.2.2.1.symm, fun k _ hne => ho.2.2.2.2 k (fun e => hne (by rw [e]))⟩ ?_
  cases hv : v.ownBlock with
  | none => exact .inl rfl
  | some k =>
    refine .inr (fun e => ?_)
    have := World.ownsRow.lt h k hv
    injection e with e
    omega

set_option maxHeartbeats 4000000 in
set_option maxRecDepth 100000 in
theorem maskD (rb : Nat) (p : Int) (w : World) (ta : Option Addr) (tb toff tcap : Nat) (T : List (List Int)) (h : IsRd w rb p) (hp : p ≤ 100000) (ht : TabG (Value.int .i64) (rb + 1) w ta tb toff T) (hl : T.length ≤ 4) (hl2 : ∀ i, i < T.length → (T.getD i []).length ≤ 5) :
    Calls Tryd.prog 68 #[.pointer (some ⟨rb, 0, none⟩), .slice ta T.length tcap] w (MaskD rb p w) := by
  have HI := Lib.hid h
  have HT := Lib.hid ht
  have HL2 := Lib.hid hl2
  have hlt0 := h.lt
  clear h ht hl2
  go_enter Tryd.func68, Tryd.ntmps68
  go_wp2_with fail
  have hba := (Below.refl w.heap.size w).alloc (Nat.le_refl _) (.cells #[] 47)
  refine (pick_any rb 3 p _ (HI.out.keep hba hlt0) (by omega) (by omega)).mono ?_
  rintro e w1 ⟨k1, rfl, hk10, hk11, hrd1, ho1⟩
  have HR1 := Lib.hid hrd1
  have HF1 := Lib.hid (((Fr.refl rb w).alloc (.cells #[] 47)).only ho1)
  have HM1 := Lib.hid ((MtG.lit (α := Bool) (enc := Value.bool) (RT := 47) (ET := 4) w w.heap.size (fun _ => 0) (Nat.le_refl _) rfl).only ho1 hlt0)
  have hk12 : k1 ≤ 2 := by omega
  obtain ⟨o, ho⟩ := nat_of (show 0 ≤ 1 + k1 by omega)
  have ho1 : 1 ≤ o := by omega
  have ho3 : o ≤ 3 := by omega
  clear hrd1 ho1 hk11 hba
  go_wp2_with fail
  go_loopw [5, 7] (fun s i wr => ∃ (k : Nat) (M : List (List Bool)) (g : Nat → Nat) (q : Int), k ≤ T.length ∧ i = .int .i64 k ∧ MtB wr w.heap.size s M g ∧ M.length = k ∧ (∀ i, i < M.length → (M.getD i []).length ≤ 5) ∧ IsRd wr rb q ∧ q ≤ p + 1 + 5 * k ∧ Fr rb w wr) (fun _ i _ => T.length - (intOf i).toNat)
  case atStart => exact ⟨0, [], _, _, Nat.zero_le _, rfl, HM1.out, rfl, fun i hi => absurd hi (by simp), HR1.out, by omega, HF1.out⟩
  case round =>
    clear HM1 HR1 HF1
    obtain ⟨k, M, g, q, hk, rfl, hm, hml, hrows, hrd, hq, hf⟩ := hrel
    have HM := Lib.hid hm
    have HML := Lib.hid hml
    have HRW := Lib.hid hrows
    have HR := Lib.hid hrd
    have HF := Lib.hid hf
    have hrlt := hrd.lt
    have hsw := hf.size
    have HTr := Lib.hid (HT.out.kept hf (fun k e => by injection e with e; omega))
    clear hm hml hrows hrd hf
    by_cases hlt : k < T.length
    · obtain ⟨n, hn⟩ : ∃ n, (T.getD k []).length = n := ⟨_, rfl⟩
      obtain rfl := HT.out.1 (by omega)
      have hn5 := HL2.out k hlt
      rw [hn] at hn5
      have HG := Lib.hid (fun i (hi : i < M.length) => HM.out.lt hi)
      obtain ⟨B1, hB1⟩ : ∃ B1, wr.heap.size = B1 := ⟨_, rfl⟩
      have hba := (Below.refl wr.heap.size wr).alloc (Nat.le_refl _) (.cells #[] 4)
      have HO1 := Lib.hid (own_lit (base := wr.heap.size) wr (Nat.le_refl _) rfl)
      have HRa := Lib.hid (HR.out.keep hba hrlt)
      have HBa := Lib.hid ((Fr.refl rb wr).alloc (.cells #[] 4))
      have HN := Lib.hid hn
      have hnh : rb < B1 := by omega
      rw [hB1] at HG HO1
      have HB1 := Lib.hid hB1
      clear hba hn hB1
      go_wp2_with fail
      go_loopw [8, 9] (fun s i wj => ∃ (j : Nat) (r : List Bool) (gb c : Nat) (q2 : Int), j ≤ n ∧ i = .int .i64 j ∧ s = .slice (some ⟨gb, 0, none⟩) j c ∧ r.length = j ∧ wj.ownsRow B1 4 1 (.slice (some ⟨gb, 0, none⟩) j c) r.length (r.map Value.bool) ∧ IsRd wj rb q2 ∧ q2 ≤ p + 1 + 5 * k + j ∧ Fr rb wr wj) (fun _ i _ => n - (intOf i).toNat)
      case atStart => exact ⟨0, [], _, 0, q, Nat.zero_le _, rfl, by rw [HB1.out], rfl, HO1.out, HRa.out, by omega, HBa.out⟩
      case round =>
        clear HO1 HRa HBa HR HTr
        obtain ⟨j, r, gb, c, q2, hj, rfl, rfl, hrl, hown, hrd2, hq2, hf2⟩ := hrel
        have HRL := Lib.hid hrl
        have HOWN := Lib.hid hown
        have HR := Lib.hid hrd2
        have HFI := Lib.hid hf2
        have HFO := Lib.hid (HF.out.trans hf2)
        have hB : B1 ≤ wr.heap.size := by rw [← HB1.out]; exact hf2.size
        have hT2 := HT.out.kept HFO.out (fun k e => by injection e with e; omega)
        have hTr := hT2.2 k hlt
        rw [HN.out] at hTr
        obtain ⟨hBb, a', b', o', c', hb', hcell, -, -, -⟩ := hTr
        clear hrl hown hrd2 hf2 hT2
        by_cases hjn : j < n
        · obtain ⟨y, ⟨hy0, hy1⟩, hpk⟩ := pick_ag rb 3 q2 wr HR.out (by omega) (by omega)
          have HPK := Lib.hid (hpk wr (fun _ _ => rfl))
          clear hpk hy1
          have hrl5 : r.length < n := by rw [HRL.out]; exact hjn
          go_wp2_with fail
          refine (HPK.out).mono ?_
          rintro e w2 ⟨rfl, hrd3, ho3⟩
          have HRD := Lib.hid hrd3
          have HF3 := Lib.hid (HFI.out.only ho3)
          have hB3 : B1 ≤ w2.heap.size := by rw [ho3.2.2.2.1]; exact hB
          have HO3 := Lib.hid (own_only HOWN.out ho3 hnh)
          clear hrd3 ho3
          go_wp2_with (at_builtin; refine wpList_app eltB rfl (.tmp 30) (.tmp 35) rfl B1 _ _ _ rfl HO3.out [.bool (decide (y < (o : Int)))] rfl (by intro u hu; simp at hu; subst hu; rfl) rfl rfl (by omega) hB3 ?_)
          intro v' w4 ho4 hb4 hg4
          obtain ⟨ao4, b4, cap4, hv4, -, -, h34, -⟩ := orow_cells ho4
          obtain ⟨rfl, -, -⟩ := h34 (by omega)
          subst hv4
          have HO4 := Lib.hid ho4
          have HF4 := Lib.hid (HF3.out.base (hb4.mono (by rw [HB1.out]; exact Nat.le_refl _)))
          have HR4 := Lib.hid (HRD.out.keep hb4 hnh)
          clear ho4 hb4 hg4 h34
          go_wp2_with fail
          go_roundw
          case rel => exact ⟨j + 1, r ++ [decide (y < (o : Int))], b4, cap4, q2 + 1, by omega, by go_num, by rw [HRL.out], by rw [List.length_append, HRL.out]; rfl, by have := HO4.out; rw [HRL.out] at this; rw [List.length_append, HRL.out, List.map_append]; exact this, HR4.out, by omega, HF4.out⟩
          case measure => simp [intOf]; omega
        · obtain rfl : j = n := by omega
          have HMx := Lib.hid (HM.out.kept HFI.out (fun k e => by injection e with e; omega))
          obtain ⟨f, hrow, hfr, -, hc1, hc2, hbg⟩ := own_rowIs HOWN.out
          obtain ⟨cs, hown, hcs⟩ := HMx.out.top
          have HO := Lib.hid hown
          have hwx : w.heap.size ≤ wr.heap.size := HFO.out.size
          have HSN := Lib.hid (fun (v' : Value) (w2 : World) => HMx.out.snoc (v' := v') (w2 := w2) (by decide) hown hcs (r := r) (c := c) (fun i hi => by have := HG.out i hi; omega) (by have := HB1.out; omega) hrow hfr hc1 hc2)
          rw [HRL.out] at HSN
          have hm4 : Hid (M.length ≤ 1000000000) := Lib.hid (by rw [HML.out]; omega)
          clear hown hcs hrow hfr hc1
          go_wp2_with (at_builtin; refine wpList_app eltRB rfl (.tmp 37) (.tmp 39) rfl w.heap.size _ _ _ rfl HO.out [_] rfl (by intro u hu; simp at hu; subst hu; rfl) rfl rfl hm4.out hwx ?_)
          intro v' w4 ho4 hb4 hg4
          have HM4 := Lib.hid (HSN.out v' w4 ho4 hg4)
          have HF4 := Lib.hid (HFO.out.base hb4)
          have HR4 := Lib.hid (HR.out.keep hb4 hlt0)
          clear ho4 hb4 hg4
          go_wp2_with fail
          go_roundw
          case rel => exact ⟨k + 1, M ++ [r], _, q2, by omega, by go_num, HM4.out, by rw [List.length_append, HML.out]; rfl, rows_snoc HRW.out (by rw [HRL.out]; exact hn5), HR4.out, by omega, HF4.out⟩
          case measure => simp [intOf]; omega
    · have hkT : k = T.length := by omega
      have HSW := Lib.hid hsw
      clear hlt
      go_wp2_with fail
      refine (pick_any rb 30 q wr HR.out (by omega) (by omega)).mono ?_
      rintro e w2 ⟨y, rfl, hy0, hy1, hrd3, ho3⟩
      have HRD := Lib.hid hrd3
      have HF3 := Lib.hid (HF.out.only ho3)
      have HM3 := Lib.hid (HM.out.only ho3 hlt0)
      have hw2 : w.heap.size ≤ w2.heap.size := HF3.out.size
      clear hrd3 ho3 hy1 HM HF HR
      by_cases hy : y = 0
      · subst hy
        have hb0 := (Below.refl w2.heap.size w2).alloc (Nat.le_refl _) (.cells #[.bool true] 4)
        have hm0 := HM3.out.below hb0
        obtain ⟨cs, hown, hcs⟩ := hm0.top
        have HO := Lib.hid hown
        have hrow := row_lit1 w2
        have HSN := Lib.hid (fun (v' : Value) (w4 : World) => hm0.snoc (v' := v') (w2 := w4) (by decide) hown hcs (r := [true]) (c := 1) (fun i hi => by have := HM3.out.lt hi; omega) hw2 hrow (fun j x hx => by
          have := List.getElem?_eq_some_iff.1 hx
          obtain ⟨h1, h2⟩ := this
          simp at h2
          rw [← h2]) (Nat.le_refl _) (by omega))
        have hsw2 : w.heap.size ≤ (w2.alloc (.cells #[.bool true] 4)).heap.size := Nat.le_trans hw2 hb0.size
        have HF5 := Lib.hid (HF3.out.alloc (.cells #[.bool true] 4))
        have HR5 := Lib.hid (HRD.out.alloc (.cells #[.bool true] 4))
        have hm4 : Hid (M.length ≤ 1000000000) := Lib.hid (by rw [HML.out]; omega)
        have HSW2 := Lib.hid hsw2
        clear hown hcs hrow hb0 hm0 hsw2
        go_wp2_with (at_builtin; refine wpList_appH eltRB rfl (.tmp 44) (.tmp 46) rfl w.heap.size _ _ _ rfl HO.out [.slice (some ⟨w2.heap.size, 0, none⟩) 1 1] rfl (by intro u hu; simp at hu; subst hu; rfl) rfl (w2.heap.size + 1) (by simp) rfl hm4.out HSW2.out ?_)
        intro v' w4 ho4 hb4 hg4
        have HM4 := Lib.hid (HSN.out v' w4 ho4 hg4)
        have HF4 := Lib.hid (HF5.out.base hb4)
        have HR4 := Lib.hid (HR5.out.keep hb4 hlt0)
        clear ho4 hb4 hg4
        go_wp2_with fail
        go_ret
        exact ⟨_, _, _, _, rfl, HM4.out, by rw [List.length_append, HML.out]; simp; omega, rows_snoc HRW.out (by simp), HR4.out, by omega, HF4.out⟩
      · have hq0 : (y == 0) = false := by simpa using hy
        clear hy
        go_wp2_with fail
        go_ret
        exact ⟨_, _, _, _, rfl, HM3.out, by rw [HML.out]; omega, HRW.out, HRD.out, by omega, HF3.out⟩
end Go.Proofs.YtgnmfbgoacfjeaaDoor
