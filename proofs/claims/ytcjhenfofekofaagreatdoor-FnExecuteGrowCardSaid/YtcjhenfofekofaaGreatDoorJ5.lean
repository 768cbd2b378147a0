/-
  Joined: SmallI, Line5.
-/
import Derived.Test.YtcjhenfofekofaaGreatDoorJ2
import Derived.Test.YtcjhenfofekofaaGreatDoorJ4
import Derived.Test.YtcjhenfofekofaaGreatDoorJ1
import Derived.RangeFuncBox
import Derived.RangeFuncNested
import Derived.Test.YtcjhenfofekofaaGreatDoorJ3
import Derived.IntWalk
import Derived.Carry

section
/-
  Contract: impl.MaskSmall of a table.
-/
namespace Go.Proofs.YtcjhenfofekofaaGreatDoor
open Go.RowKit
open Go.TextMath (tvB mvB text word)

/-- A row of flags of the call's own, cell by cell. -/
theorem own_rowB {w : World} {base gb n c : Nat} {r : List Bool} (h : w.ownsRow base 4 1 (.slice (some ⟨gb, 0, none⟩) n c) r.length (r.map Value.bool)) :
    ∃ f, w.rowIs gb 4 c f ∧ (∀ j x, r[j]? = some x → f j = Value.bool x) ∧ n = r.length ∧ r.length ≤ c ∧ c ≤ 9223372036854775807 ∧ base ≤ gb := by
  have hcl := fun i u hu => World.ownsRow.cells (g := gb) h rfl i u hu
  rcases h.2 with ⟨h0, _⟩ | ⟨g2, cap2, cur2, hv2, hb2, hh2, hn2, hm2, hs2, _⟩
  · cases h0
  · injection hv2 with e1 e2 e3
    injection e1 with e1
    injection e1 with e1 _ _
    subst e1
    subst e3
    have hr2 : w.rowIs gb 4 c (fun j => cur2.getD j undef) := ⟨cur2, hh2, by rw [hs2, Nat.mul_one], fun j hj => by
      have : j < cur2.size := by rw [hs2]; omega
      simp [Array.getD, this]⟩
    refine ⟨_, hr2, fun j x hx => ?_, e2, hn2, by unfold maxLen at hm2; omega, hb2⟩
    have h1 := hcl j (Value.bool x) (by rw [List.getElem?_map, hx]; rfl)
    have hj : j < c := by have := (List.getElem?_eq_some_iff.1 hx).1; omega
    have h2 := hr2.cell hj
    rw [add_none, Nat.zero_add] at h1
    exact Option.some.inj (h2.symm.trans h1)
theorem small_tk {r : List Int} {K : Int} {j : Nat} (h : j < r.length) : (smallR r K).take (j + 1) = (smallR r K).take j ++ [decide (0 < r.getD j 0 ∧ r.getD j 0 < K)] := by
  rw [List.take_succ_eq_append_getElem (by rw [smallR_len]; exact h)]
  congr 2
  simp [smallR, List.getD_eq_getElem?_getD, List.getElem?_eq_getElem h]

theorem below_grown' {w w' : World} {b B : Nat} (h : w.grownBy w' (some b)) (hB : B ≤ b) (hs : B ≤ w.heap.size) : Below B w w' := ⟨h.os, h.tape, h.output, h.size, fun k hk => h.block k (by omega) (fun e => by injection e with e; omega)⟩

/-- The rows made so far: rows ahead of k. -/
def SmR (T : List (List Int)) (K : Int) (n tb k : Nat) (g c : Nat → Nat) (wr : World) : Prop :=
  (∀ i, i < k → tb < g i ∧ n ≤ c i ∧ c i ≤ 9223372036854775807 ∧ ∃ f, wr.rowIs (g i) 4 (c i) f ∧ ∀ j x, (smallR (T.getD i []) K)[j]? = some x → f j = .bool x) ∧ ∀ i j, i < k → j < k → g i = g j → i = j
def SmF (n k : Nat) (g c : Nat → Nat) (v : Value) (i : Nat) : Value := if i < k then .slice (some ⟨g i, 0, none⟩) n (c i) else if i = k then v else .slice none 0 0
def SmO (w : World) (T : List (List Int)) (K : Int) (h n k : Nat) (wr : World) : Prop :=
  ∃ g c, wr.rowIs w.heap.size 84 h (SmF n k g c (.slice none 0 0)) ∧ SmR T K n w.heap.size k g c wr ∧ Below w.heap.size w wr
/-- The first flags, as values. -/
def bv (fl : List Bool) (j : Nat) : List Value := (fl.take j).map Value.bool
/-- Row k's flags made so far. -/
def SmN (w wr : World) (fl : List Bool) (h n k : Nat) (g c : Nat → Nat) (j : Nat) (wj : World) : Prop :=
  ∃ v, wj.rowIs w.heap.size 84 h (SmF n k g c v) ∧ wj.ownsRow wr.heap.size 4 1 v j (bv fl j) ∧ wr.grownBy wj (some w.heap.size)
theorem SmR.keep {T : List (List Int)} {K : Int} {n tb k : Nat} {g c : Nat → Nat} {w w' : World} (h : SmR T K n tb k g c w) (hg : w.grownBy w' (some tb)) : SmR T K n tb k g c w' := by
  refine ⟨fun i hi => ?_, h.2⟩
  obtain ⟨h1, h2, h3, f, h4, h5⟩ := h.1 i hi
  exact ⟨h1, h2, h3, f, h4.of_block (hg.block _ h4.lt fun e => by injection e with e; omega), h5⟩

set_option maxHeartbeats 2000000 in
theorem maskSmallI (ao : Option Addr) (b off cap : Nat) (T : List (List Int)) (K : Int) (w : World) (hr : Tab .i64 w ao b off T) (hv : tvB T = true) :
    Calls Tryz.prog 31 #[.slice ao T.length cap, .int .i64 K] w fun e w' => ∃ v g, e = .returned (.tuple #[v, .bool true]) ∧ MtB w' w.heap.size v (maskS T K) g ∧ Below w.heap.size w w' := by
  have HV := Lib.hid hv
  have HR := Lib.hid hr
  obtain ⟨hT1, hT4, hC1, hC4, hrows⟩ := tv_t.1 hv
  obtain ⟨n, hn⟩ : ∃ n, (T.getD 0 []).length = n := ⟨_, rfl⟩
  obtain ⟨h, hh⟩ : ∃ h, T.length = h := ⟨_, rfl⟩
  have HTV := Lib.hid (tableValidI ao b off cap T w hr (by omega))
  obtain rfl := hr.1 (by omega)
  rw [hn] at hC1 hC4 hrows
  rw [hh] at HTV hT1 hT4 hrows ⊢
  have HROWS := Lib.hid hrows
  have HH := Lib.hid hh
  have hmt : ∀ W : World, (Instr.makeSlice 44 (.int .i64 (h : Int)) (.int .i64 (h : Int))).run Tryz.prog W = .ok (.slice (some ⟨W.heap.size, 0, none⟩) h h) (W.alloc (.cells (madeCells #[.slice none 0 0] h) 84)) :=
    fun W => run_make_row' 44 84 _ 24 Tryz.underlying44 eltRB.info rfl .i64 .i64 h (by omega) (by omega) W
  clear hr hv hrows hn hh
  go_enter Tryz.func31, Tryz.ntmps31
  go_wp2_with fail
  refine (HTV.out).mono ?_
  rintro e w' ⟨rfl, rfl⟩
  rw [HV.out]
  clear HTV
  go_wp2_with fail
  go_loopw [19] (fun i wr => ∃ k : Nat, k ≤ h ∧ i = .int .i64 k ∧ SmO w T K h n k wr) (fun i _ => h - (intOf i).toNat)
  case atStart =>
    exact ⟨0, Nat.zero_le _, rfl, fun _ => 0, fun _ => 0, (World.rowIs_made w _ _ _).congr fun i _ => by unfold SmF; rw [if_neg (by omega)]; split <;> rfl, ⟨fun i hi => absurd hi (by omega), fun i j hi => absurd hi (by omega)⟩, (Below.refl _ _).alloc (Nat.le_refl _) _⟩
  case round =>
    obtain ⟨k, hk, rfl, g, c, ht, hrr, hb⟩ := hrel
    have HT := Lib.hid ht
    have HRR := Lib.hid hrr
    have HB := Lib.hid hb
    by_cases hlt : k < h
    · obtain ⟨wo, rfl⟩ : ∃ wo : World, wo = wr := ⟨_, rfl⟩
      have hbl := hb.size
      obtain ⟨ra, rb, ro, rc, hc0, hc2, hc3, hc4⟩ := HR.out.2 k (by rw [HH.out]; exact hlt)
      obtain ⟨hn1, hx⟩ := HROWS.out k hlt
      rw [hn1] at hc0 hc3
      obtain rfl := hc2.1 (by omega)
      have hc1 := (hb.cell (p := ⟨b, off + k, none⟩) (World.block_lt_of_cell? _ _ hc0)).trans hc0
      have hrb : rb < w.heap.size := World.block_lt_of_cell? _ _ (hc2.2 0 (by omega))
      have HRW := Lib.hid hc2
      have HN := Lib.hid hn1
      have htl := ht.lt
      have htbl : w.heap.size < wo.heap.size := htl
      obtain ⟨fl, hfl⟩ : ∃ fl, smallR (T.getD k []) K = fl := ⟨_, rfl⟩
      have HFL := Lib.hid hfl
      clear ht hrr hb hx hc0 hc2 hn1 hfl
      go_wp2_with fail
      go_loopw [26] (fun i wr => ∃ j : Nat, j ≤ n ∧ i = .int .i64 j ∧ SmN w wo fl h n k g c j wr) (fun i _ => n - (intOf i).toNat)
      case atStart => exact ⟨0, Nat.zero_le _, rfl, _, HT.out, World.ownsRow_nil _ _ _ _, ⟨rfl, rfl, rfl, Nat.le_refl _, fun _ _ _ => rfl⟩⟩
      case round =>
        obtain ⟨j, hj, rfl, v, htj, hown, hgr⟩ := hrel
        have HTJ := Lib.hid htj
        have HO := Lib.hid hown
        have HG := Lib.hid hgr
        have hsj := hgr.size
        by_cases hjn : j < n
        · have hcell := htj.cell hlt
          have hfr := htj.frozen k
          unfold SmF at hcell
          rw [if_neg (Nat.lt_irrefl _), if_pos rfl] at hcell
          have hx := HRW.out.2 j (by rw [HN.out]; exact hjn)
          have hx2 := ((World.cell?_of_block (a := ⟨rb, ro + j, none⟩) (hgr.block rb (by omega) (fun e => by injection e with e; omega))).trans (HB.out.cell (p := ⟨rb, ro + j, none⟩) hrb)).trans hx
          obtain ⟨x, hxx⟩ : ∃ x, (T.getD k []).getD j 0 = x := ⟨_, rfl⟩
          rw [hxx] at hx2
          have HTK := Lib.hid (small_tk (K := K) (r := T.getD k []) (j := j) (by rw [HN.out]; exact hjn))
          rw [hxx, HFL.out] at HTK
          clear hx hxx htj hown hgr
          have hji : (j : Int) < (n : Int) := by omega
          have hki : (k : Int) < (h : Int) := by omega
          have hj9 : Hid (j ≤ 1000000000) := Lib.hid (by omega)
          have fin : ∀ (v' : Value) (w4 : World) (y : Bool), y = decide (0 < x ∧ x < K) → w4.ownsRow wo.heap.size 4 1 v' (j + 1) (bv fl j ++ [.bool y]) → Below wo.heap.size wr w4 → SmN w wo fl h n k g c (j + 1) (w4.setCell ⟨w.heap.size, k, none⟩ v') := fun v' w4 y hy ho4 hb4 => by
            subst hy
            refine ⟨v', ?_, ?_, ?_⟩
            · refine ((HTJ.out.of_block (hb4.block _ htbl)).set k v').congr fun i hi => ?_
              unfold SmF
              by_cases e : i = k
              · rw [if_pos e, if_neg (by omega), if_pos e]
              · rw [if_neg e]
                by_cases e2 : i < k
                · rw [if_pos e2, if_pos e2]
                · rw [if_neg e2, if_neg e2, if_neg e, if_neg e]
            · have ho5 := World.ownsRow.kept (row := some w.heap.size) ho4 (⟨rfl, rfl, rfl, by rw [World.size_setCell]; exact Nat.le_refl _, fun i hi hne => Below.heap_setCell w4 _ _ _ (fun e => hne (by rw [e]))⟩ : w4.grownBy (w4.setCell ⟨w.heap.size, k, none⟩ v') (some w.heap.size)) (by
                cases hv' : v'.ownBlock with
                | none => exact .inl rfl
                | some q =>
                  refine .inr fun e => ?_
                  have := World.ownsRow.lt ho4 q hv'
                  injection e with e
                  omega)
              unfold bv at ho5 ⊢
              rw [HTK.out, List.map_append, List.map_singleton]
              exact ho5
            · have g1 : wo.grownBy w4 (some w.heap.size) := ⟨hb4.os.trans HG.out.os, hb4.tape.trans HG.out.tape, hb4.output.trans HG.out.output, Nat.le_trans hsj hb4.size, fun i hi hne => (hb4.block i hi).trans (HG.out.block i hi hne)⟩
              exact ⟨g1.os, g1.tape, g1.output, by rw [World.size_setCell]; exact g1.size, fun i hi hne => (Below.heap_setCell w4 _ _ _ (fun e => hne (by rw [e]))).trans (g1.block i hi hne)⟩
          have HFIN := Lib.hid fin
          clear fin
          by_cases hx0 : 0 < x
          · go_wp2_with (at_builtin; refine wpList_app eltB rfl (.tmp 35) (.tmp 43) rfl wo.heap.size _ _ _ rfl HO.out [.bool (decide (x < K))] rfl (by intro u hu; simp at hu; subst hu; rfl) rfl rfl hj9.out hsj ?_)
            intro v' w4 ho4 hb4 hg4
            have HF := Lib.hid (HFIN.out v' w4 _ (by simp [hx0]) ho4 hb4)
            obtain ⟨ao4, b4, cap4, hv4, -, -, -, -⟩ := orow_cells ho4
            subst hv4
            have hc4 := (hb4.cell (p := ⟨w.heap.size, k, none⟩) htbl).trans hcell
            have hf4 := (hb4.frozen (p := ⟨w.heap.size, k, none⟩) htbl).trans hfr
            clear ho4 hb4 hg4 HFIN
            go_wp2_with fail
            go_roundw
            case rel => exact ⟨j + 1, by omega, by go_num, HF.out⟩
            case measure => simp [intOf]; omega
          · go_wp2_with (at_builtin; refine wpList_app eltB rfl (.tmp 35) (.tmp 43) rfl wo.heap.size _ _ _ rfl HO.out [.bool false] rfl (by intro u hu; simp at hu; subst hu; rfl) rfl rfl hj9.out hsj ?_)
            intro v' w4 ho4 hb4 hg4
            have HF := Lib.hid (HFIN.out v' w4 _ (decide_eq_false (fun h => by omega)).symm ho4 hb4)
            obtain ⟨ao4, b4, cap4, hv4, -, -, -, -⟩ := orow_cells ho4
            subst hv4
            have hc4 := (hb4.cell (p := ⟨w.heap.size, k, none⟩) htbl).trans hcell
            have hf4 := (hb4.frozen (p := ⟨w.heap.size, k, none⟩) htbl).trans hfr
            clear ho4 hb4 hg4 HFIN
            go_wp2_with fail
            go_roundw
            case rel => exact ⟨j + 1, by omega, by go_num, HF.out⟩
            case measure => simp [intOf]; omega
        · obtain rfl : j = n := by omega
          have hsl : fl.length = j := by rw [← HFL.out, smallR_len, HN.out]
          unfold bv at hown
          rw [List.take_of_length_le (by rw [hsl]; exact Nat.le_refl _)] at hown
          obtain ⟨ao4, b4, cap4, hv4, -, -, h34, -⟩ := orow_cells hown
          obtain ⟨rfl, -, -⟩ := h34 (by omega)
          subst hv4
          have ho2 : wr.ownsRow wo.heap.size 4 1 (.slice (some ⟨b4, 0, none⟩) j cap4) fl.length (fl.map Value.bool) := by rw [hsl]; exact hown
          obtain ⟨f, f1, f2, -, f4, f5, f6⟩ := own_rowB ho2
          rw [hsl] at f4
          have HNEW : Hid (SmO w T K h j (k + 1) wr) := by
            refine ⟨fun i => if i = k then b4 else g i, fun i => if i = k then cap4 else c i, HTJ.out.congr fun i hi => ?_, ⟨fun i hi => ?_, fun i1 i2 h1 h2 e => ?_⟩, HB.out.trans (below_grown' HG.out (Nat.le_refl _) hbl)⟩
            · unfold SmF
              by_cases e : i = k
              · subst e
                dsimp only
                rw [if_neg (by omega), if_pos rfl, if_pos (by omega), if_pos rfl, if_pos rfl]
              · by_cases e2 : i < k
                · dsimp only
                  rw [if_pos e2, if_pos (by omega), if_neg e, if_neg e]
                · rw [if_neg e2, if_neg e, if_neg (by omega)]
                  split <;> rfl
            · by_cases e : i = k
              · subst e
                dsimp only
                rw [if_pos rfl, if_pos rfl]
                exact ⟨by omega, f4, f5, f, f1, by rw [HFL.out]; exact f2⟩
              · dsimp only
                rw [if_neg e, if_neg e]
                exact (HRR.out.keep HG.out).1 i (by omega)
            · have hlow : ∀ i, i < k → g i < wo.heap.size := fun i hi => by
                obtain ⟨_, _, _, _, q, _⟩ := HRR.out.1 i hi
                exact q.lt
              by_cases e1 : i1 = k
              · by_cases e2 : i2 = k
                · rw [e1, e2]
                · simp only [if_pos e1, if_neg e2] at e
                  have := hlow i2 (by omega)
                  omega
              · by_cases e2 : i2 = k
                · simp only [if_neg e1, if_pos e2] at e
                  have := hlow i1 (by omega)
                  omega
                · simp only [if_neg e1, if_neg e2] at e
                  exact HRR.out.2 i1 i2 (by omega) (by omega) e
          clear htj hown hgr hsl h34 ho2 f1 f2 HTJ HO HG HRR HT HB
          go_wp2_with fail
          go_roundw
          case rel => exact ⟨k + 1, by omega, by go_num, HNEW.out⟩
          case measure => simp [intOf]; omega
    · obtain rfl : k = h := by omega
      have hml : (maskS T K).length = k := by rw [maskS_len]; exact HH.out
      have hmr : ∀ i, i < k → (maskS T K).getD i [] = smallR (T.getD i []) K := fun i hi => maskS_at (by rw [HH.out]; exact hi)
      have hmn : ∀ i, i < k → (smallR (T.getD i []) K).length = n := fun i hi => by rw [smallR_len]; exact (HROWS.out i hi).1
      have HM := Lib.hid (mt_of_rows (enc := Value.bool) (RT := 84) (ET := 4) (w := wr) (base := w.heap.size) (b := w.heap.size) (T := maskS T K) (g := g) (c := c) (Nat.le_refl _) (by rw [hml]; omega)
        (by rw [hml]; exact ht.congr fun i hi => by unfold SmF; rw [if_pos hi, hmr i hi, hmn i hi]) (fun i hi => by rw [hml] at hi; exact Nat.le_of_lt (hrr.1 i hi).1) (fun i j hi hj e => by rw [hml] at hi hj; exact hrr.2 i j hi hj e)
        (fun i hi => by
          rw [hml] at hi
          obtain ⟨_, q2, q3, f, q4, q5⟩ := hrr.1 i hi
          rw [hmr i hi, hmn i hi]
          exact ⟨q2, q3, f, q4, q5⟩))
      rw [hml] at HM
      clear ht hrr hb hml hmr hmn
      go_wp2_with fail
      go_ret2
      exact ⟨_, g, rfl, HM.out, HB.out⟩
end Go.Proofs.YtcjhenfofekofaaGreatDoor
end

section
/-
  Contract: a line of a script of kind 5.
-/
namespace Go.Proofs.YtcjhenfofekofaaGreatDoor
open Go.RowKit Go.Maps Go.WideShapes
open Go.TextMath (tvB mvB text word)
attribute [local go_sem] run_makeMap

set_option maxRecDepth 100000 in
set_option maxHeartbeats 4000000 in
theorem line5 : LineC 5 := by
  intro blk L sb scap ss w hsc hv hrow hl1 hl2 hsz _ _ hlib hkind
  obtain ⟨hk0, hkn⟩ := kind_5 hkind
  rw [wsL_len] at hkn
  rw [wsL_at ss (by omega)] at hk0
  have HX0 := Lib.hid (word_is hk0)
  have HK := Lib.hid hkind
  have HV := Lib.hid hv
  have HSC := Lib.hid hsc
  have HROW := Lib.hid hrow
  have HLIB := Lib.hid hlib
  have HSZ := Lib.hid hsz
  have HSN := Lib.hid hkn
  have h0 := hrow.2 0 (by omega)
  rw [HX0.out] at h0
  rw [Nat.zero_add] at h0
  have h40 := (ppl_t.1 hv).1
  obtain ⟨ao, b, cap, hbox, hppl, hc1, hc2, hne, hnn⟩ := hsc.ppl
  have HBOX := Lib.hid hbox
  have HPPL := Lib.hid hppl
  have HNE := Lib.hid hne
  have hblk := hbox.lt
  have hsb : sb < w.heap.size := World.block_lt_of_cell? _ _ h0
  rw [hkn] at hl1 ⊢
  have h0' : w.cell? ⟨sb, 0, none⟩ = some (.string ⟨#[115, 109, 97, 108, 108]⟩) := h0
  clear hk0 hkind hv hbox hppl hne hrow hlib hsz hkn h0
  go_enter Tryz.func43, Tryz.ntmps43
  have HM0 := Lib.hid (MapS.start w)
  go_wp2_with (refine ins_step w _ _ _ HM0.out rfl _ _ _ rfl rfl ⟨#[112, 101, 114, 115, 111, 110]⟩ rfl (by decide) 4 rfl (by decide) (by decide) ?_)
  intro W1 hm1
  have HM1 := Lib.hid hm1
  clear hm1 HM0
  go_wp2_with (refine ins_step w _ _ _ HM1.out rfl _ _ _ rfl rfl ⟨#[100, 114, 111, 112]⟩ rfl (by decide) 1 rfl (by decide) (by decide) ?_)
  intro W2 hm2
  have HM2 := Lib.hid hm2
  clear hm2 HM1
  go_wp2_with (refine ins_step w _ _ _ HM2.out rfl _ _ _ rfl rfl ⟨#[99, 111, 117, 110, 116]⟩ rfl (by decide) 3 rfl (by decide) (by decide) ?_)
  intro W3 hm3
  have HM3 := Lib.hid hm3
  clear hm3 HM2
  go_wp2_with (refine ins_step w _ _ _ HM3.out rfl _ _ _ rfl rfl ⟨#[116, 97, 98, 108, 101]⟩ rfl (by decide) 0 rfl (by decide) (by decide) ?_)
  intro W4 hm4
  have HM4 := Lib.hid hm4
  clear hm4 HM3
  go_wp2_with (refine ins_step w _ _ _ HM4.out rfl _ _ _ rfl rfl ⟨#[115, 109, 97, 108, 108]⟩ rfl (by decide) 1 rfl (by decide) (by decide) ?_)
  intro W5 hm5
  have HM5 := Lib.hid hm5
  clear hm5 HM4
  go_wp2_with (refine ins_step w _ _ _ HM5.out rfl _ _ _ rfl rfl ⟨#[103, 114, 111, 119]⟩ rfl (by decide) 2 rfl (by decide) (by decide) ?_)
  intro W6 hm6
  have HM6 := Lib.hid hm6
  clear hm6 HM5
  go_wp2_with (refine ins_step w _ _ _ HM6.out rfl _ _ _ rfl rfl ⟨#[114, 111, 117, 110, 100]⟩ rfl (by decide) 1 rfl (by decide) (by decide) ?_)
  intro W7 hm7
  have HM7 := Lib.hid hm7
  clear hm7 HM6
  go_wp2_with (refine ins_step w _ _ _ HM7.out rfl _ _ _ rfl rfl ⟨#[103, 114, 111, 117, 112, 115]⟩ rfl (by decide) 0 rfl (by decide) (by decide) ?_)
  intro W8 hm8
  have HM8 := Lib.hid hm8
  clear hm8 HM7
  have h08 := (HM8.out.2.cell (p := ⟨sb, 0, none⟩) hsb).trans h0'
  have HB8 := Lib.hid HM8.out.2
  go_wp2_with (at_lookup; refine look_step w _ HM8.out rfl _ _ rfl rfl ⟨#[115, 109, 97, 108, 108]⟩ rfl (by decide) 1 true (by decide) (by decide) ?_)
  all_goals try go_wp2_with fail
  go_loopw [9, 45] (fun v i wr => ∃ j : Nat, j ≤ 1 ∧ i = .int .i64 j ∧ Own wr w.heap.size v ((numsB ss).take j) ∧ Below w.heap.size w wr) (fun _ i _ => 1 - (intOf i).toNat)
  case atStart => exact ⟨0, Nat.zero_le _, rfl, by rw [List.take_zero]; exact Own.nil _ _, HB8.out⟩
  case round =>
    obtain ⟨j, hj, rfl, ho, hb⟩ := hrel
    have HO := Lib.hid ho
    have HB := Lib.hid hb
    have hsw := hb.size
    by_cases hjm : j < 1
    · have hcj : wr.cell? ⟨sb, 1 + j, none⟩ = some (.string (ss.getD (1 + j) ⟨#[]⟩)) := (hb.cell (p := ⟨sb, 1 + j, none⟩) hsb).trans (by have := HROW.out.2 (1 + j) (by rw [HSN.out]; omega); rwa [Nat.zero_add] at this)
      obtain ⟨x, hx⟩ : ∃ x, ss.getD (1 + j) ⟨#[]⟩ = x := ⟨_, rfl⟩
      rw [hx] at hcj
      have hxs : x.size ≤ 500 := by rw [← hx, List.getD_eq_getElem?_getD, List.getElem?_eq_getElem (by rw [HSN.out]; omega), Option.getD_some]; exact HSZ.out _ (List.getElem_mem _)
      have HTK := Lib.hid (nums_take (xs := numsB ss) (k := j) (by rw [numsB_len, HSN.out]; omega))
      rw [numsB_at ss (by rw [HSN.out]; omega), Nat.add_comm j 1, hx, Nat.add_comm 1 j] at HTK
      have HTL := Lib.hid (show ((numsB ss).take j).length = j by rw [List.length_take, numsB_len, HSN.out]; omega)
      have hji : (j : Int) < 1 := by omega
      obtain ⟨zs, hzs⟩ : ∃ zs, (numsB ss).take j = zs := ⟨_, rfl⟩
      rw [hzs] at HO HTK HTL
      clear ho hb hx hzs
      go_wp2_with fail
      refine (scrI x (by omega) wr).mono ?_
      rintro e w1 ⟨rfl, hb1⟩
      have HB1 := Lib.hid hb1
      have HO1 := Lib.hid (HO.out.below hb1)
      have hs1 := hb1.size
      have hj9 : Hid (zs.length ≤ 1000000000) := Lib.hid (by rw [HTL.out]; omega)
      clear hb1
      go_wp2_with (at_builtin; refine wpList_app eltI rfl (.tmp 49) (.tmp 52) rfl w.heap.size _ _ _ rfl HO1.out [.int .i64 (scrN x.data.toList)] rfl (by intro u hu; simp at hu; subst hu; rfl) rfl rfl hj9.out (by omega) ?_)
      intro v' w2 ho2 hb2 _
      have HO2 := Lib.hid (show Own w2 w.heap.size v' ((numsB ss).take (j + 1)) by
        rw [HTK.out]
        unfold Own
        rw [List.length_append, List.length_singleton, List.map_append, List.map_singleton]
        exact ho2)
      have HB2 := Lib.hid ((HB.out.trans (HB1.out.mono hsw)).trans hb2)
      clear ho2 hb2
      go_wp2_with fail
      go_roundw
      case rel => exact ⟨j + 1, by omega, by go_num, HO2.out, HB2.out⟩
      case measure => simp [intOf]; omega
    · obtain rfl : j = 1 := by omega
      rw [List.take_of_length_le (by have h := numsB_len ss; rw [HSN.out] at h; omega)] at ho
      obtain ⟨an, bn, cn, hvn, hn1, hn2, hnr, -⟩ := ho.row
      have hnl : (numsB ss).length = 1 := by rw [numsB_len, HSN.out]
      rw [hnl] at hvn hn1
      subst hvn
      have HNR := Lib.hid hnr
      have HNL := Lib.hid hnl
      have hbc := (boxed_bel HBOX.out hb hblk).cell
      have hp1 := HPPL.out.keep hb (Nat.le_refl _)
      clear ho hnr hnl HO
      go_wp2_with fail
      refine (tableOfI ao b 0 cap L wr hp1 HV.out).mono ?_
      rintro e w3 ⟨vt, gt, rfl, hmt, hb3⟩
      have HB3 := Lib.hid (HB.out.trans (hb3.mono hsw))
      have HNR3 := Lib.hid (HNR.out.keep hb3 (Nat.le_refl _))
      have HMT := Lib.hid (hmt.mono hsw)
      obtain ⟨at3, bt3, ct3, rfl, ht1, ht2, htab⟩ := hmt.tab
      have HTAB := Lib.hid htab
      have HTT := Lib.hid (tabO_tv HV.out)
      have hn40 : (numsB ss).length ≤ 4 := by rw [HNL.out]; decide
      have h03 := (HB3.out.cell (p := ⟨sb, 0, none⟩) hsb).trans h0'
      have hbc3 := (boxed_bel HBOX.out HB3.out hblk).cell
      have HSC3 := Lib.hid (HSC.out.keep HB3.out)
      have HLIB3 := Lib.hid (HLIB.out.keep HB3.out (Nat.le_refl _))
      have HPPL3 := Lib.hid (HPPL.out.keep HB3.out (Nat.le_refl _))
      have hs3 := HB3.out.size
      clear hb hb3 hmt htab hp1 hbc
      have htl := tabO_len L
      rw [htl] at ht1 ⊢
      have HLN := Lib.hid htl
      have hx0 := HNR3.out.2 0 (by rw [HNL.out]; decide)
      obtain rfl := HNR3.out.1 (by rw [HNL.out]; decide)
      rw [Nat.zero_add] at hx0
      obtain ⟨x, hx⟩ : ∃ x, (numsB ss).getD 0 0 = x := ⟨_, rfl⟩
      rw [hx] at hx0
      have HXE := Lib.hid hx
      clear hx htl
      go_wp2_with fail
      have hMS := maskSmallI at3 bt3 0 ct3 (tabO L) x w3 HTAB.out HTT.out
      rw [HLN.out] at hMS
      refine hMS.mono ?_
      rintro e w4 ⟨vm, gm, rfl, hmm, hb4⟩
      obtain ⟨am, bm, cm, rfl, hm1, hm2, hmt⟩ := hmm.tabB
      have hml : (maskS (tabO L) x).length = 4 := by rw [maskS_len, HLN.out]
      have HMTB := Lib.hid hmt
      have HML := Lib.hid hml
      have HB4 := Lib.hid (HB3.out.trans (hb4.mono hs3))
      have HTAB4 := Lib.hid (HTAB.out.keep hb4 (Nat.le_refl _))
      have HLIB4 := Lib.hid (HLIB3.out.keep hb4 (Nat.le_refl _))
      have HMV := Lib.hid (maskS_mv (T := tabO L) x HTT.out)
      have hs4 := HB4.out.size
      rw [hml] at hm1 ⊢
      clear hmm hmt hb4 hMS hml
      go_wp2_with fail
      have hTT := maskTextI at3 bt3 0 ct3 (tabO L) am bm 0 cm (maskS (tabO L) x) w4 HTAB4.out (by rw [HLN.out]; decide) HMTB.out ⟨by rw [HML.out]; exact hm1, hm2⟩ HLIB4.out.1.1
      rw [HLN.out, HML.out] at hTT
      refine hTT.mono ?_
      rintro e w5 ⟨rfl, hb5⟩
      have HB5 := Lib.hid (HB4.out.trans (hb5.mono hs4))
      clear hb5 hTT
      go_wp2_with fail
      go_ret2
      refine ⟨_, true, rfl, ?_, ?_, (Fr.refl _ _).below HB5.out⟩
      · rw [step_5 HK.out, numsB_eq, HXE.out, if_pos rfl, mt_t HMV.out]
      · rw [step_5 HK.out]
        exact HSC.out.keep HB5.out
end Go.Proofs.YtcjhenfofekofaaGreatDoor
end
