/-
  Joined: SmallI, Line5, Round, Heads, Flow2, Rep, Reach, Grid.
-/
import Derived.Test.YtlmlchkolcmhpaaGreatDoorJ2
import Derived.Test.YtlmlchkolcmhpaaGreatDoorJ4
import Derived.Test.YtlmlchkolcmhpaaGreatDoorJ1
import Derived.RangeFuncBox
import Derived.RangeFuncNested
import Derived.Test.YtlmlchkolcmhpaaGreatDoorJ3
import Derived.IntWalk
import Derived.Carry
import Derived.OrdersIn
import Derived.StillTail
import Derived.StillTailTactics
import Derived.RangeFuncCalls
import Derived.TacticsIn
import Derived.Deep.DeepCutAuto
import Derived.Deep.RegionWith
import Derived.Test.YtlmlchkolcmhpaaGreatDoorYShelf
import Derived.OrdersHeld
import Derived.Deep.RegionHeld
import Derived.Laws.IdiomCopy
import Derived.ArgAppend
import Derived.Deep.LoopGhost

section
/-
  Contract: impl.MaskSmall of a table.
-/
namespace Go.Proofs.YtlmlchkolcmhpaaGreatDoor
open Go.RowKit
open Go.TextMath (tvB mvB text word)

/-- A row of flags of the call's own, cell by cell. -/
theorem own_rowB {w : World} {base gb n c : Nat} {r : List Bool} (h : w.ownsRow base 4 1 (.slice (some ⟨gb, 0, none⟩) n c) r.length (r.map Value.bool)) :
    ∃ f, w.rowIs gb 4 c f ∧ (∀ j x, r[j]? = some x → f j = Value.bool x) ∧ n = r.length ∧ r.length ≤ c ∧ c ≤ 9223372036854775807 ∧ base ≤ gb := by
  have hcl := fun i u hu => World.ownsRow.cells (g := gb) h rfl i u hu
  rcases h.2 with ⟨h0, _⟩ | ⟨g2, cap2, cur2, hv2, hb2, hh2, hn2, hm2, hs2, _⟩
  · cases h0
  · injection hv2 with e1 e2 e3
    injection e1 with e1
    injection e1 with e1 _ _
    subst e1
    subst e3
    have hr2 : w.rowIs gb 4 c (fun j => cur2.getD j undef) := ⟨cur2, hh2, by rw [hs2, Nat.mul_one], fun j hj => by
      have : j < cur2.size := by rw [hs2]; omega
      simp [Array.getD, this]⟩
    refine ⟨_, hr2, fun j x hx => ?_, e2, hn2, by unfold maxLen at hm2; omega, hb2⟩
    have h1 := hcl j (Value.bool x) (by rw [List.getElem?_map, hx]; rfl)
    have hj : j < c := by have := (List.getElem?_eq_some_iff.1 hx).1; omega
    have h2 := hr2.cell hj
    rw [add_none, Nat.zero_add] at h1
    exact Option.some.inj (h2.symm.trans h1)
theorem small_tk {r : List Int} {K : Int} {j : Nat} (h : j < r.length) : (smallR r K).take (j + 1) = (smallR r K).take j ++ [decide (0 < r.getD j 0 ∧ r.getD j 0 < K)] := by
  rw [List.take_succ_eq_append_getElem (by rw [smallR_len]; exact h)]
  congr 2
  simp [smallR, List.getD_eq_getElem?_getD, List.getElem?_eq_getElem h]

theorem below_grown' {w w' : World} {b B : Nat} (h : w.grownBy w' (some b)) (hB : B ≤ b) (hs : B ≤ w.heap.size) : Below B w w' := ⟨h.os, h.tape, h.output, h.size, fun k hk => h.block k (by omega) (fun e => by injection e with e; omega)⟩

/-- The rows made so far: rows ahead of k. -/
def SmR (T : List (List Int)) (K : Int) (n tb k : Nat) (g c : Nat → Nat) (wr : World) : Prop :=
  (∀ i, i < k → tb < g i ∧ n ≤ c i ∧ c i ≤ 9223372036854775807 ∧ ∃ f, wr.rowIs (g i) 4 (c i) f ∧ ∀ j x, (smallR (T.getD i []) K)[j]? = some x → f j = .bool x) ∧ ∀ i j, i < k → j < k → g i = g j → i = j
def SmF (n k : Nat) (g c : Nat → Nat) (v : Value) (i : Nat) : Value := if i < k then .slice (some ⟨g i, 0, none⟩) n (c i) else if i = k then v else .slice none 0 0
def SmO (w : World) (T : List (List Int)) (K : Int) (h n k : Nat) (wr : World) : Prop :=
  ∃ g c, wr.rowIs w.heap.size 98 h (SmF n k g c (.slice none 0 0)) ∧ SmR T K n w.heap.size k g c wr ∧ Below w.heap.size w wr
/-- The first flags, as values. -/
def bv (fl : List Bool) (j : Nat) : List Value := (fl.take j).map Value.bool
/-- Row k's flags made so far. -/
def SmN (w wr : World) (fl : List Bool) (h n k : Nat) (g c : Nat → Nat) (j : Nat) (wj : World) : Prop :=
  ∃ v, wj.rowIs w.heap.size 98 h (SmF n k g c v) ∧ wj.ownsRow wr.heap.size 4 1 v j (bv fl j) ∧ wr.grownBy wj (some w.heap.size)
theorem SmR.keep {T : List (List Int)} {K : Int} {n tb k : Nat} {g c : Nat → Nat} {w w' : World} (h : SmR T K n tb k g c w) (hg : w.grownBy w' (some tb)) : SmR T K n tb k g c w' := by
  refine ⟨fun i hi => ?_, h.2⟩
  obtain ⟨h1, h2, h3, f, h4, h5⟩ := h.1 i hi
  exact ⟨h1, h2, h3, f, h4.of_block (hg.block _ h4.lt fun e => by injection e with e; omega), h5⟩

set_option maxHeartbeats 2000000 in
theorem maskSmallI (ao : Option Addr) (b off cap : Nat) (T : List (List Int)) (K : Int) (w : World) (hr : Tab .i64 w ao b off T) (hv : tvB T = true) :
    Calls Tryz.prog 44 #[.slice ao T.length cap, .int .i64 K] w fun e w' => ∃ v g, e = .returned (.tuple #[v, .bool true]) ∧ MtB w' w.heap.size v (maskS T K) g ∧ Below w.heap.size w w' := by
  have HV := Lib.hid hv
  have HR := Lib.hid hr
  obtain ⟨hT1, hT4, hC1, hC4, hrows⟩ := tv_t.1 hv
  obtain ⟨n, hn⟩ : ∃ n, (T.getD 0 []).length = n := ⟨_, rfl⟩
  obtain ⟨h, hh⟩ : ∃ h, T.length = h := ⟨_, rfl⟩
  have HTV := Lib.hid (tableValidI ao b off cap T w hr (by omega))
  obtain rfl := hr.1 (by omega)
  rw [hn] at hC1 hC4 hrows
  rw [hh] at HTV hT1 hT4 hrows ⊢
  have HROWS := Lib.hid hrows
  have HH := Lib.hid hh
  have hmt : ∀ W : World, (Instr.makeSlice 75 (.int .i64 (h : Int)) (.int .i64 (h : Int))).run Tryz.prog W = .ok (.slice (some ⟨W.heap.size, 0, none⟩) h h) (W.alloc (.cells (madeCells #[.slice none 0 0] h) 98)) :=
    fun W => run_make_row' 75 98 _ 24 Tryz.underlying75 eltRB.info rfl .i64 .i64 h (by omega) (by omega) W
  clear hr hv hrows hn hh
  go_enter Tryz.func44, Tryz.ntmps44
  go_wp2_with fail
  refine (HTV.out).mono ?_
  rintro e w' ⟨rfl, rfl⟩
  rw [HV.out]
  clear HTV
  go_wp2_with fail
  go_loopw [19] (fun i wr => ∃ k : Nat, k ≤ h ∧ i = .int .i64 k ∧ SmO w T K h n k wr) (fun i _ => h - (intOf i).toNat)
  case atStart =>
    exact ⟨0, Nat.zero_le _, rfl, fun _ => 0, fun _ => 0, (World.rowIs_made w _ _ _).congr fun i _ => by unfold SmF; rw [if_neg (by omega)]; split <;> rfl, ⟨fun i hi => absurd hi (by omega), fun i j hi => absurd hi (by omega)⟩, (Below.refl _ _).alloc (Nat.le_refl _) _⟩
  case round =>
    obtain ⟨k, hk, rfl, g, c, ht, hrr, hb⟩ := hrel
    have HT := Lib.hid ht
    have HRR := Lib.hid hrr
    have HB := Lib.hid hb
    by_cases hlt : k < h
    · obtain ⟨wo, rfl⟩ : ∃ wo : World, wo = wr := ⟨_, rfl⟩
      have hbl := hb.size
      obtain ⟨ra, rb, ro, rc, hc0, hc2, hc3, hc4⟩ := HR.out.2 k (by rw [HH.out]; exact hlt)
      obtain ⟨hn1, hx⟩ := HROWS.out k hlt
      rw [hn1] at hc0 hc3
      obtain rfl := hc2.1 (by omega)
      have hc1 := (hb.cell (p := ⟨b, off + k, none⟩) (World.block_lt_of_cell? _ _ hc0)).trans hc0
      have hrb : rb < w.heap.size := World.block_lt_of_cell? _ _ (hc2.2 0 (by omega))
      have HRW := Lib.hid hc2
      have HN := Lib.hid hn1
      have htl := ht.lt
      have htbl : w.heap.size < wo.heap.size := htl
      obtain ⟨fl, hfl⟩ : ∃ fl, smallR (T.getD k []) K = fl := ⟨_, rfl⟩
      have HFL := Lib.hid hfl
      clear ht hrr hb hx hc0 hc2 hn1 hfl
      go_wp2_with fail
      go_loopw [26] (fun i wr => ∃ j : Nat, j ≤ n ∧ i = .int .i64 j ∧ SmN w wo fl h n k g c j wr) (fun i _ => n - (intOf i).toNat)
      case atStart => exact ⟨0, Nat.zero_le _, rfl, _, HT.out, World.ownsRow_nil _ _ _ _, ⟨rfl, rfl, rfl, Nat.le_refl _, fun _ _ _ => rfl⟩⟩
      case round =>
        obtain ⟨j, hj, rfl, v, htj, hown, hgr⟩ := hrel
        have HTJ := Lib.hid htj
        have HO := Lib.hid hown
        have HG := Lib.hid hgr
        have hsj := hgr.size
        by_cases hjn : j < n
        · have hcell := htj.cell hlt
          have hfr := htj.frozen k
          unfold SmF at hcell
          rw [if_neg (Nat.lt_irrefl _), if_pos rfl] at hcell
          have hx := HRW.out.2 j (by rw [HN.out]; exact hjn)
          have hx2 := ((World.cell?_of_block (a := ⟨rb, ro + j, none⟩) (hgr.block rb (by omega) (fun e => by injection e with e; omega))).trans (HB.out.cell (p := ⟨rb, ro + j, none⟩) hrb)).trans hx
          obtain ⟨x, hxx⟩ : ∃ x, (T.getD k []).getD j 0 = x := ⟨_, rfl⟩
          rw [hxx] at hx2
          have HTK := Lib.hid (small_tk (K := K) (r := T.getD k []) (j := j) (by rw [HN.out]; exact hjn))
          rw [hxx, HFL.out] at HTK
          clear hx hxx htj hown hgr
          have hji : (j : Int) < (n : Int) := by omega
          have hki : (k : Int) < (h : Int) := by omega
          have hj9 : Hid (j ≤ 1000000000) := Lib.hid (by omega)
          have fin : ∀ (v' : Value) (w4 : World) (y : Bool), y = decide (0 < x ∧ x < K) → w4.ownsRow wo.heap.size 4 1 v' (j + 1) (bv fl j ++ [.bool y]) → Below wo.heap.size wr w4 → SmN w wo fl h n k g c (j + 1) (w4.setCell ⟨w.heap.size, k, none⟩ v') := fun v' w4 y hy ho4 hb4 => by
            subst hy
            refine ⟨v', ?_, ?_, ?_⟩
            · refine ((HTJ.out.of_block (hb4.block _ htbl)).set k v').congr fun i hi => ?_
              unfold SmF
              by_cases e : i = k
              · rw [if_pos e, if_neg (by omega), if_pos e]
              · rw [if_neg e]
                by_cases e2 : i < k
                · rw [if_pos e2, if_pos e2]
                · rw [if_neg e2, if_neg e2, if_neg e, if_neg e]
            · have ho5 := World.ownsRow.kept (row := some w.heap.size) ho4 (⟨rfl, rfl, rfl, by rw [World.size_setCell]; exact Nat.le_refl _, fun i hi hne => Below.heap_setCell w4 _ _ _ (fun e => hne (by rw [e]))⟩ : w4.grownBy (w4.setCell ⟨w.heap.size, k, none⟩ v') (some w.heap.size)) (by
                cases hv' : v'.ownBlock with
                | none => exact .inl rfl
                | some q =>
                  refine .inr fun e => ?_
                  have := World.ownsRow.lt ho4 q hv'
                  injection e with e
                  omega)
              unfold bv at ho5 ⊢
              rw [HTK.out, List.map_append, List.map_singleton]
              exact ho5
            · have g1 : wo.grownBy w4 (some w.heap.size) := ⟨hb4.os.trans HG.out.os, hb4.tape.trans HG.out.tape, hb4.output.trans HG.out.output, Nat.le_trans hsj hb4.size, fun i hi hne => (hb4.block i hi).trans (HG.out.block i hi hne)⟩
              exact ⟨g1.os, g1.tape, g1.output, by rw [World.size_setCell]; exact g1.size, fun i hi hne => (Below.heap_setCell w4 _ _ _ (fun e => hne (by rw [e]))).trans (g1.block i hi hne)⟩
          have HFIN := Lib.hid fin
          clear fin
          by_cases hx0 : 0 < x
          · go_wp2_with (at_builtin; refine wpList_app eltB rfl (.tmp 35) (.tmp 43) rfl wo.heap.size _ _ _ rfl HO.out [.bool (decide (x < K))] rfl (by intro u hu; simp at hu; subst hu; rfl) rfl rfl hj9.out hsj ?_)
            intro v' w4 ho4 hb4 hg4
            have HF := Lib.hid (HFIN.out v' w4 _ (by simp [hx0]) ho4 hb4)
            obtain ⟨ao4, b4, cap4, hv4, -, -, -, -⟩ := orow_cells ho4
            subst hv4
            have hc4 := (hb4.cell (p := ⟨w.heap.size, k, none⟩) htbl).trans hcell
            have hf4 := (hb4.frozen (p := ⟨w.heap.size, k, none⟩) htbl).trans hfr
            clear ho4 hb4 hg4 HFIN
            go_wp2_with fail
            go_roundw
            case rel => exact ⟨j + 1, by omega, by go_num, HF.out⟩
            case measure => simp [intOf]; omega
          · go_wp2_with (at_builtin; refine wpList_app eltB rfl (.tmp 35) (.tmp 43) rfl wo.heap.size _ _ _ rfl HO.out [.bool false] rfl (by intro u hu; simp at hu; subst hu; rfl) rfl rfl hj9.out hsj ?_)
            intro v' w4 ho4 hb4 hg4
            have HF := Lib.hid (HFIN.out v' w4 _ (decide_eq_false (fun h => by omega)).symm ho4 hb4)
            obtain ⟨ao4, b4, cap4, hv4, -, -, -, -⟩ := orow_cells ho4
            subst hv4
            have hc4 := (hb4.cell (p := ⟨w.heap.size, k, none⟩) htbl).trans hcell
            have hf4 := (hb4.frozen (p := ⟨w.heap.size, k, none⟩) htbl).trans hfr
            clear ho4 hb4 hg4 HFIN
            go_wp2_with fail
            go_roundw
            case rel => exact ⟨j + 1, by omega, by go_num, HF.out⟩
            case measure => simp [intOf]; omega
        · obtain rfl : j = n := by omega
          have hsl : fl.length = j := by rw [← HFL.out, smallR_len, HN.out]
          unfold bv at hown
          rw [List.take_of_length_le (by rw [hsl]; exact Nat.le_refl _)] at hown
          obtain ⟨ao4, b4, cap4, hv4, -, -, h34, -⟩ := orow_cells hown
          obtain ⟨rfl, -, -⟩ := h34 (by omega)
          subst hv4
          have ho2 : wr.ownsRow wo.heap.size 4 1 (.slice (some ⟨b4, 0, none⟩) j cap4) fl.length (fl.map Value.bool) := by rw [hsl]; exact hown
          obtain ⟨f, f1, f2, -, f4, f5, f6⟩ := own_rowB ho2
          rw [hsl] at f4
          have HNEW : Hid (SmO w T K h j (k + 1) wr) := by
            refine ⟨fun i => if i = k then b4 else g i, fun i => if i = k then cap4 else c i, HTJ.out.congr fun i hi => ?_, ⟨fun i hi => ?_, fun i1 i2 h1 h2 e => ?_⟩, HB.out.trans (below_grown' HG.out (Nat.le_refl _) hbl)⟩
            · unfold SmF
              by_cases e : i = k
              · subst e
                dsimp only
                rw [if_neg (by omega), if_pos rfl, if_pos (by omega), if_pos rfl, if_pos rfl]
              · by_cases e2 : i < k
                · dsimp only
                  rw [if_pos e2, if_pos (by omega), if_neg e, if_neg e]
                · rw [if_neg e2, if_neg e, if_neg (by omega)]
                  split <;> rfl
            · by_cases e : i = k
              · subst e
                dsimp only
                rw [if_pos rfl, if_pos rfl]
                exact ⟨by omega, f4, f5, f, f1, by rw [HFL.out]; exact f2⟩
              · dsimp only
                rw [if_neg e, if_neg e]
                exact (HRR.out.keep HG.out).1 i (by omega)
            · have hlow : ∀ i, i < k → g i < wo.heap.size := fun i hi => by
                obtain ⟨_, _, _, _, q, _⟩ := HRR.out.1 i hi
                exact q.lt
              by_cases e1 : i1 = k
              · by_cases e2 : i2 = k
                · rw [e1, e2]
                · simp only [if_pos e1, if_neg e2] at e
                  have := hlow i2 (by omega)
                  omega
              · by_cases e2 : i2 = k
                · simp only [if_neg e1, if_pos e2] at e
                  have := hlow i1 (by omega)
                  omega
                · simp only [if_neg e1, if_neg e2] at e
                  exact HRR.out.2 i1 i2 (by omega) (by omega) e
          clear htj hown hgr hsl h34 ho2 f1 f2 HTJ HO HG HRR HT HB
          go_wp2_with fail
          go_roundw
          case rel => exact ⟨k + 1, by omega, by go_num, HNEW.out⟩
          case measure => simp [intOf]; omega
    · obtain rfl : k = h := by omega
      have hml : (maskS T K).length = k := by rw [maskS_len]; exact HH.out
      have hmr : ∀ i, i < k → (maskS T K).getD i [] = smallR (T.getD i []) K := fun i hi => maskS_at (by rw [HH.out]; exact hi)
      have hmn : ∀ i, i < k → (smallR (T.getD i []) K).length = n := fun i hi => by rw [smallR_len]; exact (HROWS.out i hi).1
      have HM := Lib.hid (mt_of_rows (enc := Value.bool) (RT := 98) (ET := 4) (w := wr) (base := w.heap.size) (b := w.heap.size) (T := maskS T K) (g := g) (c := c) (Nat.le_refl _) (by rw [hml]; omega)
        (by rw [hml]; exact ht.congr fun i hi => by unfold SmF; rw [if_pos hi, hmr i hi, hmn i hi]) (fun i hi => by rw [hml] at hi; exact Nat.le_of_lt (hrr.1 i hi).1) (fun i j hi hj e => by rw [hml] at hi hj; exact hrr.2 i j hi hj e)
        (fun i hi => by
          rw [hml] at hi
          obtain ⟨_, q2, q3, f, q4, q5⟩ := hrr.1 i hi
          rw [hmr i hi, hmn i hi]
          exact ⟨q2, q3, f, q4, q5⟩))
      rw [hml] at HM
      clear ht hrr hb hml hmr hmn
      go_wp2_with fail
      go_ret2
      exact ⟨_, g, rfl, HM.out, HB.out⟩
end Go.Proofs.YtlmlchkolcmhpaaGreatDoor
end

section
/-
  Contract: a line of a script of kind 5.
-/
namespace Go.Proofs.YtlmlchkolcmhpaaGreatDoor
open Go.RowKit Go.Maps Go.WideShapes
open Go.TextMath (tvB mvB text word)
attribute [local go_sem] run_makeMap

set_option maxRecDepth 100000 in
set_option maxHeartbeats 4000000 in
theorem line5 : LineC 5 := by
  intro blk L sb scap ss w hsc hv hrow hl1 hl2 hsz _ _ hlib hkind
  obtain ⟨hk0, hkn⟩ := kind_5 hkind
  rw [wsL_len] at hkn
  rw [wsL_at ss (by omega)] at hk0
  have HX0 := Lib.hid (word_is hk0)
  have HK := Lib.hid hkind
  have HV := Lib.hid hv
  have HSC := Lib.hid hsc
  have HROW := Lib.hid hrow
  have HLIB := Lib.hid hlib
  have HSZ := Lib.hid hsz
  have HSN := Lib.hid hkn
  have h0 := hrow.2 0 (by omega)
  rw [HX0.out] at h0
  rw [Nat.zero_add] at h0
  have h40 := (ppl_t.1 hv).1
  obtain ⟨ao, b, cap, hbox, hppl, hc1, hc2, hne, hnn⟩ := hsc.ppl
  have HBOX := Lib.hid hbox
  have HPPL := Lib.hid hppl
  have HNE := Lib.hid hne
  have hblk := hbox.lt
  have hsb : sb < w.heap.size := World.block_lt_of_cell? _ _ h0
  rw [hkn] at hl1 ⊢
  have h0' : w.cell? ⟨sb, 0, none⟩ = some (.string ⟨#[115, 109, 97, 108, 108]⟩) := h0
  clear hk0 hkind hv hbox hppl hne hrow hlib hsz hkn h0
  go_enter Tryz.func19, Tryz.ntmps19
  have HM0 := Lib.hid (MapS.start w)
  go_wp2_with (refine ins_step w _ _ _ HM0.out rfl _ _ _ rfl rfl ⟨#[112, 101, 114, 115, 111, 110]⟩ rfl (by decide) 4 rfl (by decide) (by decide) ?_)
  intro W1 hm1
  have HM1 := Lib.hid hm1
  clear hm1 HM0
  go_wp2_with (refine ins_step w _ _ _ HM1.out rfl _ _ _ rfl rfl ⟨#[100, 114, 111, 112]⟩ rfl (by decide) 1 rfl (by decide) (by decide) ?_)
  intro W2 hm2
  have HM2 := Lib.hid hm2
  clear hm2 HM1
  go_wp2_with (refine ins_step w _ _ _ HM2.out rfl _ _ _ rfl rfl ⟨#[99, 111, 117, 110, 116]⟩ rfl (by decide) 3 rfl (by decide) (by decide) ?_)
  intro W3 hm3
  have HM3 := Lib.hid hm3
  clear hm3 HM2
  go_wp2_with (refine ins_step w _ _ _ HM3.out rfl _ _ _ rfl rfl ⟨#[116, 97, 98, 108, 101]⟩ rfl (by decide) 0 rfl (by decide) (by decide) ?_)
  intro W4 hm4
  have HM4 := Lib.hid hm4
  clear hm4 HM3
  go_wp2_with (refine ins_step w _ _ _ HM4.out rfl _ _ _ rfl rfl ⟨#[115, 109, 97, 108, 108]⟩ rfl (by decide) 1 rfl (by decide) (by decide) ?_)
  intro W5 hm5
  have HM5 := Lib.hid hm5
  clear hm5 HM4
  go_wp2_with (refine ins_step w _ _ _ HM5.out rfl _ _ _ rfl rfl ⟨#[103, 114, 111, 119]⟩ rfl (by decide) 2 rfl (by decide) (by decide) ?_)
  intro W6 hm6
  have HM6 := Lib.hid hm6
  clear hm6 HM5
  go_wp2_with (refine ins_step w _ _ _ HM6.out rfl _ _ _ rfl rfl ⟨#[114, 111, 117, 110, 100]⟩ rfl (by decide) 1 rfl (by decide) (by decide) ?_)
  intro W7 hm7
  have HM7 := Lib.hid hm7
  clear hm7 HM6
  go_wp2_with (refine ins_step w _ _ _ HM7.out rfl _ _ _ rfl rfl ⟨#[103, 114, 111, 117, 112, 115]⟩ rfl (by decide) 0 rfl (by decide) (by decide) ?_)
  intro W8 hm8
  have HM8 := Lib.hid hm8
  clear hm8 HM7
  have h08 := (HM8.out.2.cell (p := ⟨sb, 0, none⟩) hsb).trans h0'
  have HB8 := Lib.hid HM8.out.2
  go_wp2_with (at_lookup; refine look_step w _ HM8.out rfl _ _ rfl rfl ⟨#[115, 109, 97, 108, 108]⟩ rfl (by decide) 1 true (by decide) (by decide) ?_)
  all_goals try go_wp2_with fail
  go_loopw [9, 45] (fun v i wr => ∃ j : Nat, j ≤ 1 ∧ i = .int .i64 j ∧ Own wr w.heap.size v ((numsB ss).take j) ∧ Below w.heap.size w wr) (fun _ i _ => 1 - (intOf i).toNat)
  case atStart => exact ⟨0, Nat.zero_le _, rfl, by rw [List.take_zero]; exact Own.nil _ _, HB8.out⟩
  case round =>
    obtain ⟨j, hj, rfl, ho, hb⟩ := hrel
    have HO := Lib.hid ho
    have HB := Lib.hid hb
    have hsw := hb.size
    by_cases hjm : j < 1
    · have hcj : wr.cell? ⟨sb, 1 + j, none⟩ = some (.string (ss.getD (1 + j) ⟨#[]⟩)) := (hb.cell (p := ⟨sb, 1 + j, none⟩) hsb).trans (by have := HROW.out.2 (1 + j) (by rw [HSN.out]; omega); rwa [Nat.zero_add] at this)
      obtain ⟨x, hx⟩ : ∃ x, ss.getD (1 + j) ⟨#[]⟩ = x := ⟨_, rfl⟩
      rw [hx] at hcj
      have hxs : x.size ≤ 500 := by rw [← hx, List.getD_eq_getElem?_getD, List.getElem?_eq_getElem (by rw [HSN.out]; omega), Option.getD_some]; exact HSZ.out _ (List.getElem_mem _)
      have HTK := Lib.hid (nums_take (xs := numsB ss) (k := j) (by rw [numsB_len, HSN.out]; omega))
      rw [numsB_at ss (by rw [HSN.out]; omega), Nat.add_comm j 1, hx, Nat.add_comm 1 j] at HTK
      have HTL := Lib.hid (show ((numsB ss).take j).length = j by rw [List.length_take, numsB_len, HSN.out]; omega)
      have hji : (j : Int) < 1 := by omega
      obtain ⟨zs, hzs⟩ : ∃ zs, (numsB ss).take j = zs := ⟨_, rfl⟩
      rw [hzs] at HO HTK HTL
      clear ho hb hx hzs
      go_wp2_with fail
      refine (scrI x (by omega) wr).mono ?_
      rintro e w1 ⟨rfl, hb1⟩
      have HB1 := Lib.hid hb1
      have HO1 := Lib.hid (HO.out.below hb1)
      have hs1 := hb1.size
      have hj9 : Hid (zs.length ≤ 1000000000) := Lib.hid (by rw [HTL.out]; omega)
      clear hb1
      go_wp2_with (at_builtin; refine wpList_app eltI rfl (.tmp 49) (.tmp 52) rfl w.heap.size _ _ _ rfl HO1.out [.int .i64 (scrN x.data.toList)] rfl (by intro u hu; simp at hu; subst hu; rfl) rfl rfl hj9.out (by omega) ?_)
      intro v' w2 ho2 hb2 _
      have HO2 := Lib.hid (show Own w2 w.heap.size v' ((numsB ss).take (j + 1)) by
        rw [HTK.out]
        unfold Own
        rw [List.length_append, List.length_singleton, List.map_append, List.map_singleton]
        exact ho2)
      have HB2 := Lib.hid ((HB.out.trans (HB1.out.mono hsw)).trans hb2)
      clear ho2 hb2
      go_wp2_with fail
      go_roundw
      case rel => exact ⟨j + 1, by omega, by go_num, HO2.out, HB2.out⟩
      case measure => simp [intOf]; omega
    · obtain rfl : j = 1 := by omega
      rw [List.take_of_length_le (by have h := numsB_len ss; rw [HSN.out] at h; omega)] at ho
      obtain ⟨an, bn, cn, hvn, hn1, hn2, hnr, -⟩ := ho.row
      have hnl : (numsB ss).length = 1 := by rw [numsB_len, HSN.out]
      rw [hnl] at hvn hn1
      subst hvn
      have HNR := Lib.hid hnr
      have HNL := Lib.hid hnl
      have hbc := (boxed_bel HBOX.out hb hblk).cell
      have hp1 := HPPL.out.keep hb (Nat.le_refl _)
      clear ho hnr hnl HO
      go_wp2_with fail
      refine (tableOfI ao b 0 cap L wr hp1 HV.out).mono ?_
      rintro e w3 ⟨vt, gt, rfl, hmt, hb3⟩
      have HB3 := Lib.hid (HB.out.trans (hb3.mono hsw))
      have HNR3 := Lib.hid (HNR.out.keep hb3 (Nat.le_refl _))
      have HMT := Lib.hid (hmt.mono hsw)
      obtain ⟨at3, bt3, ct3, rfl, ht1, ht2, htab⟩ := hmt.tab
      have HTAB := Lib.hid htab
      have HTT := Lib.hid (tabO_tv HV.out)
      have hn40 : (numsB ss).length ≤ 4 := by rw [HNL.out]; decide
      have h03 := (HB3.out.cell (p := ⟨sb, 0, none⟩) hsb).trans h0'
      have hbc3 := (boxed_bel HBOX.out HB3.out hblk).cell
      have HSC3 := Lib.hid (HSC.out.keep HB3.out)
      have HLIB3 := Lib.hid (HLIB.out.keep HB3.out (Nat.le_refl _))
      have HPPL3 := Lib.hid (HPPL.out.keep HB3.out (Nat.le_refl _))
      have hs3 := HB3.out.size
      clear hb hb3 hmt htab hp1 hbc
      have htl := tabO_len L
      rw [htl] at ht1 ⊢
      have HLN := Lib.hid htl
      have hx0 := HNR3.out.2 0 (by rw [HNL.out]; decide)
      obtain rfl := HNR3.out.1 (by rw [HNL.out]; decide)
      rw [Nat.zero_add] at hx0
      obtain ⟨x, hx⟩ : ∃ x, (numsB ss).getD 0 0 = x := ⟨_, rfl⟩
      rw [hx] at hx0
      have HXE := Lib.hid hx
      clear hx htl
      go_wp2_with fail
      have hMS := maskSmallI at3 bt3 0 ct3 (tabO L) x w3 HTAB.out HTT.out
      rw [HLN.out] at hMS
      refine hMS.mono ?_
      rintro e w4 ⟨vm, gm, rfl, hmm, hb4⟩
      obtain ⟨am, bm, cm, rfl, hm1, hm2, hmt⟩ := hmm.tabB
      have hml : (maskS (tabO L) x).length = 4 := by rw [maskS_len, HLN.out]
      have HMTB := Lib.hid hmt
      have HML := Lib.hid hml
      have HB4 := Lib.hid (HB3.out.trans (hb4.mono hs3))
      have HTAB4 := Lib.hid (HTAB.out.keep hb4 (Nat.le_refl _))
      have HLIB4 := Lib.hid (HLIB3.out.keep hb4 (Nat.le_refl _))
      have HMV := Lib.hid (maskS_mv (T := tabO L) x HTT.out)
      have hs4 := HB4.out.size
      rw [hml] at hm1 ⊢
      clear hmm hmt hb4 hMS hml
      go_wp2_with fail
      have hTT := maskTextI at3 bt3 0 ct3 (tabO L) am bm 0 cm (maskS (tabO L) x) w4 HTAB4.out (by rw [HLN.out]; decide) HMTB.out ⟨by rw [HML.out]; exact hm1, hm2⟩ HLIB4.out.1.1
      rw [HLN.out, HML.out] at hTT
      refine hTT.mono ?_
      rintro e w5 ⟨rfl, hb5⟩
      have HB5 := Lib.hid (HB4.out.trans (hb5.mono hs4))
      clear hb5 hTT
      go_wp2_with fail
      go_ret2
      refine ⟨_, true, rfl, ?_, ?_, (Fr.refl _ _).below HB5.out⟩
      · rw [step_5 HK.out, numsB_eq, HXE.out, if_pos rfl, mt_t HMV.out]
      · rw [step_5 HK.out]
        exact HSC.out.keep HB5.out
end Go.Proofs.YtlmlchkolcmhpaaGreatDoor
end

section
/-
  A region that draws its order, inside a round of a range over a function: it is walked as anywhere.
-/
namespace Go.Proofs.YtlmlchkolcmhpaaGreatDoor
open Go

/-- Only the way on. -/
def only (K : Act → World → Prop) : Exit → Act → World → Prop
  | .normal, a, w => K a w
  | _, _, _ => False
theorem only_lets {K : Act → World → Prop} : ¬ LetsOut (only K) := fun ⟨_, _, h⟩ => h

theorem oper_round {o : Oper} {a : Act} {w : World} {P : Program} {n l0 : Nat} {K : Act → World → Prop} {Q : Act → World → Prop} (hnd : ∀ c, o.op ≠ .defer c) (h : o.wp P a w K (only Q)) : o.wpIn (Fence.wide.inRound l0) n P a w K (only Q) := by
  refine ⟨fun f _ => trivial, ?_⟩
  have e : o.semAt (Fence.wide.inRound l0).round a.eval = execOp a.eval o := Oper.semAt_some l0 _ _ hnd
  rw [e]
  unfold Oper.wp at h
  generalize (execOp a.eval o).run P w = r at h
  cases r with
  | ok x w' =>
    cases x <;> simp only [Oper.upon, Oper.uponIn] at h ⊢ <;> first
      | exact h
      | exact ⟨fun hd => (by cases hd), CallsIn.inRound l0 (callsIn_wide.2 h)⟩
      | skip
    rename_i row args
    refine ⟨fun hd => (by cases hd), fun c cs _ => ?_⟩
    obtain ⟨v, w'', h1, h2⟩ := h c cs
    exact ⟨v, w'', h1, stepsIn_wide.2 h2⟩
  | halt x w' => cases x <;> simp only [Oper.upon, Oper.uponIn] at h ⊢ <;> exact h

theorem any_round {ops : Array Oper} {P : Program} {md : Region.Mode} {n l0 : Nat} {Q : Act → World → Prop} (hnd : ∀ o ∈ ops, ∀ c, o.op ≠ .defer c) : ∀ (fuel : Nat) (listed : Array Bool) (a : Act) (w : World),
    wpAny P md ops (only Q) fuel listed a w → wpAnyIn (Fence.wide.inRound l0) n P md ops (only Q) fuel listed a w := by
  intro fuel
  induction fuel with
  | zero => intro listed a w h; exact h
  | succ fuel ih =>
    intro listed a w h
    refine ⟨h.1, fun i hi => ?_⟩
    have h2 := h.2 i hi
    unfold wpOp at h2
    unfold wpOpIn
    cases ho : ops[i]? with
    | none => rw [ho] at h2; exact ih _ _ _ h2
    | some o =>
      rw [ho] at h2
      simp only at h2 ⊢
      by_cases hw : Region.wanted o (yielded ops a.tmps) = true
      · rw [if_pos hw] at h2 ⊢
        rcases h2 with h2 | h2
        · exact Oper.wpIn_mono (fun a w => ih _ a w) (oper_round (hnd o (Array.mem_of_getElem? ho)) h2)
        · exact absurd h2.2 only_lets
      · rw [if_neg hw] at h2 ⊢
        exact ⟨fun f _ => trivial, ih _ _ _ h2⟩

def noDefer (ops : Array Oper) : Bool := ops.all fun o => match o.op with | .defer _ => false | _ => true
theorem noDefer_all {ops : Array Oper} (h : noDefer ops = true) : ∀ o ∈ ops, ∀ c, o.op ≠ .defer c := by
  intro o ho c e
  unfold noDefer at h
  rw [Array.all_eq_true'] at h
  have := h o ho
  rw [e] at this
  cases this

theorem region_round {id n l0 : Nat} {P : Program} {ops : Array Oper} {Q : Exit → Act → World → Prop} {a : Act} {w : World} (hm : P.follows .mixedOrders = true) (hnd : noDefer ops = true)
    (h : wpAny P .any ops (only (Q .normal)) ops.size (Array.replicate ops.size false) a { w with drawn := w.drawn + 1 }) : (Code.region id ops true).wpIn (Fence.wide.inRound l0) n P Q a w := by
  refine wpIn_mono (wpIn_region_any (Q := only (Q .normal)) hm (any_round (noDefer_all hnd) _ _ _ _ h)) fun e a w h => ?_
  cases e <;> first | exact h | exact h.elim

end Go.Proofs.YtlmlchkolcmhpaaGreatDoor
end

section
/-
  Small laws of loops over the places of a table: the rows' heads, what such a loop keeps, how a walk inside a fence ends.
-/
namespace Go.Proofs.YtlmlchkolcmhpaaGreatDoor
open Go.RowKit Go.Shelf
open Go.TextMath (tvB mvB text word)

theorem tab_headsT {w : World} {ao : Option Addr} {b off : Nat} {T : List (List Int)} (h : Tab .i64 w ao b off T) : Heads w ao b off (lensT T) := by
  refine ⟨fun h0 => h.1 (by rw [lensT_len] at h0; exact h0), fun i hi => ?_⟩
  rw [lensT_len] at hi
  obtain ⟨a', b', o', c', h1, h2, h3, h4⟩ := h.2 i hi
  rw [lensT_at T hi]
  exact ⟨⟨a', c', h1⟩, by omega⟩
theorem postF_ret {F : Fence} {n : Nat} {P : Program} {fn : Func} {R : Ending → World → Prop} {a : Act} {w : World} {v : Value} (h : (results fn a.tmps).run P w = .ok v w) (hd : a.defers = []) (hR : R (.returned v) w) : bodyPostM F n P fn R .ret a w := by
  show LeavesInM F n P fn a.tmps R a.defers .returning w
  rw [hd]
  exact ⟨v, h, hR⟩
/-- What a loop keeps that leaves block tb alone. -/
def KpT (tb : Nat) (A B : World) : Prop := B.heap[tb]? = A.heap[tb]?
theorem KpT.t {tb : Nat} {A B C : World} (h : KpT tb A B) (k : KpT tb B C) : KpT tb A C := Eq.trans k h
theorem KpT.b {tb : Nat} {w : World} (hn : tb < w.heap.size) (W : World) (l : Nat) (o o' : Obj) (hl : w.heap.size ≤ l) (_ : W.heap[l]? = some o) (_ : o.isCells = false) (_ : o.isWalk = false) : KpT tb W (W.putObj l o') :=
  World.putObj_heap_other (by omega)
theorem KpT.cell {tb : Nat} {A B : World} (h : KpT tb A B) (o : Nat) : B.cell? ⟨tb, o, none⟩ = A.cell? ⟨tb, o, none⟩ := World.cell?_of_block h
/-- Two tables of the same shape and the same cells. -/
theorem grid_ext {A B : List (List Int)} (hl : A.length = B.length) (hr : ∀ i, i < A.length → (A.getD i []).length = (B.getD i []).length) (hc : ∀ i, i < A.length → ∀ j, j < (A.getD i []).length → cellT A i j = cellT B i j) : A = B := by
  apply List.ext_getElem hl
  intro i h1 h2
  have e1 : A.getD i [] = A[i] := by simp [List.getD_eq_getElem?_getD, List.getElem?_eq_getElem h1]
  have e2 : B.getD i [] = B[i] := by simp [List.getD_eq_getElem?_getD, List.getElem?_eq_getElem h2]
  have hr' := hr i h1
  have hc' := hc i h1
  unfold cellT at hc'
  rw [e1, e2] at hr' hc'
  apply List.ext_getElem hr'
  intro j g1 g2
  have := hc' j g1
  rwa [List.getD_eq_getElem?_getD, List.getElem?_eq_getElem g1, List.getD_eq_getElem?_getD, List.getElem?_eq_getElem g2] at this
theorem pos_lens {T : List (List Int)} (h : tvB T = true) (x : Pos (lensT T)) : x.1.1 < T.length ∧ x.1.2 < (T.getD 0 []).length := by
  obtain ⟨⟨i, j⟩, h1, h2⟩ := x
  simp only at h1 h2 ⊢
  rw [lensT_len] at h1
  rw [lensT_at T h1, ((tv_t.1 h).2.2.2.2 i h1).1] at h2
  exact ⟨h1, h2⟩
theorem vals_in {T : List (List Int)} (h : tvB T = true) (pre : List (Pos (lensT T))) : ∀ x ∈ Pos.vals pre, x.1 < T.length ∧ x.2 < (T.getD 0 []).length := fun x hx => by
  obtain ⟨y, _, rfl⟩ := List.mem_map.1 hx
  exact pos_lens h y
end Go.Proofs.YtlmlchkolcmhpaaGreatDoor
end

section
/-
  Plain mathematics of hidden cells: searching places, walking back, the rooms of steps.
-/
namespace Go.FlowMath

theorem nodup_le : ∀ (N : Nat) (D : List Nat), D.Nodup → (∀ v ∈ D, v < N) → D.length ≤ N
  | 0, D, _, h => by
    cases D with
    | nil => exact Nat.le_refl _
    | cons a r => exact absurd (h a (by simp)) (Nat.not_lt_zero _)
  | N + 1, D, hd, h => by
    by_cases hm : N ∈ D
    · have h1 := nodup_le N (D.erase N) (hd.erase N) (fun v hv => by
        have h2 := (hd.mem_erase_iff).1 hv
        have := h v h2.2
        have := h2.1
        omega)
      rw [List.length_erase_of_mem hm] at h1
      omega
    · have := nodup_le N D hd (fun v hv => by
        have := h v hv
        have : v ≠ N := fun e => hm (e ▸ hv)
        omega)
      omega

theorem getD_setI {l : List Int} {i k : Nat} {x d : Int} (hi : i < l.length) : (l.set i x).getD k d = if k = i then x else l.getD k d := by
  simp only [List.getD_eq_getElem?_getD, List.getElem?_set]
  by_cases e : i = k
  · subst e; simp [hi]
  · have e2 : ¬ k = i := fun h => e h.symm
    simp [e, e2]

/-- A search under way: the places in the order in which they were reached, how many of them are done, from where each was reached. -/
structure Bfs (E : Nat → Nat → Prop) (N s : Nat) (D : List Nat) (k : Nat) (P : List Int) : Prop where
  len : P.length = N
  lt : ∀ v ∈ D, v < N
  nd : D.Nodup
  mem : s ∈ D
  start : P.getD s 0 = s
  off : ∀ v, v < N → v ∉ D → P.getD v 0 = -1
  on : ∀ v ∈ D, v ≠ s → ∃ p : Nat, P.getD v 0 = p ∧ p ∈ D ∧ D.idxOf p < D.idxOf v ∧ E p v
  closed : ∀ i, i < k → ∀ v, v < N → E (D.getD i 0) v → v ∈ D

theorem Bfs.first {E : Nat → Nat → Prop} {N s : Nat} (hs : s < N) : Bfs E N s [s] 0 ((List.replicate N (-1)).set s s) where
  len := by simp
  lt := fun v hv => by simp at hv; omega
  nd := by simp
  mem := by simp
  start := by rw [getD_setI (by simpa using hs), if_pos rfl]
  off := fun v hv hn => by
    simp at hn
    rw [getD_setI (by simpa using hs), if_neg hn]
    simp [List.getD_eq_getElem?_getD, hv]
  on := fun v hv hne => by simp at hv; exact absurd hv hne
  closed := fun i hi => absurd hi (Nat.not_lt_zero _)

theorem Bfs.neg {E : Nat → Nat → Prop} {N s : Nat} {D : List Nat} {k : Nat} {P : List Int} (h : Bfs E N s D k P) {v : Nat} (hv : v < N) : P.getD v 0 < 0 ↔ v ∉ D := by
  constructor
  · intro hn hm
    by_cases e : v = s
    · subst e; rw [h.start] at hn; omega
    · obtain ⟨p, hp, _⟩ := h.on v hm e
      omega
  · intro hm
    rw [h.off v hv hm]
    omega
theorem Bfs.le {E : Nat → Nat → Prop} {N s : Nat} {D : List Nat} {k : Nat} {P : List Int} (h : Bfs E N s D k P) : D.length ≤ N := nodup_le N D h.nd h.lt

theorem Bfs.add {E : Nat → Nat → Prop} {N s : Nat} {D : List Nat} {k : Nat} {P : List Int} (h : Bfs E N s D k P) (hk : k < D.length) {v : Nat} (hv : v < N) (hn : v ∉ D) (he : E (D.getD k 0) v) :
    Bfs E N s (D ++ [v]) k (P.set v (D.getD k 0 : Nat)) := by
  have hum : D.getD k 0 ∈ D := by rw [List.getD_eq_getElem?_getD, List.getElem?_eq_getElem hk, Option.getD_some]; exact List.getElem_mem hk
  have hvs : v ≠ s := fun e => hn (e ▸ h.mem)
  have hidx : ∀ p ∈ D, (D ++ [v]).idxOf p = D.idxOf p := fun p hp => by rw [List.idxOf_append, if_pos hp]
  have hlt : ∀ p ∈ D, D.idxOf p < D.length := fun p hp => List.idxOf_lt_length_of_mem hp
  refine ⟨by rw [List.length_set]; exact h.len, ?_, ?_, ?_, ?_, ?_, ?_, ?_⟩
  · intro a ha
    rcases List.mem_append.1 ha with ha | ha
    · exact h.lt a ha
    · simp at ha; omega
  · rw [List.nodup_append]
    exact ⟨h.nd, by simp, fun a ha b hb e => by simp at hb; subst hb; exact hn (e ▸ ha)⟩
  · exact List.mem_append_left _ h.mem
  · rw [getD_setI (by rw [h.len]; exact hv), if_neg (fun e => hvs e.symm), h.start]
  · intro a ha hna
    rw [List.mem_append, not_or] at hna
    rw [getD_setI (by rw [h.len]; exact hv), if_neg (by simpa using hna.2)]
    exact h.off a ha hna.1
  · intro a ha hne
    by_cases e : a = v
    · subst e
      refine ⟨D.getD k 0, by rw [getD_setI (by rw [h.len]; exact hv), if_pos rfl], List.mem_append_left _ hum, ?_, he⟩
      rw [hidx _ hum, List.idxOf_append, if_neg hn]
      have := hlt _ hum
      omega
    · have haD : a ∈ D := by
        rcases List.mem_append.1 ha with ha | ha
        · exact ha
        · simp at ha; exact absurd ha e
      obtain ⟨p, hp, hpm, hpi, hpe⟩ := h.on a haD hne
      exact ⟨p, by rw [getD_setI (by rw [h.len]; exact hv), if_neg e]; exact hp, List.mem_append_left _ hpm, by rw [hidx _ hpm, hidx _ haD]; exact hpi, hpe⟩
  · intro i hi a ha hea
    have : (D ++ [v]).getD i 0 = D.getD i 0 := by
      simp only [List.getD_eq_getElem?_getD]
      rw [List.getElem?_append_left (by omega)]
    rw [this] at hea
    exact List.mem_append_left _ (h.closed i hi a ha hea)
theorem Bfs.next {E : Nat → Nat → Prop} {N s : Nat} {D : List Nat} {k : Nat} {P : List Int} (h : Bfs E N s D k P) (hc : ∀ v, v < N → E (D.getD k 0) v → v ∈ D) : Bfs E N s D (k + 1) P :=
  ⟨h.len, h.lt, h.nd, h.mem, h.start, h.off, h.on, fun i hi v hv he => by
    by_cases e : i = k
    · subst e; exact hc v hv he
    · exact h.closed i (by omega) v hv he⟩
theorem Bfs.reach {E : Nat → Nat → Prop} {N s : Nat} {D : List Nat} {k : Nat} {P : List Int} (h : Bfs E N s D k P) (hk : D.length ≤ k) : Reach E N s D.idxOf P where
  len := h.len
  start := h.start
  none_ := fun v hv hn => h.off v hv ((h.neg hv).1 hn)
  from_ := fun v hv h0 hne => by
    have hm : v ∈ D := by
      by_cases hm : v ∈ D
      · exact hm
      · have := h.off v hv hm; omega
    obtain ⟨p, hp, hpm, hpi, hpe⟩ := h.on v hm hne
    refine ⟨p, hp, h.lt p hpm, ?_, hpi, hpe⟩
    by_cases hn : P.getD p 0 < 0
    · exact absurd hpm ((h.neg (h.lt p hpm)).1 hn)
    · omega
  closed := fun u v hu hv h0 he => by
    have hm : u ∈ D := by
      by_cases hm : u ∈ D
      · exact hm
      · have := h.off u hu hm; omega
    have hv' : v ∈ D := by
      refine h.closed (D.idxOf u) (by have := List.idxOf_lt_length_of_mem hm; omega) v hv ?_
      have : D.getD (D.idxOf u) 0 = u := by
        rw [List.getD_eq_getElem?_getD, List.getElem?_eq_getElem (List.idxOf_lt_length_of_mem hm), Option.getD_some]
        exact List.getElem_idxOf _
      rw [this]
      exact he
    by_cases hn : P.getD v 0 < 0
    · exact absurd hv' ((h.neg hv).1 hn)
    · omega
theorem Reach.congr {E E' : Nat → Nat → Prop} {N s : Nat} {rank : Nat → Nat} {P : List Int} (h : Reach E N s rank P) (he : ∀ u v, u < N → v < N → (E u v ↔ E' u v)) : Reach E' N s rank P where
  len := h.len
  start := h.start
  none_ := h.none_
  from_ := fun v hv h0 hne => by
    obtain ⟨p, h1, h2, h3, h4, h5⟩ := h.from_ v hv h0 hne
    exact ⟨p, h1, h2, h3, h4, (he p v h2 hv).1 h5⟩
  closed := fun u v hu hv h0 h1 => h.closed u v hu hv h0 ((he u v hu hv).2 h1)

/-- Walking back n times. -/
def back (P : List Int) (v : Nat) : Nat → Nat
  | 0 => v
  | n + 1 => (P.getD (back P v n) 0).toNat
theorem back_stays {P : List Int} {v s : Nat} (hs : P.getD s 0 = s) {n : Nat} (h : back P v n = s) : ∀ k, back P v (n + k) = s
  | 0 => h
  | k + 1 => by
    show (P.getD (back P v (n + k)) 0).toNat = s
    rw [back_stays hs h k, hs]
    simp
/-- Each place on the way back but the first one is reached from the next. -/
theorem back_step {E : Nat → Nat → Prop} {N s : Nat} {rank : Nat → Nat} {P : List Int} (h : Reach E N s rank P) {v : Nat} (hv : v < N) (h0 : 0 ≤ P.getD v 0) : ∀ n, back P v n < N ∧ 0 ≤ P.getD (back P v n) 0 ∧
    (back P v n ≠ s → P.getD (back P v n) 0 = (back P v (n + 1) : Nat) ∧ rank (back P v (n + 1)) < rank (back P v n) ∧ E (back P v (n + 1)) (back P v n)) := by
  intro n
  have key : back P v n < N ∧ 0 ≤ P.getD (back P v n) 0 := by
    induction n with
    | zero => exact ⟨hv, h0⟩
    | succ n ih =>
      by_cases e : back P v n = s
      · have : back P v (n + 1) = s := back_stays h.start e 1
        rw [this, h.start]
        rw [e] at ih
        exact ⟨ih.1, by omega⟩
      · obtain ⟨p, h1, h2, h3, h4, h5⟩ := h.from_ _ ih.1 ih.2 e
        have : back P v (n + 1) = p := by show (P.getD (back P v n) 0).toNat = p; rw [h1]; simp
        rw [this]
        exact ⟨h2, h3⟩
  refine ⟨key.1, key.2, fun e => ?_⟩
  obtain ⟨p, h1, h2, h3, h4, h5⟩ := h.from_ _ key.1 key.2 e
  have : back P v (n + 1) = p := by show (P.getD (back P v n) 0).toNat = p; rw [h1]; simp
  rw [this]
  exact ⟨h1, h4, h5⟩

section
variable (h w i j : Nat) (m : Nat → Nat → Bool) (t : Nat → Nat → Int)

/-- The rooms of all steps: R u v is by how much the step from u to v can go. -/
structure Rooms (raise : Bool) (x : Nat → Nat → Int) (R : Nat → Nat → Int) : Prop where
  down : ∀ k, k < h → ∀ l, l < w → ¬ (k = i ∧ l = j) → m k l = true → R k (h + l) = (if raise then x k l else 3168 + t k l - x k l) ∧ R (h + l) k = (if raise then 3168 + t k l - x k l else x k l)
  none_ : ∀ k, k < h → ∀ l, l < w → (k = i ∧ l = j) ∨ m k l = false → R k (h + l) = 0 ∧ R (h + l) k = 0
  rows : ∀ k, k < h → ∀ l, l < h → R k l = 0
  cols : ∀ k, k < w → ∀ l, l < w → R (h + k) (h + l) = 0

variable {h w i j m t}
theorem Legal.small {x : Nat → Nat → Int} (hx : Legal h w i j m t x) (hh : h ≤ 4) (hw : w ≤ 4) (hc : ∀ k, k < h → ∀ l, l < w → t k l ≤ 99) {k l : Nat} (hk : k < h) (hl : l < w) (hne : ¬ (k = i ∧ l = j)) : x k l ≤ 396 := by
  have h1 := rowS_le (t := t) hc hk
  have h2 := colS_le (t := t) hc hl
  rcases hx.le_other hk hl hne with h3 | h3 <;> omega
theorem Rooms.edge {raise : Bool} {x R : Nat → Nat → Int} (hR : Rooms h w i j m t raise x R) (hx : Legal h w i j m t x) (hh : h ≤ 4) (hw : w ≤ 4) (h0 : ∀ k, k < h → ∀ l, l < w → 0 ≤ t k l) (hc : ∀ k, k < h → ∀ l, l < w → t k l ≤ 99)
    {u v : Nat} (hu : u < h + w) (hv : v < h + w) : 0 < R u v ↔ Edge h w i j m raise x u v := by
  have key : ∀ k, k < h → ∀ l, l < w → (0 < R k (h + l) ↔ (¬ (k = i ∧ l = j) ∧ m k l = true ∧ (raise = true → 0 < x k l))) ∧ (0 < R (h + l) k ↔ (¬ (k = i ∧ l = j) ∧ m k l = true ∧ (raise = false → 0 < x k l))) := by
    intro k hk l hl
    by_cases e : k = i ∧ l = j
    · have := hR.none_ k hk l hl (.inl e)
      rw [this.1, this.2]
      simp [e]
    · cases hm : m k l with
      | false =>
        have := hR.none_ k hk l hl (.inr hm)
        rw [this.1, this.2]
        simp
      | true =>
        have h1 := hR.down k hk l hl e hm
        have h2 := hx.small hh hw hc hk hl e
        have h3 := h0 k hk l hl
        rw [h1.1, h1.2]
        cases raise
        · simp [e]
          omega
        · simp [e]
          omega
  by_cases hu1 : u < h <;> by_cases hv1 : v < h
  · rw [hR.rows u hu1 v hv1]
    constructor
    · intro h; omega
    · rintro (h | h) <;> omega
  · obtain ⟨l, rfl⟩ : ∃ l, v = h + l := ⟨v - h, by omega⟩
    rw [(key u hu1 l (by omega)).1]
    unfold Edge
    rw [Nat.add_sub_cancel_left]
    constructor
    · rintro ⟨a, b, c⟩
      exact .inl ⟨hu1, by omega, by omega, fun e => a ⟨e.1, by omega⟩, b, c⟩
    · rintro (⟨_, _, _, a, b, c⟩ | h)
      · exact ⟨fun e => a ⟨e.1, by omega⟩, b, c⟩
      · omega
  · obtain ⟨l, rfl⟩ : ∃ l, u = h + l := ⟨u - h, by omega⟩
    rw [(key v hv1 l (by omega)).2]
    unfold Edge
    rw [Nat.add_sub_cancel_left]
    constructor
    · rintro ⟨a, b, c⟩
      exact .inr ⟨by omega, by omega, hv1, fun e => a ⟨e.1, by omega⟩, b, c⟩
    · rintro (h | ⟨_, _, _, a, b, c⟩)
      · omega
      · exact ⟨fun e => a ⟨e.1, by omega⟩, b, c⟩
  · obtain ⟨k, rfl⟩ : ∃ l, u = h + l := ⟨u - h, by omega⟩
    obtain ⟨l, rfl⟩ : ∃ l, v = h + l := ⟨v - h, by omega⟩
    rw [hR.cols k (by omega) l (by omega)]
    constructor
    · intro h; omega
    · rintro (h | h) <;> omega

/-- What a step leaves of the rooms. -/
theorem Rooms.step {raise : Bool} {x R R' : Nat → Nat → Int} {p v : Nat} {d : Int} (hR : Rooms h w i j m t raise x R)
    (hp : p < h + w) (hv : v < h + w) (hpv : (p < h ∧ h ≤ v ∧ ¬ (p = i ∧ v = h + j) ∧ m p (v - h) = true) ∨ (h ≤ p ∧ v < h ∧ ¬ (v = i ∧ p = h + j) ∧ m v (p - h) = true))
    (hR' : ∀ a b, R' a b = if a = p ∧ b = v then R p v - d else if a = v ∧ b = p then R v p + d else R a b) :
    Rooms h w i j m t raise (if p < h then upd x p (v - h) (-(sg raise * d)) else upd x v (p - h) (sg raise * d)) R' := by
  rcases hpv with ⟨h1, h2, h3, h4⟩ | ⟨h1, h2, h3, h4⟩
  · obtain ⟨l0, rfl⟩ : ∃ l, v = h + l := ⟨v - h, by omega⟩
    rw [Nat.add_sub_cancel_left] at h4 ⊢
    rw [if_pos h1]
    refine ⟨fun k hk l hl hne hm => ?_, fun k hk l hl hne => ?_, fun k hk l hl => ?_, fun k hk l hl => ?_⟩
    · have := hR.down k hk l hl hne hm
      rw [hR', hR', if_neg (show ¬ (h + l = p ∧ k = h + l0) by omega)]
      by_cases e : k = p ∧ l = l0
      · obtain ⟨rfl, rfl⟩ := e
        rw [if_pos (show k = k ∧ h + l = h + l from ⟨rfl, rfl⟩), if_pos (show h + l = h + l ∧ k = k from ⟨rfl, rfl⟩), upd_same, this.1, this.2]
        cases raise <;> simp [sg] <;> omega
      · rw [upd_other e, if_neg (show ¬ (k = p ∧ h + l = h + l0) by omega), if_neg (show ¬ (k = h + l0 ∧ h + l = p) by omega), if_neg (show ¬ (h + l = h + l0 ∧ k = p) by omega)]
        exact this
    · have := hR.none_ k hk l hl hne
      have hn : ¬ (k = p ∧ l = l0) := by
        rintro ⟨rfl, rfl⟩
        rcases hne with hne | hne
        · exact h3 ⟨hne.1, by omega⟩
        · rw [h4] at hne; cases hne
      rw [hR', hR', if_neg (show ¬ (k = p ∧ h + l = h + l0) by omega), if_neg (show ¬ (k = h + l0 ∧ h + l = p) by omega), if_neg (show ¬ (h + l = p ∧ k = h + l0) by omega), if_neg (show ¬ (h + l = h + l0 ∧ k = p) by omega)]
      exact this
    · rw [hR', if_neg (by omega), if_neg (by omega)]; exact hR.rows k hk l hl
    · rw [hR', if_neg (by omega), if_neg (by omega)]; exact hR.cols k hk l hl
  · obtain ⟨l0, rfl⟩ : ∃ l, p = h + l := ⟨p - h, by omega⟩
    rw [Nat.add_sub_cancel_left] at h4 ⊢
    rw [if_neg (show ¬ h + l0 < h by omega)]
    refine ⟨fun k hk l hl hne hm => ?_, fun k hk l hl hne => ?_, fun k hk l hl => ?_, fun k hk l hl => ?_⟩
    · have := hR.down k hk l hl hne hm
      rw [hR', hR', if_neg (show ¬ (k = h + l0 ∧ h + l = v) by omega)]
      by_cases e : k = v ∧ l = l0
      · obtain ⟨rfl, rfl⟩ := e
        rw [if_pos (show k = k ∧ h + l = h + l from ⟨rfl, rfl⟩), if_pos (show h + l = h + l ∧ k = k from ⟨rfl, rfl⟩), upd_same, this.1, this.2]
        cases raise <;> simp [sg] <;> omega
      · rw [upd_other e, if_neg (show ¬ (k = v ∧ h + l = h + l0) by omega), if_neg (show ¬ (h + l = h + l0 ∧ k = v) by omega), if_neg (show ¬ (h + l = v ∧ k = h + l0) by omega)]
        exact this
    · have := hR.none_ k hk l hl hne
      have hn : ¬ (k = v ∧ l = l0) := by
        rintro ⟨rfl, rfl⟩
        rcases hne with hne | hne
        · exact h3 ⟨hne.1, by omega⟩
        · rw [h4] at hne; cases hne
      rw [hR', hR', if_neg (show ¬ (k = h + l0 ∧ h + l = v) by omega), if_neg (show ¬ (k = v ∧ h + l = h + l0) by omega), if_neg (show ¬ (h + l = h + l0 ∧ k = v) by omega), if_neg (show ¬ (h + l = v ∧ k = h + l0) by omega)]
      exact this
    · rw [hR', if_neg (by omega), if_neg (by omega)]; exact hR.rows k hk l hl
    · rw [hR', if_neg (by omega), if_neg (by omega)]; exact hR.cols k hk l hl

/-- At the beginning. -/
theorem Rooms.begin {raise : Bool} {R : Nat → Nat → Int}
    (hd : ∀ k, k < h → ∀ l, l < w → ¬ (k = i ∧ l = j) → m k l = true → R k (h + l) = (if raise then t k l else 3168) ∧ R (h + l) k = (if raise then 3168 else t k l))
    (hn : ∀ k, k < h → ∀ l, l < w → (k = i ∧ l = j) ∨ m k l = false → R k (h + l) = 0 ∧ R (h + l) k = 0)
    (hr : ∀ k, k < h → ∀ l, l < h → R k l = 0) (hc : ∀ k, k < w → ∀ l, l < w → R (h + k) (h + l) = 0) : Rooms h w i j m t raise t R :=
  ⟨fun k hk l hl hne hm => by
    have := hd k hk l hl hne hm
    rw [this.1, this.2]
    cases raise <;> simp <;> omega, hn, hr, hc⟩

/-- Half-way: the table's changes and the rooms. -/
structure HalfR (raise : Bool) (d : Int) (x0 : Nat → Nat → Int) (rank : Nat → Nat) (at_ : Nat) (R : Nat → Nat → Int) : Prop where
  ex : ∃ x, Half (h := h) (w := w) (i := i) (j := j) (m := m) (t := t) raise d x0 rank at_ x ∧ Rooms h w i j m t raise x R
theorem HalfR.start {raise : Bool} {d : Int} {x0 R : Nat → Nat → Int} {rank : Nat → Nat} (hx : Legal h w i j m t x0) (hi : i < h) (hj : j < w) (hm : m i j = true) (hR : Rooms h w i j m t raise x0 R) :
    HalfR (h := h) (w := w) (i := i) (j := j) (m := m) (t := t) raise d x0 rank (h + j) R :=
  ⟨_, Half.start hx hi hj hm, ⟨fun k hk l hl hne hm => by rw [upd_other hne]; exact hR.down k hk l hl hne hm, hR.none_, hR.rows, hR.cols⟩⟩
theorem HalfR.step {raise : Bool} {d : Int} {x0 R0 R R' : Nat → Nat → Int} {rank : Nat → Nat} {p v : Nat} (hx : HalfR (h := h) (w := w) (i := i) (j := j) (m := m) (t := t) raise d x0 rank v R) (h0 : Rooms h w i j m t raise x0 R0) (hd : 0 ≤ d)
    (hr : rank p < rank v) (he : Edge h w i j m raise x0 p v) (hroom : d ≤ R0 p v) (hR' : ∀ a b, R' a b = if a = p ∧ b = v then R p v - d else if a = v ∧ b = p then R v p + d else R a b) :
    HalfR (h := h) (w := w) (i := i) (j := j) (m := m) (t := t) raise d x0 rank p R' := by
  obtain ⟨x, hh, hrm⟩ := hx.ex
  have hrm' : (p < h → raise = true → d ≤ x0 p (v - h)) ∧ (h ≤ p → raise = false → d ≤ x0 v (p - h)) := by
    rcases he with ⟨h1, h2, h3, h4, h5, h6⟩ | ⟨h1, h2, h3, h4, h5, h6⟩
    · refine ⟨fun _ hra => ?_, fun h => by omega⟩
      obtain ⟨l, rfl⟩ : ∃ l, v = h + l := ⟨v - h, by omega⟩
      rw [Nat.add_sub_cancel_left] at h5 ⊢
      have := (h0.down p h1 l (by omega) (fun e => h4 ⟨e.1, by omega⟩) h5).1
      rw [hra, if_pos rfl] at this
      omega
    · refine ⟨fun h => by omega, fun _ hra => ?_⟩
      obtain ⟨l, rfl⟩ : ∃ l, p = h + l := ⟨p - h, by omega⟩
      rw [Nat.add_sub_cancel_left] at h5 ⊢
      have := (h0.down v h3 l (by omega) (fun e => h4 ⟨e.1, by omega⟩) h5).2
      rw [hra, if_neg (by decide)] at this
      omega
  have hpv : (p < h ∧ h ≤ v ∧ ¬ (p = i ∧ v = h + j) ∧ m p (v - h) = true) ∨ (h ≤ p ∧ v < h ∧ ¬ (v = i ∧ p = h + j) ∧ m v (p - h) = true) := by
    rcases he with ⟨h1, h2, h3, h4, h5, h6⟩ | ⟨h1, h2, h3, h4, h5, h6⟩
    · exact .inl ⟨h1, h2, h4, h5⟩
    · exact .inr ⟨h1, h3, h4, h5⟩
  have hb : p < h + w ∧ v < h + w := by
    rcases he with ⟨h1, h2, h3, h4, h5, h6⟩ | ⟨h1, h2, h3, h4, h5, h6⟩ <;> omega
  have hs := hrm.step hb.1 hb.2 hpv hR'
  rcases hh.step hd hr he hrm' with ⟨h1, _, _, h4⟩ | ⟨h1, _, _, h4⟩
  · rw [if_pos h1] at hs; exact ⟨_, h4, hs⟩
  · rw [if_neg (by omega)] at hs; exact ⟨_, h4, hs⟩
theorem HalfR.done {raise : Bool} {d : Int} {x0 R : Nat → Nat → Int} {rank : Nat → Nat} (hx : HalfR (h := h) (w := w) (i := i) (j := j) (m := m) (t := t) raise d x0 rank i R) (hi : i < h) :
    ∃ x, Legal h w i j m t x ∧ x i j = x0 i j + sg raise * d ∧ Rooms h w i j m t raise x R := by
  obtain ⟨x, hh, hrm⟩ := hx.ex
  obtain ⟨h1, h2⟩ := hh.done hi
  exact ⟨x, h1, h2, hrm⟩
/-- All rooms are numbers between -(a little) and a lot. -/
theorem HalfR.small {raise : Bool} {d : Int} {x0 R : Nat → Nat → Int} {rank : Nat → Nat} {at_ : Nat} (hx : HalfR (h := h) (w := w) (i := i) (j := j) (m := m) (t := t) raise d x0 rank at_ R) (hh : h ≤ 4) (hw : w ≤ 4) (h0 : ∀ k, k < h → ∀ l, l < w → 0 ≤ t k l) (hc : ∀ k, k < h → ∀ l, l < w → t k l ≤ 99) (hd : 0 ≤ d ∧ d ≤ 3168)
    {u v : Nat} (hu : u < h + w) (hv : v < h + w) : -10000 ≤ R u v ∧ R u v ≤ 10000 := by
  obtain ⟨x, hh', hrm⟩ := hx.ex
  have key : ∀ k, k < h → ∀ l, l < w → (-10000 ≤ R k (h + l) ∧ R k (h + l) ≤ 10000) ∧ (-10000 ≤ R (h + l) k ∧ R (h + l) k ≤ 10000) := by
    intro k hk l hl
    by_cases e : k = i ∧ l = j
    · have := hrm.none_ k hk l hl (.inl e)
      rw [this.1, this.2]
      omega
    · cases hm : m k l with
      | false =>
        have := hrm.none_ k hk l hl (.inr hm)
        rw [this.1, this.2]
        omega
      | true =>
        have h1 := hrm.down k hk l hl e hm
        have h2 : 0 ≤ x k l := hh'.nn k hk l hl e
        have h3 := h0 k hk l hl
        have h4 := hc k hk l hl
        have h5 : x k l ≤ 396 + 2 * 3168 := by
          have r1 := rowS_le (t := t) hc hk
          have r2 := colS_le (t := t) hc hl
          have hsg : sg raise * d ≤ 3168 ∧ -3168 ≤ sg raise * d := by cases raise <;> simp [sg] <;> omega
          by_cases ek : k = i
          · have c1 := hh'.col l hl
            have c2 : x k l ≤ colS h x l := sumI_ge (f := fun k => x k l) hk fun k' hk' _ => hh'.nn k' hk' l hl fun e' => e ⟨ek, e'.2⟩
            split at c1 <;> omega
          · have c1 := hh'.row k hk
            have c2 : x k l ≤ rowS w x k := sumI_ge (f := fun l => x k l) hl fun l' hl' _ => hh'.nn k hk l' hl' fun e' => ek e'.1
            split at c1 <;> split at c1 <;> omega
        rw [h1.1, h1.2]
        cases raise <;> simp <;> omega
  by_cases hu1 : u < h <;> by_cases hv1 : v < h
  · rw [hrm.rows u hu1 v hv1]; omega
  · obtain ⟨l, rfl⟩ : ∃ l, v = h + l := ⟨v - h, by omega⟩
    exact (key u hu1 l (by omega)).1
  · obtain ⟨l, rfl⟩ : ∃ l, u = h + l := ⟨u - h, by omega⟩
    exact (key v hv1 l (by omega)).2
  · obtain ⟨k, rfl⟩ : ∃ l, u = h + l := ⟨u - h, by omega⟩
    obtain ⟨l, rfl⟩ : ∃ l, v = h + l := ⟨v - h, by omega⟩
    rw [hrm.cols k (by omega) l (by omega)]; omega
end
end Go.FlowMath
end

section
/-
  Contract: slices.Repeat of a slice that holds -1 alone.
-/
namespace Go.Proofs.YtlmlchkolcmhpaaGreatDoor
open Go.RowKit

def repF (n i : Nat) : Value := if i < n then .int .i64 (-1) else .int .i64 0
theorem rowIs_sets {b n : Nat} {t : TypeId} (vs : List Value) : ∀ {W : World} {f : Nat → Value} (o : Nat), W.rowIs b t n f → (W.setCells b o vs).rowIs b t n (fun i => if o ≤ i ∧ i < o + vs.length then vs.getD (i - o) undef else f i) := by
  induction vs with
  | nil => intro W f o h; exact h.congr fun i _ => by rw [if_neg (by rintro ⟨h1, h2⟩; rw [List.length_nil] at h2; omega)]
  | cons v r ih =>
    intro W f o h
    refine (ih (o + 1) (h.set o v)).congr fun i _ => ?_
    rw [List.length_cons]
    by_cases h1 : i = o
    · subst h1
      rw [if_neg (by omega), if_pos (by omega), Nat.sub_self]
      simp
    · by_cases h2 : o ≤ i ∧ i < o + (r.length + 1)
      · rw [if_pos (by omega), if_pos h2, show i - o = (i - (o + 1)) + 1 by omega, List.getD_cons_succ]
      · rw [if_neg (by omega), if_neg h2, if_neg h1]
theorem own_of_row {W : World} {b n base : Nat} {f : Nat → Value} {xs : List Int} (h : W.rowIs b 3 n f) (hb : base ≤ b) (hn : n ≤ 1000000) (hx : xs.length = n) (hf : ∀ i, i < n → f i = .int .i64 (xs.getD i 0)) : Own W base (.slice (some ⟨b, 0, none⟩) n n) xs := by
  obtain ⟨cur, hh, hs, hc⟩ := h
  subst hx
  refine ⟨by simp, .inr ⟨b, xs.length, cur, rfl, hb, hh, Nat.le_refl _, by unfold maxLen; omega, by rw [hs, Nat.mul_one], ?_⟩⟩
  apply List.ext_getElem
  · simp [hs]
  · intro i h1 h2
    have hi : i < xs.length := by simpa using h2
    have h3 := hc i hi
    rw [hf i hi] at h3
    simp only [List.getElem_take, Array.getElem_toList, List.getElem_map]
    rw [Array.getElem?_eq_getElem (by omega)] at h3
    rw [Option.some.inj h3, List.getD_eq_getElem?_getD, List.getElem?_eq_getElem hi, Option.getD_some]
theorem below_cells {b B : Nat} (hB : B ≤ b) (vs : List Value) : ∀ (w w0 : World) (o : Nat), Below B w0 w → Below B w0 (w.setCells b o vs) := by
  induction vs with
  | nil => intro w w0 o h; exact h
  | cons v r ih => intro w w0 o h; exact ih _ _ _ (h.setCell (p := ⟨b, o, none⟩) hB _)
theorem repF_copy (n m : Nat) (i : Nat) : (if n ≤ i ∧ i < n + (List.replicate m (Value.int .i64 (-1))).length then (List.replicate m (Value.int .i64 (-1))).getD (i - n) undef else repF n i) = repF (n + m) i := by
  rw [List.length_replicate]
  unfold repF
  by_cases h : n ≤ i ∧ i < n + m
  · rw [if_pos h, if_pos h.2]
    simp [List.getD_eq_getElem?_getD, List.getElem?_replicate, show i - n < m by omega]
  · rw [if_neg h]
    by_cases h2 : i < n
    · rw [if_pos h2, if_pos (by omega)]
    · rw [if_neg h2, if_neg (by omega)]

set_option maxRecDepth 100000 in
set_option maxHeartbeats 2000000 in
theorem repI (b N : Nat) (w : World) (hc : w.cell? ⟨b, 0, none⟩ = some (.int .i64 (-1))) (h1 : 1 ≤ N) (hN : N ≤ 100) :
    Calls Tryz.prog 190 #[.slice (some ⟨b, 0, none⟩) 1 1, .int .i64 (N : Int)] w fun e w' => ∃ v, e = .returned v ∧ Own w' w.heap.size v (List.replicate N (-1)) ∧ Below w.heap.size w w' := by
  have hmk : ∀ W : World, (Instr.makeSlice 53 (.int .i64 (N : Int)) (.int .i64 (N : Int))).run Tryz.prog W = .ok (.slice (some ⟨W.heap.size, 0, none⟩) N N) (W.alloc (.cells (madeCells #[.int .i64 0] N) 3)) :=
    fun W => run_make_row' 53 3 _ 8 Tryz.underlying53 Tryz.info3 rfl .i64 .i64 N (by omega) (by omega) W
  have HBM := Lib.hid (fun W : World => Tryz.bits_Mul 1 N (by omega) (by omega) W)
  have e0 : 1 * N / 18446744073709551616 = 0 := by omega
  have e1 : 1 * N % 18446744073709551616 = N := by omega
  rw [e0, e1] at HBM
  have hk1 : IntKind.u64.wrap (N : Int) = (N : Int) := by unfold IntKind.wrap; simp [IntKind.bits, IntKind.signed]; omega
  have hk2 : IntKind.i64.wrap (N : Int) = (N : Int) := IntWalk.i64_in _ ⟨by omega, by omega⟩
  have HC := Lib.hid hc
  have hbl : b < w.heap.size := World.block_lt_of_cell? _ _ hc
  clear e0 e1 hc
  go_enter Tryz.func190, Tryz.ntmps190
  go_wp2_with fail
  refine (HBM.out w).mono ?_
  rintro e w1 ⟨rfl, rfl⟩
  have hr0 := World.rowIs_made w1 (.int .i64 0) N 3
  have hcp0 : ∀ ty, (Builtin.copy_ #[53, 53] ty #[.slice (some ⟨w1.heap.size, 0, none⟩) N N, .slice (some ⟨b, 0, none⟩) 1 1]).run Tryz.prog (w1.alloc (.cells (madeCells #[.int .i64 0] N) 3)) = .ok (.int .i64 1) ((w1.alloc (.cells (madeCells #[.int .i64 0] N) 3)).setCells w1.heap.size 0 [.int .i64 (-1)]) := fun ty =>
    run_copy_cells _ _ _ ty 3 w1.heap.size 0 N N ⟨b, 0, none⟩ 1 1 [.int .i64 (-1)] Tryz.underlying53 (by kernel_rfl) (by show 1 = min 1 N; omega) (fun j v hj => by
      match j, hj with
      | 0, hj =>
        simp at hj
        subst hj
        rw [Addr.add_lit]
        exact (((Below.refl w1.heap.size w1).alloc (Nat.le_refl _) (.cells (madeCells #[.int .i64 0] N) 3)).cell (p := ⟨b, 0, none⟩) hbl).trans HC.out) (fun j hj => by
      have : j < N := by simp at hj; omega
      rw [Nat.zero_add, hr0.cell this]; rfl) (fun j hj => by rw [Nat.zero_add]; exact hr0.frozen j) (by intro v hv; simp at hv; subst hv; rfl)
  have hr1 := rowIs_sets [.int .i64 (-1)] 0 hr0
  have hb1 := below_cells (Nat.le_refl w1.heap.size) [.int .i64 (-1)] _ w1 0 ((Below.refl w1.heap.size w1).alloc (Nat.le_refl _) (.cells (madeCells #[.int .i64 0] N) 3))
  have HR1 : Hid (((w1.alloc (.cells (madeCells #[.int .i64 0] N) 3)).setCells w1.heap.size 0 [.int .i64 (-1)]).rowIs w1.heap.size 3 N (repF 1)) := Lib.hid (hr1.congr fun i _ => by
    unfold repF
    by_cases h : i < 1
    · obtain rfl : i = 0 := by omega
      simp
    · rw [if_neg h, if_neg (by simp; omega)])
  have HB1 := Lib.hid hb1
  obtain ⟨B0, hB0⟩ : ∃ B0, w1.heap.size = B0 := ⟨_, rfl⟩
  obtain ⟨V1, hV1⟩ : ∃ V1, (w1.alloc (.cells (madeCells #[.int .i64 0] N) 3)).setCells w1.heap.size 0 [.int .i64 (-1)] = V1 := ⟨_, rfl⟩
  rw [hV1] at hcp0 HR1 HB1
  rw [hB0] at HR1 HB1 hcp0
  have HS := Lib.hid hB0
  clear hr0 hr1 hb1 hV1 hbl HC
  go_wp2_with fail
  clear hcp0 hmk hB0
  go_loopw [8] (fun i wr => ∃ n : Nat, 1 ≤ n ∧ n ≤ N ∧ i = .int .i64 n ∧ wr.rowIs B0 3 N (repF n) ∧ Below B0 w1 wr) (fun i _ => N - (intOf i).toNat)
  case atStart => exact ⟨1, Nat.le_refl _, h1, rfl, HR1.out, HB1.out⟩
  case round =>
    clear HR1 HB1
    obtain ⟨n, hn1, hnN, rfl, hr, hb⟩ := hrel
    by_cases hlt : n < N
    · have hni : (n : Int) < (N : Int) := by omega
      have hnn : ¬ N = n := by omega
      have hnl : n ≤ N := by omega
      have hnli : (n : Int) ≤ (N : Int) := by omega
      obtain ⟨m, hm⟩ : ∃ m, min n (N - n) = m := ⟨_, rfl⟩
      have hm1 : 1 ≤ m := by omega
      have hmn : n + m ≤ N := by omega
      have hcp : ∀ ty, (Builtin.copy_ #[53, 53] ty #[.slice (some ⟨B0, n, none⟩) (N - n) (N - n), .slice (some ⟨B0, 0, none⟩) n N]).run Tryz.prog wr.drew = .ok (.int .i64 (m : Int)) (wr.drew.setCells B0 n (List.replicate m (.int .i64 (-1)))) := fun ty => by
        have := run_copy_cells (P := Tryz.prog) wr.drew 53 53 ty 3 B0 n (N - n) (N - n) ⟨B0, 0, none⟩ n N (List.replicate m (.int .i64 (-1))) Tryz.underlying53 (by kernel_rfl) (by rw [List.length_replicate]; exact hm.symm) (fun j v hj => by
          rw [List.getElem?_replicate] at hj
          split at hj
          · cases hj
            rw [Addr.add_lit, Nat.zero_add]
            have h2 := hr.cell (i := j) (by omega)
            unfold repF at h2
            rw [if_pos (by omega)] at h2
            exact h2
          · cases hj) (fun j hj => by
          rw [List.length_replicate] at hj
          show (wr.cell? _).isSome = true
          rw [hr.cell (by omega)]; rfl) (fun j _ => hr.frozen _) (by intro v hv; rw [List.eq_of_mem_replicate hv]; rfl)
        rw [List.length_replicate] at this
        exact this
      have HR := Lib.hid (show (wr.drew.setCells B0 n (List.replicate m (.int .i64 (-1)))).rowIs B0 3 N (repF (n + m)) from (rowIs_sets _ n (show wr.drew.rowIs B0 3 N (repF n) from hr)).congr fun i _ => repF_copy n m i)
      have HB := Lib.hid (below_cells (Nat.le_refl B0) (List.replicate m (.int .i64 (-1))) wr.drew w1 n hb.drew)
      have hwr : IntKind.i64.wrap ((n : Int) + (m : Int)) = ((n + m : Nat) : Int) := by rw [IntWalk.i64_in _ ⟨by omega, by omega⟩]; rfl
      obtain ⟨q, hq⟩ : ∃ q, n + m = q := ⟨_, rfl⟩
      rw [hq] at hwr HR hmn
      have hq1 : n < q := by omega
      clear hr hb hm hq
      go_wp2_with fail
      refine wp_region_held (S := (fun _ => True)) (by kernel_rfl) ?_
      change wpAnyH _ _ _ _ _ _ _ _ wr.drew
      refine wpAnyH_take (i := 0) (v := .int .i64 (n : Int)) rfl (by kernel_rfl) (by kernel_rfl) (by kernel_rfl) (fun _ _ _ h => h) (Or.inl ⟨by kernel_rfl, fun V hV => ?_⟩) trivial ?_
      · clear hV
        go_simp
      simp only [Act.put, List.setIfInBounds_toArray, List.set_cons_zero, List.set_cons_succ]
      refine wpAnyH_take (i := 1) (v := .slice (some ⟨B0, 0, none⟩) N N) rfl (by kernel_rfl) (by kernel_rfl) (by kernel_rfl) (fun _ _ _ h => h) (Or.inl ⟨by kernel_rfl, fun V hV => ?_⟩) trivial ?_
      · clear hV
        go_simp
      simp only [Act.put, List.setIfInBounds_toArray, List.set_cons_zero, List.set_cons_succ]
      refine wpAnyH_take (i := 2) (v := .int .i64 (n : Int)) rfl (by kernel_rfl) (by kernel_rfl) (by kernel_rfl) (fun _ _ _ h => h) (Or.inl ⟨by kernel_rfl, fun V hV => ?_⟩) trivial ?_
      · clear hV
        go_simp
      simp only [Act.put, List.setIfInBounds_toArray, List.set_cons_zero, List.set_cons_succ]
      refine wpAnyH_take (i := 3) (v := .slice (some ⟨B0, n, none⟩) (N - n) (N - n)) rfl (by kernel_rfl) (by kernel_rfl) (by kernel_rfl) (fun _ _ _ h => h) (Or.inl ⟨by kernel_rfl, fun V hV => ?_⟩) trivial ?_
      · clear hV
        go_simp
      simp only [Act.put, List.setIfInBounds_toArray, List.set_cons_zero, List.set_cons_succ]
      refine wpAnyH_take (i := 4) (v := .slice (some ⟨B0, 0, none⟩) N N) rfl (by kernel_rfl) (by kernel_rfl) (by kernel_rfl) (fun _ _ _ h => h) (Or.inl ⟨by kernel_rfl, fun V hV => ?_⟩) trivial ?_
      · clear hV
        go_simp
      simp only [Act.put, List.setIfInBounds_toArray, List.set_cons_zero, List.set_cons_succ]
      refine wpAnyH_take (i := 5) (v := .int .i64 (n : Int)) rfl (by kernel_rfl) (by kernel_rfl) (by kernel_rfl) (fun _ _ _ h => h) (Or.inl ⟨by kernel_rfl, fun V hV => ?_⟩) trivial ?_
      · clear hV
        go_simp
      simp only [Act.put, List.setIfInBounds_toArray, List.set_cons_zero, List.set_cons_succ]
      refine wpAnyH_take (i := 6) (v := .slice (some ⟨B0, 0, none⟩) n N) rfl (by kernel_rfl) (by kernel_rfl) (by kernel_rfl) (fun _ _ _ h => h) (Or.inl ⟨by kernel_rfl, fun V hV => ?_⟩) trivial ?_
      · clear hV
        go_simp
      simp only [Act.put, List.setIfInBounds_toArray, List.set_cons_zero, List.set_cons_succ]
      refine wpAnyH_ready (rs := [7]) (by kernel_rfl) (by simp) ?_
      refine AllReadyH.cons (o := ⟨some 45, _, _, _, _, _⟩) rfl (fun K hK => ?_) AllReadyH.nil
      go_simp
      refine hK.out _ _ trivial (fun _ => ?_)
      try simp only [Act.put, List.setIfInBounds_toArray, List.set_cons_zero, List.set_cons_succ]
      clear hK K
      refine wpAnyH_take (i := 8) (oi := ⟨some 46, _, _, _, _, _⟩) (v := .int .i64 (q : Int)) rfl (by kernel_rfl) (by kernel_rfl) (by kernel_rfl) (fun _ _ _ h => h) (Or.inl ⟨by kernel_rfl, fun V hV => ?_⟩) trivial ?_
      · clear hV
        go_simp
      simp only [Act.put, List.setIfInBounds_toArray, List.set_cons_zero, List.set_cons_succ]
      refine wpAnyH_take (i := 9) (oi := ⟨some 8, _, _, _, _, _⟩) (v := .int .i64 (q : Int)) rfl (by kernel_rfl) (by kernel_rfl) (by kernel_rfl) (fun _ _ _ h => h) (Or.inl ⟨by kernel_rfl, fun V hV => ?_⟩) trivial ?_
      · clear hV
        go_simp
      simp only [Act.put, List.setIfInBounds_toArray, List.set_cons_zero, List.set_cons_succ]
      refine wpAnyH_done (by kernel_rfl) ?_ _
      obtain ⟨V2, hV2⟩ : ∃ V2, wr.drew.setCells B0 n (List.replicate m (.int .i64 (-1))) = V2 := ⟨_, rfl⟩
      rw [hV2] at HR HB ⊢
      clear hV2 hcp
      go_wp2_with fail
      go_roundw
      case rel => exact ⟨q, by omega, hmn, rfl, HR.out, HB.out⟩
      case measure => simp [intOf]; omega
    · obtain rfl : n = N := by omega
      have HR := Lib.hid hr
      have HB := Lib.hid hb
      clear hr hb
      go_wp2_with fail
      go_ret
      refine ⟨_, rfl, own_of_row HR.out (by rw [HS.out]; exact Nat.le_refl _) (by omega) (by simp) (fun i hi => ?_), by rw [HS.out]; exact HB.out⟩
      unfold repF
      rw [if_pos hi]
      simp [List.getD_eq_getElem?_getD, List.getElem?_replicate, hi]
end Go.Proofs.YtlmlchkolcmhpaaGreatDoor
end

section
/-
  Contract: impl.reach.
-/
namespace Go.Proofs.YtlmlchkolcmhpaaGreatDoor
open Go.RowKit
open Go.FlowMath (Bfs)

/-- The rooms in a table. -/
def roomR (R : List (List Int)) (u v : Nat) : Int := (R.getD u []).getD v 0
/-- A queue: a slice of the call's own, somewhere in its block. -/
def Que (w : World) (base fb : Nat) (v : Value) (q : List Nat) : Prop :=
  ∃ b off cap, v = .slice (some ⟨b, off, none⟩) q.length cap ∧ base ≤ b ∧ b ≠ fb ∧ b < w.heap.size ∧ q.length ≤ cap ∧ cap ≤ 9223372036854775807 ∧ (∀ j, j < cap → (w.cell? ⟨b, off + j, none⟩).isSome = true ∧ w.frozen? ⟨b, off + j, none⟩ = false) ∧
    ∀ j, j < q.length → w.cell? ⟨b, off + j, none⟩ = some (.int .i64 ((q.getD j 0 : Nat) : Int))
theorem Que.other {w : World} {base fb o : Nat} {v : Value} {q : List Nat} (h : Que w base fb v q) (u : Value) : Que (w.setCell ⟨fb, o, none⟩ u) base fb v q := by
  obtain ⟨b, off, cap, h1, h2, h3, h4, h5, h6, h7, h8⟩ := h
  have hb := Below.heap_setCell w ⟨fb, o, none⟩ u b h3
  refine ⟨b, off, cap, h1, h2, h3, by rw [World.size_setCell]; exact h4, h5, h6, fun j hj => ?_, fun j hj => (World.cell?_of_block hb).trans (h8 j hj)⟩
  rw [World.cell?_of_block (w := w) (w' := w.setCell ⟨fb, o, none⟩ u) hb, World.frozen?_of_block (w := w) (w' := w.setCell ⟨fb, o, none⟩ u) hb]
  exact h7 j hj
/-- The first one taken off. -/
theorem Que.pop {w : World} {base fb b off cap : Nat} {q : List Nat} (h : Que w base fb (.slice (some ⟨b, off, none⟩) q.length cap) q) (h0 : 0 < q.length) (A : Addr) (hA : (if cap = 1 then (some ⟨b, off, none⟩ : Option Addr) else some ⟨b, off + 1, none⟩) = some A) : Que w base fb (.slice (some A) (q.length - 1) (cap - 1)) (q.drop 1) := by
  obtain ⟨b', off', cap', h1, h2, h3, h4, h5, h6, h7, h8⟩ := h
  injection h1 with e1 e2 e3
  injection e1 with e1
  injection e1 with e1 e4 _
  subst e1 e4 e3
  have hl : (q.drop 1).length = q.length - 1 := List.length_drop
  by_cases hc : cap = 1
  · rw [if_pos hc] at hA
    obtain rfl := Option.some.inj hA
    exact ⟨b, off, cap - 1, by rw [hl], h2, h3, h4, by omega, by omega, fun j hj => absurd hj (by omega), fun j hj => absurd hj (by omega)⟩
  · rw [if_neg hc] at hA
    obtain rfl := Option.some.inj hA
    refine ⟨b, off + 1, cap - 1, by rw [hl], h2, h3, h4, by omega, by omega, fun j hj => ?_, fun j hj => ?_⟩
    · rw [Nat.add_assoc, Nat.add_comm 1 j]; exact h7 (j + 1) (by omega)
    · rw [Nat.add_assoc, Nat.add_comm 1 j, h8 (j + 1) (by omega)]
      simp [List.getD_eq_getElem?_getD, Nat.add_comm]
/-- One more, within the room. -/
theorem Que.room {w : World} {base fb b off cap : Nat} {q : List Nat} (h : Que w base fb (.slice (some ⟨b, off, none⟩) q.length cap) q) (hr : q.length + 1 ≤ cap) (x : Nat) : Que (w.setCells b (off + q.length * 1) [.int .i64 (x : Int)]) base fb (.slice (some ⟨b, off, none⟩) (q.length + 1) cap) (q ++ [x]) := by
  obtain ⟨b', off', cap', h1, h2, h3, h4, h5, h6, h7, h8⟩ := h
  injection h1 with e1 e2 e3
  injection e1 with e1
  injection e1 with e1 e4 _
  subst e1 e4 e3
  rw [Nat.mul_one]
  show Que (w.setCell ⟨b, off + q.length, none⟩ (.int .i64 (x : Int))) _ _ _ _
  have hs := h7 q.length (by omega)
  refine ⟨b, off, cap, by rw [List.length_append]; rfl, h2, h3, by rw [World.size_setCell]; exact h4, by rw [List.length_append]; exact hr, h6, fun j hj => ?_, fun j hj => ?_⟩
  · have hj := h7 j hj
    refine ⟨?_, by rw [World.frozen?_setCell]; exact hj.2⟩
    by_cases e : j = q.length
    · subst e
      rw [World.cell?_setCell_same' _ _ _ hs.1]; rfl
    · rw [World.cell?_setCell_other _ _ _ _ (fun e' => e (by have := congrArg Addr.off e'; simp at this; omega))]; exact hj.1
  · rw [List.length_append, List.length_singleton] at hj
    by_cases e : j = q.length
    · subst e
      rw [World.cell?_setCell_same' _ _ _ hs.1]
      simp [List.getD_eq_getElem?_getD]
    · rw [World.cell?_setCell_other _ _ _ _ (fun e' => e (by have := congrArg Addr.off e'; simp at this; omega)), h8 j (by omega)]
      simp only [List.getD_eq_getElem?_getD]
      rw [List.getElem?_append_left (by omega)]
/-- One more, in a new block. -/
theorem Que.grow {w : World} {base fb B : Nat} {v : Value} {q : List Nat} {x : Nat} (h : w.ownsRow B 3 1 v (q.length + 1) ((q.map fun (n : Nat) => Value.int .i64 (n : Int)) ++ [.int .i64 (x : Int)])) (hB : base ≤ B) (hf : fb < B) : Que w base fb v (q ++ [x]) := by
  have hcl := fun (g n c : Nat) (e : v = .slice (some ⟨g, 0, none⟩) n c) => World.ownsRow.cells (g := g) h (by rw [e]; rfl)
  rcases h.2 with ⟨h0, h1⟩ | ⟨g, cap, cur, hv, hg, hh, h1, h2, h3, h4⟩
  · omega
  · subst hv
    have hc := hcl g _ cap rfl
    refine ⟨g, 0, cap, by rw [List.length_append]; rfl, by omega, by omega, (Array.getElem?_eq_some_iff.1 hh).1, by rw [List.length_append]; exact h1, h2, fun j hj => ?_, fun j hj => ?_⟩
    · rw [Nat.zero_add]
      have : j < cur.size := by omega
      exact ⟨by simp [World.cell?, hh, this], by simp [World.frozen?, hh]⟩
    · rw [List.length_append, List.length_singleton] at hj
      have := hc j (.int .i64 (((q ++ [x]).getD j 0 : Nat) : Int)) (by
        have e : (q.map fun (n : Nat) => Value.int .i64 (n : Int)) ++ [.int .i64 (x : Int)] = (q ++ [x]).map fun (n : Nat) => Value.int .i64 (n : Int) := by simp
        rw [e, List.getElem?_map, List.getElem?_eq_getElem (by simp; omega), List.getD_eq_getElem?_getD, List.getElem?_eq_getElem (by simp; omega)]
        rfl)
      rw [add_none] at this
      exact this
theorem own_of_block {w w' : World} {base fb n cap size m : Nat} {e : TypeId} {cs : List Value} (h : w.ownsRow base e size (.slice (some ⟨fb, 0, none⟩) n cap) m cs) (hb : w'.heap[fb]? = w.heap[fb]?) : w'.ownsRow base e size (.slice (some ⟨fb, 0, none⟩) n cap) m cs := by
  refine ⟨h.1, ?_⟩
  rcases h.2 with ⟨h0, _⟩ | ⟨g2, cap2, cur2, hv2, hb2, hh2, r⟩
  · cases h0
  · have e1 := hv2
    injection e1 with e1 _ _
    injection e1 with e1
    injection e1 with e1 _ _
    subst e1
    exact .inr ⟨fb, cap2, cur2, hv2, hb2, by rw [hb]; exact hh2, r⟩
/-- append to a queue. -/
theorem wpList_que {ops : Array Oper} {rest : List Oper} {o : Oper} {a : Act} {Q : Exit → Act → World → Prop} {w0 : World} {ob : Obj} (hg : o.guard = none) (s x : Operand)
    (ho : o.op = .call { callee := .builtin .append, args := #[s, x], argTypes := #[53, 53] }) (base fb : Nat) (v : Value) (q : List Nat) (hs : a.eval s = v) (hq : Que w0 base fb v q)
    (z : Nat) (hob : ob = .cells #[.int .i64 (z : Int)] 3) (H : Nat) (hH : H = w0.heap.size) (hx : a.eval x = .slice (some ⟨H, 0, none⟩) 1 1) (hl : q.length ≤ 1000) (hbase : base ≤ w0.heap.size) (hf : fb < w0.heap.size)
    (h : ∀ v' w', Que w' base fb v' (q ++ [z]) → Below base w0 w' → w'.heap[fb]? = w0.heap[fb]? → wpList Tryz.prog ops Q rest (a.put o.dst v') w') : wpList Tryz.prog ops Q (o :: rest) a (w0.alloc ob) := by
  subst hob hH
  obtain ⟨b, off, cap, rfl, h2, h3, h4, h5, h6, h7, h8⟩ := hq
  obtain ⟨i0, hi, hz0, hz1, hz2⟩ := info_parts Tryz.info3
  have hal := (Below.refl w0.heap.size w0).alloc (Nat.le_refl _) (.cells #[.int .i64 (z : Int)] 3)
  have hQA : Que (w0.alloc (.cells #[.int .i64 (z : Int)] 3)) base fb (.slice (some ⟨b, off, none⟩) q.length cap) q :=
    ⟨b, off, cap, rfl, h2, h3, by simp; omega, h5, h6, fun j hj => by rw [hal.cell (p := ⟨b, off + j, none⟩) h4, hal.frozen (p := ⟨b, off + j, none⟩) h4]; exact h7 j hj, fun j hj => (hal.cell (p := ⟨b, off + j, none⟩) h4).trans (h8 j hj)⟩
  refine wpList_append_arg _ hg s x 53 ho 3 i0 (.int .i64 0) 1 8 Tryz.underlying53 hi hz0 hz1 hz2 rfl (by decide) b off q.length cap (q.map fun (n : Nat) => Value.int .i64 (n : Int)) hs (by simp) (fun j u hu => ?_) ⟨w0.heap.size, 0, none⟩ 1 1 [.int .i64 (z : Int)] hx rfl (fun j u hu => ?_) (by intro u hu; simp at hu; subst hu; rfl) (fun hr j hj => ?_) (by unfold maxLen; omega) (by omega) (fun hr => ?_) (fun hr v' w' hO hG => ?_)
  · rw [List.getElem?_map, Option.map_eq_some_iff] at hu
    obtain ⟨n, hn, rfl⟩ := hu
    obtain ⟨hj, hn⟩ := List.getElem?_eq_some_iff.1 hn
    have := (hal.cell (p := ⟨b, off + j, none⟩) h4).trans (h8 j hj)
    rw [List.getD_eq_getElem?_getD, List.getElem?_eq_getElem hj, Option.getD_some, hn] at this
    exact this
  · match j, hu with
    | 0, hu =>
      simp at hu
      subst hu
      rw [Addr.add_lit, World.cell?_alloc_new]
      rfl
  · obtain rfl : j = 0 := by simp at hj; omega
    rw [Nat.mul_one, Nat.add_zero, hal.cell (p := ⟨b, off + q.length, none⟩) h4, hal.frozen (p := ⟨b, off + q.length, none⟩) h4]
    exact h7 q.length (by omega)
  · refine h _ _ (hQA.room hr z) ?_ ?_
    · rw [Nat.mul_one]
      exact ((Below.refl base w0).alloc hbase _).setCell (p := ⟨b, off + q.length, none⟩) h2 _
    · rw [Nat.mul_one]
      exact (Below.heap_setCell _ ⟨b, off + q.length, none⟩ _ fb (fun e => h3 e.symm)).trans (hal.block fb hf)
  · have hs1 : (w0.alloc (.cells #[.int .i64 (z : Int)] 3)).heap.size = w0.heap.size + 1 := by simp
    refine h _ _ (Que.grow hO (by omega) (by omega)) ?_ ?_
    · exact ((Below.refl base w0).alloc hbase _).trans ⟨hG.os, hG.tape, hG.output, hG.size, fun k hk => hG.block k (by omega) (fun e => by cases e)⟩
    · exact (hG.block fb (by omega) (fun e => by cases e)).trans (hal.block fb hf)
theorem Own.set {w : World} {base fb n cap i : Nat} {P : List Int} (h : Own w base (.slice (some ⟨fb, 0, none⟩) n cap) P) (x : Int) : Own (w.setCell ⟨fb, i, none⟩ (.int .i64 x)) base (.slice (some ⟨fb, 0, none⟩) n cap) (P.set i x) := by
  unfold Own at h ⊢
  rw [List.length_set, List.map_set]
  exact orow_set h
theorem Own.cell {w : World} {base fb n cap i : Nat} {P : List Int} (h : Own w base (.slice (some ⟨fb, 0, none⟩) n cap) P) (hi : i < P.length) : w.cell? ⟨fb, i, none⟩ = some (.int .i64 (P.getD i 0)) ∧ w.frozen? ⟨fb, i, none⟩ = false ∧ base ≤ fb ∧ fb < w.heap.size := by
  have hh := h
  unfold Own at hh
  refine ⟨?_, ?_, ?_⟩
  · have := World.ownsRow.cells (g := fb) hh rfl i (.int .i64 (P.getD i 0)) (by rw [List.getElem?_map, List.getElem?_eq_getElem hi, List.getD_eq_getElem?_getD, List.getElem?_eq_getElem hi]; rfl)
    rw [add_none, Nat.zero_add] at this
    exact this
  · rcases hh.2 with ⟨h0, _⟩ | ⟨g2, cap2, cur2, hv2, hb2, hh2, hn2, hm2, hs2, _⟩
    · cases h0
    · injection hv2 with e1 e2 e3
      injection e1 with e1
      injection e1 with e1 _ _
      subst e1
      simp [World.frozen?, hh2]
  · rcases hh.2 with ⟨h0, _⟩ | ⟨g2, cap2, cur2, hv2, hb2, hh2, hn2, hm2, hs2, _⟩
    · cases h0
    · injection hv2 with e1 e2 e3
      injection e1 with e1
      injection e1 with e1 _ _
      subst e1
      exact ⟨hb2, (Array.getElem?_eq_some_iff.1 hh2).1⟩

/-- The search under way. -/
def RchS (R : List (List Int)) (N s : Nat) (w0 : World) (base fb cF k : Nat) (D : List Nat) (P : List Int) (v : Value) (wr : World) : Prop :=
  Bfs (fun u v => 0 < roomR R u v) N s D k P ∧ k ≤ D.length ∧ Own wr base (.slice (some ⟨fb, 0, none⟩) N cF) P ∧ Que wr base fb v (D.drop k) ∧ Below base w0 wr
theorem que_len {w : World} {base fb : Nat} {v : Value} {q : List Nat} (h : Que w base fb v q) : ∃ b off cap, v = .slice (some ⟨b, off, none⟩) q.length cap := by
  obtain ⟨b, off, cap, h1, -⟩ := h
  exact ⟨b, off, cap, h1⟩

set_option maxRecDepth 100000 in
set_option maxHeartbeats 4000000 in
theorem reachI (ao : Option Addr) (b cap : Nat) (R : List (List Int)) (N s : Nat) (w : World) (hr : Tab .i64 w ao b 0 R) (hl : R.length = N) (hrow : ∀ i, i < N → (R.getD i []).length = N) (hN : N ≤ 8) (hs : s < N) :
    Calls Tryz.prog 185 #[.slice ao N cap, .int .i64 (s : Int)] w fun e w' => ∃ v P rank, e = .returned v ∧ Own w' w.heap.size v P ∧ P.length = N ∧ Go.FlowMath.Reach (fun u v => 0 < roomR R u v) N s rank P ∧ Below w.heap.size w w' := by
  have HR := Lib.hid hr
  have HL := Lib.hid hl
  have HROW := Lib.hid hrow
  obtain rfl := hr.1 (by omega)
  have hb1 := (Below.refl w.heap.size w).alloc (Nat.le_refl _) (.cells #[.int .i64 (-1)] 3)
  have HREP := Lib.hid (repI w.heap.size N (w.alloc (.cells #[.int .i64 (-1)] 3)) (by rw [World.cell?_alloc_new]; rfl) (by omega) (by omega))
  have HB1 := Lib.hid hb1
  clear hr hl hrow hb1
  go_enter Tryz.func185, Tryz.ntmps185
  go_wp2_with fail
  refine (HREP.out).mono ?_
  rintro e w1 ⟨v1, rfl, ho1, hb1⟩
  have HB2 := Lib.hid (HB1.out.trans (hb1.mono HB1.out.size))
  have ho2 := ho1.mono (base' := w.heap.size) HB1.out.size
  obtain ⟨aF, fb, cF, rfl, hc1, hc2, hrF, hlowF, -⟩ := ho2.row
  rw [List.length_replicate] at hc1 hlowF
  obtain rfl := hrF.1 (by rw [List.length_replicate]; omega)
  rw [List.length_replicate]
  rw [List.length_replicate] at ho2
  have hcs := ho2.cell (i := s) (by rw [List.length_replicate]; exact hs)
  obtain ⟨hcs1, hcs2, hcs3, hcs4⟩ := hcs
  have hsi : (s : Int) < (N : Int) := by omega
  have HO3 := Lib.hid (ho2.set (i := s) (s : Int))
  clear ho1 hb1 hrF hlowF ho2 HREP
  go_wp2_with fail
  have HB4 := Lib.hid ((HB2.out.setCell (p := ⟨fb, s, none⟩) hcs3 (.int .i64 (s : Int))).alloc (by rw [World.size_setCell]; exact HB2.out.size) (.cells #[.int .i64 (s : Int)] 3))
  have HO4 := Lib.hid (HO3.out.alloc (.cells #[.int .i64 (s : Int)] 3))
  have HQ4 : Hid (Que ((w1.setCell ⟨fb, s, none⟩ (.int .i64 (s : Int))).alloc (.cells #[.int .i64 (s : Int)] 3)) w.heap.size fb (.slice (some ⟨w1.heap.size, 0, none⟩) 1 1) [s]) := Lib.hid (by
    have hsz : (w1.setCell ⟨fb, s, none⟩ (.int .i64 (s : Int))).heap.size = w1.heap.size := World.size_setCell _ _ _
    have h1 := World.cell?_alloc_new (w1.setCell ⟨fb, s, none⟩ (.int .i64 (s : Int))) #[.int .i64 (s : Int)] 3
    rw [hsz] at h1
    refine ⟨w1.heap.size, 0, 1, rfl, HB2.out.size, by omega, by rw [World.size_alloc, hsz]; omega, Nat.le_refl _, by omega, fun j hj => ?_, fun j hj => ?_⟩
    · obtain rfl : j = 0 := by omega
      refine ⟨by rw [h1]; rfl, ?_⟩
      have h2 := heap_alloc_new (w1.setCell ⟨fb, s, none⟩ (.int .i64 (s : Int))) (.cells #[.int .i64 (s : Int)] 3)
      rw [hsz] at h2
      unfold World.frozen?
      simp only
      rw [h2]
      rfl
    · obtain rfl : j = 0 := by simp at hj; omega
      rw [h1]; rfl)
  have HBF := Lib.hid (Bfs.first (E := fun u v => 0 < roomR R u v) hs)
  obtain ⟨w4, hw4⟩ : ∃ w4, (w1.setCell ⟨fb, s, none⟩ (.int .i64 (s : Int))).alloc (.cells #[.int .i64 (s : Int)] 3) = w4 := ⟨_, rfl⟩
  rw [hw4] at HB4 HO4 HQ4 ⊢
  have HST := Lib.hid (show RchS R N s w w.heap.size fb cF 0 [s] ((List.replicate N (-1)).set s (s : Int)) (.slice (some ⟨w1.heap.size, 0, none⟩) 1 1) w4 from ⟨HBF.out, Nat.zero_le _, HO4.out, HQ4.out, HB4.out⟩)
  clear hw4 HB4 HO4 HQ4 HBF HO3 hcs1 hcs2 hcs4
  go_loopg [6] N (fun g v wr => ∃ (k : Nat) (D : List Nat) (P : List Int), g + k = N ∧ RchS R N s w w.heap.size fb cF k D P v wr)
  case atStart => exact ⟨0, _, _, rfl, HST.out⟩
  case round =>
    clear HST
    obtain ⟨k, D, P, hg, hbf, hk, ho, hq, hb⟩ := hrel
    obtain ⟨G, hG⟩ : ∃ G, G = gk := ⟨_, rfl⟩
    have HGK := Lib.hid hG
    have HG := Lib.hid hg
    clear hG
    have hDN := hbf.le
    have HBF := Lib.hid hbf
    have HO := Lib.hid ho
    have HB := Lib.hid hb
    have HQ := Lib.hid hq
    obtain ⟨qb, qo, qc, rfl⟩ := que_len hq
    have hql : (D.drop k).length = D.length - k := List.length_drop
    rw [hql] at HQ ⊢
    by_cases hkd : k < D.length
    · obtain ⟨u, hu⟩ : ∃ u, D.getD k 0 = u := ⟨_, rfl⟩
      have huN : u < N := by
        rw [← hu, List.getD_eq_getElem?_getD, List.getElem?_eq_getElem hkd]
        exact hbf.lt _ (List.getElem_mem hkd)
      have hd0 : (D.drop k).getD 0 0 = u := by rw [← hu]; simp [List.getD_eq_getElem?_getD]
      obtain ⟨_, _, _, e0, hqB, -, hql2, hqcap, -, hqs, hqv⟩ := hq
      injection e0 with e1 e2 e3
      injection e1 with e1
      injection e1 with e1 e4 _
      subst e1 e4 e3
      have hq0 := hqv 0 (by omega)
      rw [hd0, Nat.add_zero] at hq0
      obtain ⟨ra, rb, ro, rc, hrw, hre, hrc, -⟩ := (HR.out.keep hb (Nat.le_refl _)).2 u (by rw [HL.out]; exact huN)
      have hru := HROW.out u huN
      rw [Nat.zero_add, hru] at hrw
      rw [hru] at hrc
      obtain rfl := hre.1 (by omega)
      have hrw0 : w.cell? ⟨b, u, none⟩ = some (.slice (some ⟨rb, ro, none⟩) N rc) := by
        obtain ⟨_, _, _, _, h1, -, -, -⟩ := HR.out.2 u (by rw [HL.out]; exact huN)
        have h2 := World.block_lt_of_cell? _ _ h1
        rw [Nat.zero_add] at h1
        rw [← hb.cell (p := ⟨b, u, none⟩) h2]; exact hrw
      have HRE : Hid (Row .i64 w (some ⟨rb, ro, none⟩) rb ro (R.getD u [])) := Lib.hid (by
        obtain ⟨_, _, _, _, h1, h2, -, -⟩ := HR.out.2 u (by rw [HL.out]; exact huN)
        rw [Nat.zero_add, hrw0] at h1
        injection h1 with h1
        injection h1 with e1 _ _
        subst e1
        have := h2.1 (by omega)
        injection this with this
        injection this with e1 e2 _
        subst e1 e2
        exact h2)
      have hui : (u : Int) < (N : Int) := by omega
      have hDk : 0 < D.length - k := by omega
      have HU := Lib.hid hu
      have HRU := Lib.hid hru
      have HST := Lib.hid (show RchS R N s w w.heap.size fb cF k D P (.slice (some ⟨qb, qo, none⟩) (D.length - k) qc) wr from ⟨HBF.out, hk, HO.out, HQ.out, HB.out⟩)
      clear hbf ho hb hqs hqv hd0 hu hrw0 hre hru hql e2 HBF HO HQ HB
      go_wp2_with fail
      go_loopg [6, 31] N (fun g' v i wr => ∃ (j : Nat) (D : List Nat) (P : List Int), g' + j = N ∧ i = .int .i64 j ∧ RchS R N s w w.heap.size fb cF k D P v wr ∧ k < D.length ∧ D.getD k 0 = u ∧ ∀ v', v' < j → 0 < roomR R u v' → v' ∈ D)
      case atStart => exact ⟨0, D, P, rfl, rfl, HST.out, hkd, HU.out, fun v' h => absurd h (Nat.not_lt_zero _)⟩
      case round =>
        clear HST HU hq0 hrw hqB hql2 hqcap hkd hDk hk hDN
        obtain ⟨j, D, P, hg2, rfl, ⟨hbf, hk, ho, hq, hb⟩, hkd, hu, hall⟩ := hrel
        have hDN := hbf.le
        have HBF := Lib.hid hbf
        have HO := Lib.hid ho
        have HB := Lib.hid hb
        have HQ := Lib.hid hq
        have HU := Lib.hid hu
        have HALL := Lib.hid hall
        obtain ⟨qb, qo, qc, rfl⟩ := que_len hq
        have hql : (D.drop k).length = D.length - k := List.length_drop
        have hsw := hb.size
        by_cases hjN : j < N
        · have hji : (j : Int) < (N : Int) := by omega
          have hjl : j < (R.getD u []).length := by rw [HRU.out]; exact hjN
          have hel := (HRE.out.keep hb (Nat.le_refl _)).2 j hjl
          obtain ⟨x, hx⟩ : ∃ x, (R.getD u []).getD j 0 = x := ⟨_, rfl⟩
          rw [hx] at hel
          have HXE := Lib.hid (show roomR R u j = x from hx)
          obtain ⟨f1, f2, f3, f4⟩ := ho.cell (i := j) (by rw [hbf.len]; exact hjN)
          obtain ⟨y, hy⟩ : ∃ y, P.getD j 0 = y := ⟨_, rfl⟩
          rw [hy] at f1
          have HNEG := Lib.hid (hbf.neg (v := j) hjN)
          rw [hy] at HNEG
          rw [hql] at HQ ⊢
          clear hx hy hu hall
          by_cases hx0 : 0 < x
          · by_cases hy0 : y < 0
            · have hnm := HNEG.out.1 hy0
              have hE : 0 < roomR R (D.getD k 0) j := by rw [HU.out, HXE.out]; exact hx0
              have HADD := Lib.hid (hbf.add hkd hjN hnm hE)
              rw [HU.out] at HADD
              have hd0 : (D.drop k).getD 0 0 = u := by rw [← HU.out]; simp [List.getD_eq_getElem?_getD]
              obtain ⟨_, _, _, e0, hqB, hqf, hqlt, hqcap, hqc2, hqs, hqv⟩ := hq
              injection e0 with e1 e2 e3
              injection e1 with e1
              injection e1 with e1 e4 _
              subst e1 e4 e3
              have hq0 := hqv 0 (by omega)
              rw [hd0, Nat.add_zero] at hq0
              have hDk : 0 < D.length - k := by omega
              have hDki : (0 : Int) < ((D.length - k : Nat) : Int) := by omega
              have HO2 := Lib.hid (ho.set (i := j) (u : Int))
              have HQ2 := Lib.hid (HQ.out.other (o := j) (.int .i64 (u : Int)))
              have HB2 := Lib.hid (hb.setCell (p := ⟨fb, j, none⟩) f3 (.int .i64 (u : Int)))
              obtain ⟨n, hn⟩ : ∃ n, D.length - k = n := ⟨_, rfl⟩
              have HDL := Lib.hid (show (D.drop k).length = n by rw [hql, hn])
              rw [hql] at hqcap
              rw [hn] at HQ2 hqcap hDk hDki ⊢
              have hn8 : n ≤ 8 := by omega
              have HDA := Lib.hid (show (D ++ [j]).drop k = D.drop k ++ [j] by rw [List.drop_append_of_le_length (by omega)])
              have HUA := Lib.hid (show (D ++ [j]).getD k 0 = u by rw [← HU.out]; simp only [List.getD_eq_getElem?_getD]; rw [List.getElem?_append_left (by omega)])
              have HKA := Lib.hid (show k ≤ (D ++ [j]).length ∧ k < (D ++ [j]).length by rw [List.length_append]; omega)
              clear hbf ho hb hqs hqv hql hn HO HQ HB e2 hnm hE
              obtain ⟨wb, hwb⟩ : ∃ wb, wr.setCell ⟨fb, j, none⟩ (.int .i64 (u : Int)) = wb := ⟨_, rfl⟩
              have hsz : wr.heap.size = wb.heap.size := by rw [← hwb]; exact (World.size_setCell _ _ _).symm
              rw [hwb] at HO2 HQ2 HB2
              have hqr : (D.drop k).length ≤ 1000 := by rw [HDL.out]; omega
              have HQR := Lib.hid hqr
              have hbw := HB2.out.size
              have hfw : fb < wb.heap.size := by omega
              have HSZ := Lib.hid hsz
              clear hqr hsz
              go_wp2_with (at_builtin; refine wpList_que rfl (.tmp 51) (.tmp 53) rfl w.heap.size fb _ (D.drop k) rfl HQ2.out j rfl _ (by first | rfl | exact HSZ.out) rfl HQR.out hbw hfw ?_)
              intro v' w9 hq9 hb9 hf9
              have hO9 : Own w9 w.heap.size (.slice (some ⟨fb, 0, none⟩) N cF) (P.set j (u : Int)) := own_of_block HO2.out (by first | exact hf9 | exact hf9.trans (Array.getElem?_eq_getElem _).symm)
              have HST := Lib.hid (show RchS R N s w w.heap.size fb cF k (D ++ [j]) (P.set j (u : Int)) v' w9 from ⟨HADD.out, HKA.out.1, hO9, by rw [HDA.out]; exact hq9, HB2.out.trans hb9⟩)
              obtain ⟨b9, o9, c9, rfl⟩ := que_len hq9
              clear hq9 hb9 hf9 hO9 hwb HQ2 HO2
              go_wp2_with fail
              go_roundg (gk - 1)
              case measure => omega
              case rel =>
                refine ⟨j + 1, D ++ [j], _, by omega, by go_num, HST.out, HKA.out.2, HUA.out, fun v' hv' he => ?_⟩
                by_cases e : v' = j
                · subst e; simp
                · exact List.mem_append_left _ (HALL.out v' (by omega) he)
            · have hmem : j ∈ D := Classical.byContradiction fun h => hy0 (HNEG.out.2 h)
              have HMEM := Lib.hid hmem
              have hy0i : ¬ y < 0 := hy0
              clear hbf ho hb hq hql hmem
              go_wp2_with fail
              go_roundg (gk - 1)
              case measure => omega
              case rel =>
                refine ⟨j + 1, D, P, by omega, by go_num, ⟨HBF.out, hk, HO.out, HQ.out, HB.out⟩, hkd, HU.out, fun v' hv' he => ?_⟩
                by_cases e : v' = j
                · subst e; exact HMEM.out
                · exact HALL.out v' (by omega) he
          · clear hbf ho hb hq hql
            go_wp2_with fail
            go_roundg (gk - 1)
            case measure => omega
            case rel =>
              refine ⟨j + 1, D, P, by omega, by go_num, ⟨HBF.out, hk, HO.out, HQ.out, HB.out⟩, hkd, HU.out, fun v' hv' he => ?_⟩
              by_cases e : v' = j
              · subst e; rw [HXE.out] at he; exact absurd he (by omega)
              · exact HALL.out v' (by omega) he
        · obtain rfl : j = N := by omega
          have HNX := Lib.hid (hbf.next (fun v' hv' he => by rw [HU.out] at he; exact HALL.out v' hv' he))
          have hDk : 0 < D.length - k := by omega
          have HQX := hq
          obtain ⟨_, _, _, e0, hqB, -, hql2, hqcap, hqcx, hqs, hqv⟩ := hq
          injection e0 with e1 e2 e3
          injection e1 with e1
          injection e1 with e1 e4 _
          subst e1 e4 e3
          rw [hql] at hqcap
          obtain ⟨A, hA⟩ : ∃ A : Addr, (if qc = 1 then (some ⟨qb, qo, none⟩ : Option Addr) else some ⟨qb, qo + 1, none⟩) = some A := by
            by_cases h : qc = 1
            · exact ⟨_, if_pos h⟩
            · exact ⟨_, if_neg h⟩
          have hpop := HQX.pop (by omega) A hA
          rw [List.drop_drop, hql] at hpop
          rw [hql]
          obtain ⟨n, hn⟩ : ∃ n, D.length - k = n := ⟨_, rfl⟩
          rw [hn] at hpop hqcap hDk ⊢
          have HPOP := Lib.hid hpop
          have h1n : (1 : Int) ≤ (n : Int) := by omega
          have h1c : 1 ≤ qc := by omega
          have h1ci : (1 : Int) ≤ (qc : Int) := by omega
          clear hbf ho hb hql hqs hqv HQX hpop hn hu hall HQ
          go_wp2_with fail
          go_roundg (G - 1)
          case measure => have h1 := HGK.out; have h2 := HG.out; omega
          case rel => exact ⟨k + 1, D, P, by have h1 := HGK.out; have h2 := HG.out; omega, HNX.out, by omega, HO.out, HPOP.out, HB.out⟩
    · have HRCH := Lib.hid (hbf.reach (by omega))
      have HPL := Lib.hid hbf.len
      have h0 : D.length - k = 0 := by omega
      rw [h0]
      clear hbf ho hb hq hql
      go_wp2_with fail
      go_ret
      exact ⟨_, P, D.idxOf, rfl, HO.out, HPL.out, HRCH.out, HB.out⟩
end Go.Proofs.YtlmlchkolcmhpaaGreatDoor
end

section
/-
  Plain mathematics: square tables by their cells; the rooms that the cells give; a step forth and back.
-/
namespace Go.Proofs.YtlmlchkolcmhpaaGreatDoor
open Go.RowKit
open Go.TextMath (tvB mvB)
open Go.FlowMath (Rooms Legal Half HalfR Edge IsExt ext sg back)

theorem wp_calm {P : Program} {c : Code} {K : Act → World → Prop} {Q : Exit → Act → World → Prop} {a : Act} {w : World} (h : c.wp P (Exit.then K (fun _ _ _ => False)) a w) : c.wp P (Exit.then K Q) a w :=
  Code.wp_mono (fun e a w q => by cases e <;> first | exact q | exact q.elim) h
theorem ite_iff {α : Type} {p q : Prop} [Decidable p] [Decidable q] (h : p ↔ q) {a b b' : α} (hb : b = b') : (if p then a else b) = if q then a else b' := by
  by_cases hp : p
  · rw [if_pos hp, if_pos (h.1 hp)]
  · rw [if_neg hp, if_neg fun hq => hp (h.2 hq), hb]
/-- A square table. -/
def gridF (N : Nat) (f : Nat → Nat → Int) : List (List Int) := (List.range N).map fun u => (List.range N).map fun v => f u v
theorem grid_len (N : Nat) (f : Nat → Nat → Int) : (gridF N f).length = N := by simp [gridF]
theorem grid_getD {N : Nat} (f : Nat → Nat → Int) {u : Nat} (hu : u < N) : (gridF N f).getD u [] = (List.range N).map fun v => f u v := by
  simp [gridF, List.getD_eq_getElem?_getD, hu]
theorem grid_row {N : Nat} (f : Nat → Nat → Int) {u : Nat} (hu : u < N) : ((gridF N f).getD u []).length = N := by rw [grid_getD f hu]; simp
theorem grid_at {N : Nat} (f : Nat → Nat → Int) {u v : Nat} (hu : u < N) (hv : v < N) : cellT (gridF N f) u v = f u v := by
  unfold cellT
  rw [grid_getD f hu]
  simp [List.getD_eq_getElem?_getD, hv]
theorem grid_get {N : Nat} (f : Nat → Nat → Int) {u v : Nat} (hu : u < N) (hv : v < N) : ((gridF N f).getD u [])[v]? = some (f u v) := by
  rw [grid_getD f hu]
  simp [hv]
theorem grid_congr {N : Nat} {f g : Nat → Nat → Int} (h : ∀ u v, u < N → v < N → f u v = g u v) : gridF N f = gridF N g := by
  unfold gridF
  refine List.map_congr_left fun u hu => List.map_congr_left fun v hv => h u v (List.mem_range.1 hu) (List.mem_range.1 hv)
theorem grid_put {N : Nat} (f : Nat → Nat → Int) {a b : Nat} (ha : a < N) (hb : b < N) (x : Int) : putC (gridF N f) a b x = gridF N fun u v => if u = a ∧ v = b then x else f u v := by
  refine grid_ext (by rw [putC_len, grid_len, grid_len]) (fun i hi => ?_) fun i hi j hj => ?_
  · rw [putC_len, grid_len] at hi
    rw [putC_row _ _ _ _ _ (by rw [grid_len]; exact ha), grid_row _ hi, grid_row _ hi]
  · rw [putC_len, grid_len] at hi
    rw [putC_row _ _ _ _ _ (by rw [grid_len]; exact ha), grid_row _ hi] at hj
    rw [grid_at _ hi hj]
    have := putC_at (gridF N f) (a := a) (b := b) i j x 0 (by rw [grid_len]; exact ha) (by rw [grid_row _ ha]; exact hb)
    show ((putC (gridF N f) a b x).getD i []).getD j 0 = _
    rw [this]
    have h2 := grid_at f hi hj
    unfold cellT at h2
    rw [h2]
theorem grid_blank (N : Nat) : blank N N = gridF N fun _ _ => 0 := by
  refine grid_ext (by rw [blank_len, grid_len]) (fun i hi => ?_) fun i hi j hj => ?_
  · rw [blank_len] at hi
    rw [blank_row hi, grid_row _ hi]
  · rw [blank_len] at hi
    rw [blank_row hi] at hj
    rw [grid_at _ hi hj]
    exact blank_cell N N hi
theorem roomR_grid {N : Nat} (f : Nat → Nat → Int) {u v : Nat} (hu : u < N) (hv : v < N) : roomR (gridF N f) u v = f u v := grid_at f hu hv

/-- The rooms of the cells seen so far. -/
def shF (T : List (List Int)) (M : List (List Bool)) (h i j : Nat) (raise : Bool) (pre : List (Nat × Nat)) (u v : Nat) : Int :=
  if u < h ∧ h ≤ v ∧ (u, v - h) ∈ pre ∧ flagM M u (v - h) = true ∧ ¬ (u = i ∧ v - h = j) then (if raise then cellT T u (v - h) else 3168)
  else if h ≤ u ∧ v < h ∧ (v, u - h) ∈ pre ∧ flagM M v (u - h) = true ∧ ¬ (v = i ∧ u - h = j) then (if raise then 3168 else cellT T v (u - h))
  else 0
theorem shF_nil (T : List (List Int)) (M : List (List Bool)) (h i j : Nat) (raise : Bool) (u v : Nat) : shF T M h i j raise [] u v = 0 := by simp [shF]
theorem shF_skip {T : List (List Int)} {M : List (List Bool)} {h i j : Nat} {raise : Bool} {pre : List (Nat × Nat)} {k l : Nat} (hs : flagM M k l = false ∨ (k = i ∧ l = j)) (u v : Nat) : shF T M h i j raise (pre ++ [(k, l)]) u v = shF T M h i j raise pre u v := by
  have key : ∀ a b : Nat, (((a, b) ∈ pre ++ [(k, l)]) ∧ flagM M a b = true ∧ ¬ (a = i ∧ b = j)) ↔ ((a, b) ∈ pre ∧ flagM M a b = true ∧ ¬ (a = i ∧ b = j)) := by
    intro a b
    rw [List.mem_append, List.mem_singleton]
    constructor
    · rintro ⟨h1 | h1, h2, h3⟩
      · exact ⟨h1, h2, h3⟩
      · injection h1 with e1 e2
        subst e1 e2
        rcases hs with hs | hs
        · rw [hs] at h2; cases h2
        · exact absurd hs h3
    · rintro ⟨h1, h2, h3⟩
      exact ⟨.inl h1, h2, h3⟩
  unfold shF
  exact ite_iff (and_congr_right fun _ => and_congr_right fun _ => key u (v - h)) (ite_iff (and_congr_right fun _ => and_congr_right fun _ => key v (u - h)) rfl)
theorem shF_set {T : List (List Int)} {M : List (List Bool)} {h i j : Nat} {raise : Bool} {pre : List (Nat × Nat)} {k l : Nat} (hk : k < h) (hm : flagM M k l = true) (hne : ¬ (k = i ∧ l = j)) (u v : Nat) :
    shF T M h i j raise (pre ++ [(k, l)]) u v = if u = h + l ∧ v = k then (if raise then 3168 else cellT T k l) else if u = k ∧ v = h + l then (if raise then cellT T k l else 3168) else shF T M h i j raise pre u v := by
  by_cases e1 : u = h + l ∧ v = k
  · obtain ⟨rfl, rfl⟩ := e1
    rw [if_pos ⟨rfl, rfl⟩]
    unfold shF
    rw [if_neg (by omega), if_pos ⟨by omega, hk, by simp, by rw [Nat.add_sub_cancel_left]; exact hm, by rw [Nat.add_sub_cancel_left]; exact hne⟩, Nat.add_sub_cancel_left]
  · rw [if_neg e1]
    by_cases e2 : u = k ∧ v = h + l
    · obtain ⟨rfl, rfl⟩ := e2
      rw [if_pos ⟨rfl, rfl⟩]
      unfold shF
      rw [if_pos ⟨hk, by omega, by simp, by rw [Nat.add_sub_cancel_left]; exact hm, by rw [Nat.add_sub_cancel_left]; exact hne⟩, Nat.add_sub_cancel_left]
    · rw [if_neg e2]
      unfold shF
      have h1 : (u < h ∧ h ≤ v ∧ (u, v - h) ∈ pre ++ [(k, l)] ∧ flagM M u (v - h) = true ∧ ¬ (u = i ∧ v - h = j)) ↔ (u < h ∧ h ≤ v ∧ (u, v - h) ∈ pre ∧ flagM M u (v - h) = true ∧ ¬ (u = i ∧ v - h = j)) := by
        rw [List.mem_append, List.mem_singleton]
        constructor
        · rintro ⟨a, b, c | c, d⟩
          · exact ⟨a, b, c, d⟩
          · injection c with c1 c2
            exact absurd ⟨c1, by omega⟩ e2
        · rintro ⟨a, b, c, d⟩
          exact ⟨a, b, .inl c, d⟩
      have h2 : (h ≤ u ∧ v < h ∧ (v, u - h) ∈ pre ++ [(k, l)] ∧ flagM M v (u - h) = true ∧ ¬ (v = i ∧ u - h = j)) ↔ (h ≤ u ∧ v < h ∧ (v, u - h) ∈ pre ∧ flagM M v (u - h) = true ∧ ¬ (v = i ∧ u - h = j)) := by
        rw [List.mem_append, List.mem_singleton]
        constructor
        · rintro ⟨a, b, c | c, d⟩
          · exact ⟨a, b, c, d⟩
          · injection c with c1 c2
            exact absurd ⟨by omega, c1⟩ e1
        · rintro ⟨a, b, c, d⟩
          exact ⟨a, b, .inl c, d⟩
      exact ite_iff h1 (ite_iff h2 rfl)
/-- All cells seen: the rooms at the beginning. -/
theorem shF_rooms {T : List (List Int)} {M : List (List Bool)} (hv : tvB T = true) {i j : Nat} {raise : Bool} :
    Rooms T.length (T.getD 0 []).length i j (flagM M) (cellT T) raise (cellT T) (shF T M T.length i j raise (poss (lensT T))) := by
  refine Rooms.begin (fun k hk l hl hne hm => ?_) (fun k hk l hl hne => ?_) (fun k hk l hl => ?_) (fun k hk l hl => ?_)
  · have hp := (poss_tv hv (x := (k, l))).2 ⟨hk, hl⟩
    constructor
    · unfold shF
      rw [if_pos ⟨hk, by omega, by rw [Nat.add_sub_cancel_left]; exact hp, by rw [Nat.add_sub_cancel_left]; exact hm, by rw [Nat.add_sub_cancel_left]; exact hne⟩, Nat.add_sub_cancel_left]
    · unfold shF
      rw [if_neg (by omega), if_pos ⟨by omega, hk, by rw [Nat.add_sub_cancel_left]; exact hp, by rw [Nat.add_sub_cancel_left]; exact hm, by rw [Nat.add_sub_cancel_left]; exact hne⟩, Nat.add_sub_cancel_left]
  · constructor
    · unfold shF
      rw [if_neg, if_neg (by omega)]
      rintro ⟨_, _, _, h1, h2⟩
      rw [Nat.add_sub_cancel_left] at h1 h2
      rcases hne with h | h
      · exact h2 h
      · rw [h] at h1; cases h1
    · unfold shF
      rw [if_neg (by omega), if_neg]
      rintro ⟨_, _, _, h1, h2⟩
      rw [Nat.add_sub_cancel_left] at h1 h2
      rcases hne with h | h
      · exact h2 h
      · rw [h] at h1; cases h1
  · unfold shF; rw [if_neg (by omega), if_neg (by omega)]
  · unfold shF; rw [if_neg (by omega), if_neg (by omega)]
/-- A step forth and back. -/
def stepF (R : Nat → Nat → Int) (p v : Nat) (d : Int) (a b : Nat) : Int := if a = p ∧ b = v then R p v - d else if a = v ∧ b = p then R v p + d else R a b
theorem tv_bounds {T : List (List Int)} (hv : tvB T = true) : (∀ k, k < T.length → ∀ l, l < (T.getD 0 []).length → 0 ≤ cellT T k l) ∧ (∀ k, k < T.length → ∀ l, l < (T.getD 0 []).length → cellT T k l ≤ 99) := by
  have h5 := (tv_t.1 hv).2.2.2.2
  refine ⟨fun k hk l hl => ?_, fun k hk l hl => ?_⟩
  · exact ((h5 k hk).2 l (by rw [(h5 k hk).1]; exact hl)).1
  · exact ((h5 k hk).2 l (by rw [(h5 k hk).1]; exact hl)).2
/-- The cell's extreme value is not far off. -/
theorem ext_bounds {T : List (List Int)} {M : List (List Bool)} (hv : tvB T = true) {i j : Nat} (hi : i < T.length) (hj : j < (T.getD 0 []).length) (raise : Bool) : -1584 ≤ extM T M i j raise ∧ extM T M i j raise ≤ 396 ∧ sg raise * cellT T i j ≤ sg raise * extM T M i j raise := by
  obtain ⟨hT1, hT4, hC1, hC4, -⟩ := tv_t.1 hv
  obtain ⟨h0, hc⟩ := tv_bounds hv
  have hE := Go.FlowMath.ext_is (m := flagM M) raise hi hj h0 hc
  have hself := hE.2 _ (Legal.self h0)
  obtain ⟨x, hx, he⟩ := hE.1
  have h1 := hx.le_row hi hj
  have h2 := Go.FlowMath.rowS_le (t := cellT T) hc hi
  have h3 := hx.ge_cell hi hj h0 hc
  unfold extM
  rw [he] at h1 h3
  have h4 : ((T.getD 0 []).length : Int) ≤ 4 := by omega
  have h5 : (T.length : Int) ≤ 4 := by omega
  have h6 : (T.length : Int) * 99 ≤ 396 := by omega
  have h7 : ((T.getD 0 []).length : Int) * ((T.length : Int) * 99) ≤ 1584 := by
    refine Int.le_trans (Int.mul_le_mul h4 h6 (by omega) (by omega)) (by omega)
  exact ⟨by omega, by omega, hself⟩
end Go.Proofs.YtlmlchkolcmhpaaGreatDoor
end
