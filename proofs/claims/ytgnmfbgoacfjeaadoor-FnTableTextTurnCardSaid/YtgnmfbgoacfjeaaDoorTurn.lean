/-
  Contract: impl.TableTurn; the turned table's text is as long.
-/
import Derived.Test.YtgnmfbgoacfjeaaDoorTurnMath
import Derived.Test.YtgnmfbgoacfjeaaDoorCellsOf
import Derived.Test.YtgnmfbgoacfjeaaDoorEmpty
import Derived.Test.YtgnmfbgoacfjeaaDoorMtOwn
import Derived.Test.YtgnmfbgoacfjeaaDoorRound
import Derived.Deep.DeepCutAuto
import Derived.RangeFuncBox
import Derived.Deep.RegionWith
namespace Go.Proofs.YtgnmfbgoacfjeaaDoor
open Go.RowKit Go.Shelf
open Go.TextMath (tvB text word sumN sumN_swap sumN_congr text_len)
attribute [local go_sem] Oper.semAt_some

theorem poss_mem {ls : List Nat} {i j : Nat} (hi : i < ls.length) (hj : j < ls.getD i 0) : (i, j) ∈ poss ls := by
  unfold poss
  rw [List.mem_flatMap]
  exact ⟨i, List.mem_range.2 hi, List.mem_map.2 ⟨j, List.mem_range.2 hj, rfl⟩⟩
def lens_ {α : Type} (T : List (List α)) : List Nat := T.map List.length
theorem lens_len {α : Type} (T : List (List α)) : (lens_ T).length = T.length := List.length_map _
theorem lens_at {α : Type} (T : List (List α)) {i : Nat} (hi : i < T.length) : (lens_ T).getD i 0 = (T.getD i []).length := by
  simp [lens_, List.getD_eq_getElem?_getD, List.getElem?_eq_getElem hi]
/-- The turned table. -/
def turnT (T : List (List Int)) : List (List Int) := turnS T T.length (T.getD 0 []).length (poss (lens_ T))
theorem poss_in {T : List (List Int)} (h : tvB T = true) {x : Nat × Nat} (hx : x ∈ poss (lens_ T)) : x.1 < T.length ∧ x.2 < (T.getD 0 []).length := by
  obtain ⟨h1, h2⟩ := mem_poss hx
  rw [lens_len] at h1
  rw [lens_at T h1, ((tv_t.1 h).2.2.2.2 x.1 h1).1] at h2
  exact ⟨h1, h2⟩
theorem turn_len (T : List (List Int)) : (turnT T).length = (T.getD 0 []).length := turnS_len _ _ _ _
theorem turn_row {T : List (List Int)} (h : tvB T = true) {k : Nat} (hk : k < (T.getD 0 []).length) : ((turnT T).getD k []).length = T.length := turnS_row _ _ _ _ (fun _ hx => poss_in h hx) k hk
theorem turn_at {T : List (List Int)} (h : tvB T = true) {k l : Nat} (hk : k < (T.getD 0 []).length) (hl : l < T.length) : ((turnT T).getD k []).getD l 0 = (T.getD l []).getD k 0 := by
  have := turnS_at T T.length (T.getD 0 []).length (poss (lens_ T)) (fun _ hx => poss_in h hx) (l := l) hk
  rw [if_pos (poss_mem (by rw [lens_len]; exact hl) (by rw [lens_at T hl, ((tv_t.1 h).2.2.2.2 l hl).1]; exact hk))] at this
  exact this
theorem turn_tv {T : List (List Int)} (h : tvB T = true) : tvB (turnT T) = true := by
  obtain ⟨h1, h2, h3, h4, h5⟩ := tv_t.1 h
  have r0 := turn_row h (k := 0) (by omega)
  refine tv_t.2 ⟨by rw [turn_len]; omega, by rw [turn_len]; omega, by rw [r0]; omega, by rw [r0]; omega, fun i hi => ?_⟩
  rw [turn_len] at hi
  rw [r0]
  refine ⟨turn_row h hi, fun j hj => ?_⟩
  rw [turn_row h hi] at hj
  rw [turn_at h hi hj]
  exact (h5 j hj).2 i (by rw [(h5 j hj).1]; exact hi)
theorem turn_text {T : List (List Int)} (h : tvB T = true) : (text (turnT T) []).length = (text T []).length := by
  obtain ⟨h1, h2, h3, h4, h5⟩ := tv_t.1 h
  have k5 := (tv_t.1 (turn_tv h)).2.2.2.2
  rw [text_len (turnT T) (fun i hi => by rw [turn_len] at hi; rw [turn_row h hi]; exact h1), text_len T (fun i hi => by rw [(h5 i hi).1]; exact h3), turn_len]
  have e1 : sumN (T.getD 0 []).length (fun i => sumN ((turnT T).getD i []).length (fun j => (word (((turnT T).getD i []).getD j 0)).length + 1)) =
      sumN (T.getD 0 []).length (fun i => sumN T.length (fun j => (word ((T.getD j []).getD i 0)).length + 1)) := by
    refine sumN_congr fun i hi => ?_
    rw [turn_row h hi]
    refine sumN_congr fun j hj => ?_
    rw [turn_at h hi hj]
  have e2 : sumN T.length (fun i => sumN (T.getD i []).length (fun j => (word ((T.getD i []).getD j 0)).length + 1)) =
      sumN T.length (fun i => sumN (T.getD 0 []).length (fun j => (word ((T.getD i []).getD j 0)).length + 1)) := by
    refine sumN_congr fun i hi => ?_
    rw [(h5 i hi).1]
  rw [e1, e2, sumN_swap]

theorem tab_heads {w : World} {ao : Option Addr} {b off : Nat} {T : List (List Int)} (h : Tab .i64 w ao b off T) : Heads w ao b off (lens_ T) := by
  refine ⟨fun h0 => h.1 (by rw [lens_len] at h0; exact h0), fun i hi => ?_⟩
  rw [lens_len] at hi
  obtain ⟨a', b', o', c', h1, h2, h3, h4⟩ := h.2 i hi
  rw [lens_at T hi]
  exact ⟨⟨a', c', h1⟩, by omega⟩

theorem postM_ret {F : Fence} {n : Nat} {P : Program} {fn : Func} {R : Ending → World → Prop} {a : Act} {w : World} {v : Value} (h : (results fn a.tmps).run P w = .ok v w) (hd : a.defers = []) (hR : R (.returned v) w) : bodyPostM F n P fn R .ret a w := by
  show LeavesInM F n P fn a.tmps R a.defers .returning w
  rw [hd]
  exact ⟨v, h, hR⟩

theorem bcellT {W w1 : World} (hb : Below W.heap.size W w1) : (∀ b o, b < W.heap.size → w1.cell? ⟨b, o, none⟩ = W.cell? ⟨b, o, none⟩) ∧ (∀ b o, b < W.heap.size → w1.frozen? ⟨b, o, none⟩ = W.frozen? ⟨b, o, none⟩) :=
  ⟨fun b o h => hb.cell (p := ⟨b, o, none⟩) h, fun b o h => hb.frozen (p := ⟨b, o, none⟩) h⟩

/-- A piece that neither panics nor leaves. -/
theorem wp_calm {P : Program} {c : Code} {K : Act → World → Prop} {Q : Exit → Act → World → Prop} {a : Act} {w : World} (h : c.wp P (Exit.then K (fun _ _ _ => False)) a w) : c.wp P (Exit.then K Q) a w :=
  Code.wp_mono (fun e a w q => by cases e <;> first | exact q | exact q.elim) h

/-- Ahead of the turn's loop: the box bo holds the new table. -/
def CutR (w : World) (b off q m cap : Nat) (s : Value) (wx : World) : Prop :=
  ∃ bo tb g, s = .pointer (some ⟨bo, 0, none⟩) ∧ Boxed wx bo 32 (.slice (some ⟨tb, 0, none⟩) m m) ∧ MtI wx (w.heap.size + 1) (.slice (some ⟨tb, 0, none⟩) m m) (blank m q) g ∧ w.heap.size + 1 ≤ bo ∧ tb ≠ bo ∧ (∀ i, i < m → g i ≠ bo) ∧
    Below (w.heap.size + 1) (w.alloc (.cells #[.slice (some ⟨b, off, none⟩) q cap] 32)) wx

set_option maxHeartbeats 2000000 in
set_option maxRecDepth 100000 in
theorem turnI_f (ao : Option Addr) (b off cap : Nat) (T : List (List Int)) (w : World) (hr : Tab .i64 w ao b off T) (hl : T.length ≤ 9223372036854775807) (hv : tvB T = false) :
    Calls Tryd.prog 23 #[.slice ao T.length cap] w fun e w' => e = .returned (.tuple #[.slice none 0 0, .bool false]) ∧ Below w.heap.size w w' := by
  have HR := Lib.hid hr
  have HV := Lib.hid hv
  have HRA := Lib.hid (hr.keep ((Below.refl _ w).alloc (Nat.le_refl _) (.cells #[.slice ao T.length cap] 32)) (Nat.le_refl _))
  clear hr hv
  refine (callsIn_wide (n := 10)).1 ?_
  refine callsIn_of_wp_marks Tryd.func23 rfl trivial (wpIn_wide.2 ?_) rfl
  simp only [Tryd.ntmps23, List.size_toArray, List.length_cons, List.length_nil, Nat.reduceAdd, Nat.reduceSub, Array.replicate_succ, Array.replicate_zero, List.push_toArray, List.append_toArray, List.nil_append, List.cons_append]
  go_wp2_with fail
  refine (tableValidI ao b off cap T _ HRA.out hl).mono ?_
  rintro e w' ⟨rfl, rfl⟩
  rw [HV.out]
  go_wp2_with fail
  exact postM_ret (v := .tuple #[.slice none 0 0, .bool false]) (by simp [results, Tryd.results23, go_sem]) rfl ⟨rfl, (Below.refl _ _).alloc (Nat.le_refl _) _⟩

theorem cut_A {w w' : World} {b off q m cap : Nat} {g : Nat → Nat} {W : World} (hm1 : 1 ≤ m) (hW : W = (w.alloc (.cells #[.slice (some ⟨b, off, none⟩) q cap] 32)).drew) (hm : MtI w' W.heap.size (.slice (some ⟨W.heap.size, 0, none⟩) m m) (blank m q) g) (hb : Below W.heap.size W w') :
    CutR w b off q m cap (.pointer (some ⟨w'.heap.size, 0, none⟩)) (w'.alloc (.cells #[.slice (some ⟨w.heap.size + 1, 0, none⟩) m m] 32)) := by
  have hs : W.heap.size = w.heap.size + 1 := by rw [hW]; exact World.size_alloc _ _
  have hsz := hb.size
  rw [hs] at hm hsz
  have hbA : Below (w.heap.size + 1) (w.alloc (.cells #[.slice (some ⟨b, off, none⟩) q cap] 32)) w' := ((Below.refl _ _).drew.trans (by rw [← hW]; exact hb.mono (by omega)))
  obtain ⟨_, _, _, _, _, _, hlt, _⟩ := hm.at_ (i := 0) (by rw [blank_len]; omega)
  exact ⟨_, _, g, rfl, Boxed.new w' _ _, hm.alloc _, hsz, Nat.ne_of_lt hlt, fun i hi => Nat.ne_of_lt (hm.lt (by rw [blank_len]; exact hi)), hbA.alloc (by omega) _⟩
theorem cut_B {w w' : World} {b off q m cap : Nat} {g : Nat → Nat} {W : World} (hW : W = ((w.alloc (.cells #[.slice (some ⟨b, off, none⟩) q cap] 32)).alloc (.cells #[.slice none 0 0] 32)).drew) (hm : MtI w' W.heap.size (.slice (some ⟨W.heap.size, 0, none⟩) m m) (blank m q) g) (hb : Below W.heap.size W w') :
    CutR w b off q m cap (.pointer (some ⟨w.heap.size + 1, 0, none⟩)) (w'.setCell ⟨w.heap.size + 1, 0, none⟩ (.slice (some ⟨w.heap.size + 1 + 1, 0, none⟩) m m)) := by
  have hs : W.heap.size = w.heap.size + 1 + 1 := by rw [hW]; exact (World.size_alloc _ _).trans (by rw [World.size_alloc])
  have hsz := hb.size
  have hbo : Boxed w' (w.heap.size + 1) 32 (.slice none 0 0) := by
    refine (hb.block (w.heap.size + 1) (by omega)).trans ?_
    rw [hW]
    have := Boxed.new (w.alloc (.cells #[.slice (some ⟨b, off, none⟩) q cap] 32)) 32 (.slice none 0 0)
    rw [World.size_alloc] at this
    exact this
  rw [hs] at hm hsz
  have hbB : Below (w.heap.size + 1) (w.alloc (.cells #[.slice (some ⟨b, off, none⟩) q cap] 32)) w' := (((Below.refl _ _).alloc (by simp) _).drew.trans (by rw [← hW]; exact hb.mono (by omega)))
  have hg : ∀ i, i < m → g i ≠ w.heap.size + 1 := fun i hi => by have := hm.low i (by rw [blank_len]; exact hi); omega
  exact ⟨_, _, g, rfl, hbo.set _, (hm.mono (Nat.le_succ _)).box (fun k hk => by simp [Value.ownBlock] at hk; omega) (fun i hi => hg i (by rw [blank_len] at hi; exact hi)), Nat.le_refl _, by omega, hg, hbB.setCell (p := ⟨w.heap.size + 1, 0, none⟩) (Nat.le_refl _) _⟩

/-- What the turn's loop keeps. -/
def TurnI (T : List (List Int)) (w : World) (b off q m cap bo tb : Nat) (pre : List (Nat × Nat)) (W : World) : Prop :=
  (∃ g, MtI W (w.heap.size + 1) (.slice (some ⟨tb, 0, none⟩) m m) (turnS T q m pre) g ∧ ∀ i, i < m → g i ≠ bo) ∧ Boxed W bo 32 (.slice (some ⟨tb, 0, none⟩) m m) ∧ Below (w.heap.size + 1) (w.alloc (.cells #[.slice (some ⟨b, off, none⟩) q cap] 32)) W
theorem turn_own {T : List (List Int)} {w : World} {b off q m cap bo tb B : Nat} {ls : List Nat} (hB : w.heap.size + 1 ≤ B) : OwnFrom B (fun (pre : List (Pos ls)) W => TurnI T w b off q m cap bo tb (Pos.vals pre) W) := by
  rintro s A C row ⟨⟨g, hm, hg⟩, hbo, hb⟩ hgr hr
  have hr' : ∀ r, row = some r → ∃ o : Obj, A.heap[r]? = some o ∧ o.isCells = false := fun r e => (hr r e).2
  refine ⟨⟨g, hm.keptO hgr hr', hg⟩, hbo.kept hgr (fun e' => ?_), ownFrom_below (β := Unit) (by simp) hB () A C row hb hgr hr⟩
  obtain ⟨o, ho, hc⟩ := hr' bo e'.symm
  rw [show A.heap[bo]? = _ from hbo] at ho; cases ho; cases hc

set_option maxHeartbeats 2000000 in
set_option maxRecDepth 100000 in
theorem turnI_t (ao : Option Addr) (b off cap : Nat) (T : List (List Int)) (w : World) (hr : Tab .i64 w ao b off T) (hl : T.length ≤ 9223372036854775807) (hv : tvB T = true) :
    Calls Tryd.prog 23 #[.slice ao T.length cap] w fun e w' => ∃ v g, e = .returned (.tuple #[v, .bool true]) ∧ MtI w' w.heap.size v (turnT T) g ∧ Below w.heap.size w w' := by
  have HR := Lib.hid hr
  have HV := Lib.hid hv
  obtain ⟨hT1, hT4, hC1, hC4, -⟩ := tv_t.1 hv
  have hra := hr.keep ((Below.refl _ w).alloc (Nat.le_refl _) (.cells #[.slice ao T.length cap] 32)) (Nat.le_refl _)
  obtain rfl := hr.1 (by omega)
  obtain ⟨a0, b0, o0, c0, hc0, -, hl0, hl1⟩ := hra.2 0 (by omega)
  rw [Nat.add_zero] at hc0
  have HRA := Lib.hid hra
  obtain ⟨m, hm⟩ : ∃ m, (T.getD 0 []).length = m := ⟨_, rfl⟩
  rw [hm] at hC1 hC4 hc0 hl0
  have HM := Lib.hid hm
  obtain ⟨q, hq⟩ : ∃ q, T.length = q := ⟨_, rfl⟩
  have HQ := Lib.hid hq
  rw [hq] at hT1 hT4 hl hc0
  clear hr hv hra hm
  rw [hq] at HRA ⊢
  clear hq
  refine (callsIn_wide (n := 10)).1 ?_
  refine callsIn_of_wp_marks Tryd.func23 rfl trivial (wpIn_wide.2 ?_) rfl
  simp only [Tryd.ntmps23, List.size_toArray, List.length_cons, List.length_nil, Nat.reduceAdd, Nat.reduceSub, Array.replicate_succ, Array.replicate_zero, List.push_toArray, List.append_toArray, List.nil_append, List.cons_append]
  go_wp2_with fail
  have HTV := tableValidI (some ⟨b, off, none⟩) b off cap T _ HRA.out (by rw [HQ.out]; omega)
  rw [HQ.out] at HTV
  refine HTV.mono ?_
  rintro e w' ⟨rfl, rfl⟩
  clear HTV
  rw [HV.out]
  have hq0 : 0 < q := by omega
  go_wp2_with fail
  have hbl : b < w.heap.size + 1 := by have := World.block_lt_of_cell? _ _ hc0; simpa using this
  go_cut [4] from 10 to 16 (fun s wx => CutR w b off q m cap s wx)
  case first =>
    refine wp_calm ?_
    go_region_with (go_at_call 47; refine (emptyI m q _ (by omega) (by omega)).mono ?_; rintro e w' ⟨g, rfl, hm, hb⟩; have HMT := Lib.hid hm; have HBT := Lib.hid hb; obtain ⟨hcT, hfT⟩ := bcellT hb; have hszT := hb.size; simp at hszT; clear hm hb)
    all_goals
      go_wp2_with fail
      go_meet
      first
        | exact cut_A hC1 rfl HMT.out HBT.out
        | exact cut_B rfl HMT.out HBT.out
  case rest =>
    obtain ⟨bo, tb, g, rfl, hbo, hmt, hlo, htb, hgb, hb⟩ := hcut
    have HBO := Lib.hid hbo
    have HMT := Lib.hid hmt
    have HB := Lib.hid hb
    have HG := Lib.hid hgb
    have hc1 : wc.cell? ⟨w.heap.size, 0, none⟩ = some (.slice (some ⟨b, off, none⟩) q cap) := by
      rw [hb.cell (p := ⟨w.heap.size, 0, none⟩) (Nat.lt_succ_self _)]
      exact (Boxed.new w 32 _).cell
    have hsz := hb.size
    simp only [World.size_alloc] at hsz
    clear hbo hmt hb hgb hc0
    go_wp2_with (go_at_call 48; refine (callsIn_wide.1 (cells_in Fence.wide 9 trivial rfl _ _ _ _)).mono ?_; rintro e w' ⟨rfl, rfl⟩)
    have hH := tab_heads HRA.out
    have hlen : (lens_ T).length = q := by rw [lens_len]; exact HQ.out
    obtain ⟨W1, hW1⟩ : ∃ W1, wc.alloc (.cells #[.slice (some ⟨b, off, none⟩) q cap] 32) = W1 := ⟨_, rfl⟩
    have hb1 : Below wc.heap.size wc W1 := by rw [← hW1]; exact (Below.refl _ _).alloc (Nat.le_refl _) _
    have hbx : Boxed W1 wc.heap.size 32 (.slice (some ⟨b, off, none⟩) (lens_ T).length cap) := by rw [← hW1, hlen]; exact Boxed.new wc _ _
    have hs1 : W1.heap.size = wc.heap.size + 1 := by rw [← hW1]; simp
    have hB1 := HB.out.trans (hb1.mono hsz)
    rw [hW1]
    refine (wpIn_wide (n := 10)).1 ?_
    refine wpIn_rangeFunc_ownG (F := Fence.wide) (n := 10) rfl (by omega) (gf := 67) (lb := #[.pointer (some ⟨wc.heap.size, 0, none⟩)]) rfl trivial (enters_of Tryd.func67 (by kernel_rfl) rfl)
      (cells_stops Fence.wide 9 trivial rfl (by omega) wc.heap.size (some ⟨b, off, none⟩) b off cap (lens_ T) (by rw [hlen]; omega) (Below (w.heap.size + 1)) (fun A B h o _ => h.cell (p := ⟨b, o, none⟩) hbl) (fun A => Below.refl _ A) (fun A B C h k => h.trans k) W1 (by omega) (fun _ => by omega) hbx.cell
        ⟨hH.1, fun i hi => by
          obtain ⟨⟨a, c, h1⟩, h2⟩ := hH.2 i hi
          exact ⟨⟨a, c, (hB1.cell (p := ⟨b, off + i, none⟩) hbl).trans h1⟩, h2⟩⟩) belowK_t (belowK_b (by omega)) (Below.refl _ _) (fun _ => rfl)
      (fun pre W => TurnI T w b off q m cap bo tb (Pos.vals pre) W) (fun _ _ _ => False) ?own (fun _ _ _ _ _ hs _ _ => hs) ?start
      (fun x => { tmps := #[.slice (some ⟨b, off, none⟩) q cap, .pointer (some ⟨w.heap.size, 0, none⟩), .slice none 0 0, .bool false, .pointer (some ⟨bo, 0, none⟩), .int .i64 (x.1.1 : Int), .int .i64 (x.1.2 : Int), .slice (some ⟨b, off, none⟩) q cap, .bool true, .bool false, u10, u11, u12, u13, u14, u15, u16,
        .slice (some ⟨b, off, none⟩) q cap, .func (.func 67) #[] #[.pointer (some ⟨wc.heap.size, 0, none⟩)], .int .i64 (x.1.1 : Int), .int .i64 (x.1.2 : Int), undef, undef, undef, undef, undef, undef, undef, undef, undef, undef, undef, undef, undef, undef], defers := [] }) ?assign ?body ?done ?stop
    case own => exact turn_own (by omega)
    case start =>
      rw [← hW1]
      exact ⟨⟨g, HMT.out.alloc _, HG.out⟩, HBO.out.alloc _, HB.out.alloc (by omega) _⟩
    case assign =>
      intro l x W K hK
      gi_wp2
      exact hK
    case body =>
      rintro l pre ⟨⟨i, j⟩, hi, hj⟩ W ⟨⟨g', hm, hg⟩, hbo, hb⟩ hlt
      have HBW := Lib.hid hb
      have HMW := Lib.hid hm
      have HBOX := Lib.hid hbo
      have HGW := Lib.hid hg
      have HPRE := Lib.hid (show ∀ x ∈ Pos.vals pre, x.1 < q ∧ x.2 < m from fun x hx => by
        obtain ⟨⟨y, h1, h2⟩, _, rfl⟩ := List.mem_map.1 hx
        rw [hlen] at h1
        rw [lens_at T (by rw [HQ.out]; exact h1), ((tv_t.1 HV.out).2.2.2.2 y.1 (by rw [HQ.out]; exact h1)).1, HM.out] at h2
        exact ⟨h1, h2⟩)
      simp only at hi hj
      rw [hlen] at hi
      have hlr : (T.getD i []).length = m := by rw [((tv_t.1 HV.out).2.2.2.2 i (by rw [HQ.out]; exact hi)).1, HM.out]
      rw [lens_at T (by rw [HQ.out]; exact hi), hlr] at hj
      obtain ⟨ra, rb, ro, rc, hrow, hel, hrc, -⟩ := HRA.out.2 i (by rw [HQ.out]; exact hi)
      rw [hlr] at hrow hrc
      obtain rfl := hel.1 (by omega)
      have helj := hel.2 j (by omega)
      have hrow' := (hb.cell (p := ⟨b, off + i, none⟩) hbl).trans hrow
      have helj' := (hb.cell (p := ⟨rb, ro + j, none⟩) (by have := World.block_lt_of_cell? _ _ helj; simpa using this)).trans helj
      have hct := (hb.cell (p := ⟨w.heap.size, 0, none⟩) (Nat.lt_succ_self _)).trans (Boxed.new w 32 _).cell
      have hcb := hbo.cell
      obtain ⟨c2, hth, -, hqc, -, -, -, -⟩ := hm.at_ (i := j) (by rw [turnS_len]; exact hj)
      rw [turnS_row T q m _ HPRE.out j hj] at hth hqc
      obtain ⟨old, hold⟩ : ∃ old, ((turnS T q m (Pos.vals pre)).getD j [])[i]? = some old := ⟨_, get_of (d := 0) (by rw [turnS_row T q m _ HPRE.out j hj]; exact hi)⟩
      obtain ⟨hst, hsf⟩ := hm.elt (by rw [turnS_len]; exact hj) hold
      have hlow := hm.low j (by rw [turnS_len]; exact hj)
      have HLOW := Lib.hid hlow
      obtain ⟨gj, hgj⟩ : ∃ gj, g' j = gj := ⟨_, rfl⟩
      rw [hgj] at hth hst hsf HLOW
      have HGJ := Lib.hid hgj
      obtain ⟨v, hv⟩ : ∃ v, (T.getD i []).getD j 0 = v := ⟨_, rfl⟩
      rw [hv] at helj'
      have HVV := Lib.hid hv
      have hii : (i : Int) < (q : Int) := by omega
      have hji : (j : Int) < (m : Int) := by omega
      clear hb hm hbo hg hlr hrow hel helj hlow hgj hv hold hH hlen hb1 hbx hW1 hB1 hlt
      gi_wp2
      refine region_round_tail 13 (by kernel_rfl) (by kernel_rfl) (by kernel_rfl) ?_
      simp only [List.take_succ_cons, List.take_zero, List.drop_succ_cons, List.drop_zero]
      repeat still_step
      try refine wpStill_nil ?_
      go_wp2_with fail
      have hlow := HLOW.out
      refine ⟨((KeepsOthers.setCell _ _ _).trans (KeepsOthers.drew _)).from _, ((Below.refl _ W).setCell (p := ⟨gj, i, none⟩) hlow _).drew, ⟨g', ?_, HGW.out⟩, ?_, (HBW.out.setCell (p := ⟨gj, i, none⟩) hlow _).drew⟩
      · have hput := HMW.out.put (by decide) (i := j) (j := i) (by rw [turnS_len]; exact hj) (by rw [turnS_row T q m _ HPRE.out j hj]; exact hi) v
        rw [HGJ.out] at hput
        rw [Pos.vals_snoc, turnS_snoc]
        unfold putC cellT
        simp only
        rw [HVV.out]
        exact hput.below (Below.refl _ _).drew
      · have hne : bo ≠ gj := fun e => HGW.out j hj (by rw [HGJ.out, e])
        exact (Below.heap_setCell W ⟨gj, i, none⟩ _ bo hne).trans HBOX.out
    case done =>
      rintro D ys W hD hys ⟨⟨g', hm, hg⟩, hbo, hb⟩ hK
      have HBW := Lib.hid hb
      have HMW := Lib.hid hm
      have HKW := Lib.hid hK
      have hcb := hbo.cell
      clear hb hm hbo hg hK
      go_wp2_with fail
      refine ⟨by simp, .inl ⟨_, _, rfl, run_takeDeferred HKW.out, ?_⟩⟩
      refine ⟨.tuple #[.slice (some ⟨tb, 0, none⟩) m m, .bool true], by simp [results, Tryd.results23, go_sem], _, g', rfl, ?_, ?_⟩
      · have := (HMW.out.keptO (grownBy_putObj' W D (.deferred none)) (fun r e => by cases e; exact ⟨_, HKW.out, rfl⟩)).mono (Nat.le_succ w.heap.size)
        rw [hys] at this
        unfold turnT
        rw [HQ.out, HM.out]
        exact this
      · exact (((Below.refl _ w).alloc (Nat.le_refl _) _).trans (HBW.out.mono (Nat.le_succ _))).trans (belowK_b (w := w) (Nat.le_refl _) W D _ _ (by omega) HKW.out rfl rfl)
    case stop =>
      rintro D c pre W _ _ h _
      exact h.elim
end Go.Proofs.YtgnmfbgoacfjeaaDoor
