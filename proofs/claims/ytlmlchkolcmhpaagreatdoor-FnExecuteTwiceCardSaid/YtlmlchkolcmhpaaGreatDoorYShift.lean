/-
  Contract: impl.shift.
-/
import Derived.Test.YtlmlchkolcmhpaaGreatDoorJ5
import Derived.Test.YtlmlchkolcmhpaaGreatDoorJ4
import Derived.IntWalk
import Derived.Carry
import Derived.OrdersHeld
import Derived.Deep.RegionHeld
import Derived.StillTailTactics
namespace Go.Proofs.YtlmlchkolcmhpaaGreatDoor
open Go.RowKit Go.Shelf
open Go.TextMath (tvB mvB text word)
open Go.FlowMath (Rooms Legal Half HalfR IsExt ext sg back back_step)
attribute [local go_sem] Oper.semAt_some

/-- The captured variables' boxes. -/
def ShB (w : World) (tv mv : Value) (i j : Nat) (raise : Bool) (W : World) : Prop :=
  Boxed W w.heap.size 64 tv ∧ Boxed W (w.heap.size + 1) 75 mv ∧ Boxed W (w.heap.size + 1 + 1) 3 (.int .i64 (i : Int)) ∧ Boxed W (w.heap.size + 1 + 1 + 1) 3 (.int .i64 (j : Int)) ∧ Boxed W (w.heap.size + 1 + 1 + 1 + 1) 4 (.bool raise)
theorem ShB.below {w W V : World} {tv mv : Value} {i j n : Nat} {raise : Bool} (h : ShB w tv mv i j raise W) (hb : Below n W V) (hn : w.heap.size + 5 ≤ n) : ShB w tv mv i j raise V := by
  obtain ⟨h1, h2, h3, h4, h5⟩ := h
  exact ⟨(hb.block _ (by omega)).trans h1, (hb.block _ (by omega)).trans h2, (hb.block _ (by omega)).trans h3, (hb.block _ (by omega)).trans h4, (hb.block _ (by omega)).trans h5⟩
theorem ShB.new (w : World) (tv mv : Value) (i j : Nat) (raise : Bool) :
    ShB w tv mv i j raise (((((w.alloc (.cells #[tv] 64)).alloc (.cells #[mv] 75)).alloc (.cells #[.int .i64 (i : Int)] 3)).alloc (.cells #[.int .i64 (j : Int)] 3)).alloc (.cells #[.bool raise] 4)) := by
  have key : ∀ (V : World) (n : Nat) (v : Value) (t : TypeId), V.heap.size = n → Boxed (V.alloc (.cells #[v] t)) n t v := fun V n v t e => by subst e; exact Boxed.new V t v
  refine ⟨((((key _ _ _ _ rfl).alloc _).alloc _).alloc _).alloc _, (((key _ _ _ _ (by simp)).alloc _).alloc _).alloc _, ((key _ _ _ _ (by simp)).alloc _).alloc _, (key _ _ _ _ (by simp)).alloc _, key _ _ _ _ (by simp)⟩

/-- What the first loop keeps. -/
def ShI (T : List (List Int)) (M : List (List Bool)) (h N i j : Nat) (raise : Bool) (w : World) (tv mv : Value) (rb xb : Nat) (g : Nat → Nat) (pre : List (Nat × Nat)) (W : World) : Prop :=
  MtI W rb (.slice (some ⟨rb, 0, none⟩) N N) (gridF N (shF T M h i j raise pre)) g ∧ ShB w tv mv i j raise W ∧ Boxed W (w.heap.size + 5) 3 (.int .i64 (h : Int)) ∧ Boxed W xb 64 (.slice (some ⟨rb, 0, none⟩) N N) ∧ Below w.heap.size w W
/-- What the other loops keep. -/
def ShL (h N i j : Nat) (raise : Bool) (w : World) (tv mv : Value) (rb xb D : Nat) (g : Nat → Nat) (R : Nat → Nat → Int) (W : World) : Prop :=
  MtI W rb (.slice (some ⟨rb, 0, none⟩) N N) (gridF N R) g ∧ ShB w tv mv i j raise W ∧ Boxed W (w.heap.size + 5) 3 (.int .i64 (h : Int)) ∧ Boxed W xb 64 (.slice (some ⟨rb, 0, none⟩) N N) ∧ Below w.heap.size w W ∧ W.heap[D]? = some (.deferred (some []))
theorem ShL.below {h N i j : Nat} {raise : Bool} {w : World} {tv mv : Value} {rb xb D : Nat} {g : Nat → Nat} {R : Nat → Nat → Int} {W V : World} (s : ShL h N i j raise w tv mv rb xb D g R W) (hb : Below W.heap.size W V) (hD : w.heap.size + 6 ≤ D) (hDW : D < W.heap.size) : ShL h N i j raise w tv mv rb xb D g R V := by
  obtain ⟨h1, h2, h3, h4, h5, h6⟩ := s
  have hx : xb < W.heap.size := h4.lt
  exact ⟨h1.below hb, h2.below hb (by omega), (hb.block _ (by omega)).trans h3, (hb.block _ hx).trans h4, h5.trans (hb.mono (by omega)), (hb.block _ hDW).trans h6⟩
theorem grid2 {N : Nat} (f : Nat → Nat → Int) {k v : Nat} (hk : k < N) (hv : v < N) (a b : Int) : putC (putC (gridF N f) k v a) v k b = gridF N fun x y => if x = v ∧ y = k then b else if x = k ∧ y = v then a else f x y := by
  rw [grid_put f hk hv, grid_put _ hv hk]

theorem wp_calm2 {P : Program} {c : Code} {Q : Exit → Act → World → Prop} {a : Act} {w : World} (h : c.wp P (Exit.then (Q .normal) (fun _ _ _ => False)) a w) : c.wp P Q a w :=
  Code.wp_mono (fun e a w q => by cases e <;> first | exact q | exact q.elim) h
theorem ShL.put {h N i j : Nat} {raise : Bool} {w : World} {tv mv : Value} {rb xb D : Nat} {g : Nat → Nat} {R : Nat → Nat → Int} {W : World} (s : ShL h N i j raise w tv mv rb xb D g R W) (hrb : rb = w.heap.size + 6) (hgl : ∀ u, u < N → rb ≤ g u ∧ g u < xb) {k v : Nat} (hk : k < N) (hv : v < N) (a : Int) :
    ShL h N i j raise w tv mv rb xb D g (fun x y => if x = k ∧ y = v then a else R x y) (W.setCell ⟨g k, v, none⟩ (.int .i64 a)).drew := by
  obtain ⟨h1, h2, h3, h4, h5, h6⟩ := s
  have hgk := hgl k hk
  have hbb : Below (w.heap.size + 6) W (W.setCell ⟨g k, v, none⟩ (.int .i64 a)).drew := ((Below.refl _ W).setCell (p := ⟨g k, v, none⟩) (by simp only; omega) _).drew
  have hbk : ∀ z, z ≠ g k → (W.setCell ⟨g k, v, none⟩ (.int .i64 a)).drew.heap[z]? = W.heap[z]? := fun z h1 => Below.heap_setCell W ⟨g k, v, none⟩ _ z h1
  obtain ⟨e1, -⟩ := h1.elt (i := k) (j := v) (by rw [grid_len]; exact hk) (grid_get _ hk hv)
  have hD : D ≠ g k := by
    rintro rfl
    simp [World.cell?, h6] at e1
  refine ⟨?_, h2.below hbb (by omega), (hbb.block _ (by omega)).trans h3, (hbk xb (by omega)).trans h4, h5.trans (hbb.mono (by omega)), (hbk D hD).trans h6⟩
  have hp1 := h1.put (by decide) (i := k) (j := v) (by rw [grid_len]; exact hk) (by rw [grid_row _ hk]; exact hv) a
  have hg := grid_put R hk hv a
  unfold putC at hg
  rw [hg] at hp1
  exact hp1.below (Below.refl _ _).drew

set_option maxRecDepth 100000 in
set_option maxHeartbeats 80000000 in
theorem shiftI (tb ct : Nat) (T : List (List Int)) (mb cm : Nat) (M : List (List Bool)) (i j : Nat) (raise : Bool) (w : World) (hr : Tab .i64 w (some ⟨tb, 0, none⟩) tb 0 T) (hm : TabB w (some ⟨mb, 0, none⟩) mb 0 M) (hv : tvB T = true) (hf : FitM T M) (hi : i < T.length) (hj : j < (T.getD 0 []).length) (hij : flagM M i j = true) :
    Calls Tryz.prog 180 #[.slice (some ⟨tb, 0, none⟩) T.length ct, .slice (some ⟨mb, 0, none⟩) T.length cm, .int .i64 (i : Int), .int .i64 (j : Int), .bool raise] w fun e w' => ∃ F : Int, e = .returned (.int .i64 F) ∧ cellT T i j + sg raise * F = extM T M i j raise ∧ Below w.heap.size w w' := by
  have HR := Lib.hid hr
  have HMK := Lib.hid hm
  have HV := Lib.hid hv
  have HF := Lib.hid hf
  have HIJ := Lib.hid hij
  obtain ⟨hT1, hT4, hC1, hC4, -⟩ := tv_t.1 hv
  obtain ⟨q, hq⟩ : ∃ q, (T.getD 0 []).length = q := ⟨_, rfl⟩
  obtain ⟨h, hh⟩ : ∃ h, T.length = h := ⟨_, rfl⟩
  have HQ := Lib.hid hq
  have HH := Lib.hid hh
  obtain ⟨a0, b0, o0, c0, hrow0, -, -, -⟩ := hr.2 0 (by omega)
  rw [hq, Nat.zero_add] at hrow0
  rw [hq] at hC1 hC4 hj
  rw [hh] at hT1 hT4 hi ⊢
  clear hr hm hv hf hij hq hh
  refine (callsIn_wide (n := 10)).1 ?_
  refine callsIn_of_wp_marks Tryz.func180 rfl trivial (wpIn_wide.2 ?_) rfl
  simp only [Tryz.ntmps180, List.size_toArray, List.length_cons, List.length_nil, Nat.reduceAdd, Nat.reduceSub, Array.replicate_succ, Array.replicate_zero, List.push_toArray, List.append_toArray, List.nil_append, List.cons_append]
  go_wp2_with fail
  have HBX := Lib.hid (ShB.new w (.slice (some ⟨tb, 0, none⟩) h ct) (.slice (some ⟨mb, 0, none⟩) h cm) i j raise)
  have HB5 := Lib.hid (show Below w.heap.size w (((((w.alloc (.cells #[.slice (some ⟨tb, 0, none⟩) h ct] 64)).alloc (.cells #[.slice (some ⟨mb, 0, none⟩) h cm] 75)).alloc (.cells #[.int .i64 (i : Int)] 3)).alloc (.cells #[.int .i64 (j : Int)] 3)).alloc (.cells #[.bool raise] 4)) from
    (((((Below.refl _ _).alloc (Nat.le_refl _) _).alloc (by simp) _).alloc (by simp; omega) _).alloc (by simp; omega) _).alloc (by simp; omega) _)
  have hs5 : (((((w.alloc (.cells #[.slice (some ⟨tb, 0, none⟩) h ct] 64)).alloc (.cells #[.slice (some ⟨mb, 0, none⟩) h cm] 75)).alloc (.cells #[.int .i64 (i : Int)] 3)).alloc (.cells #[.int .i64 (j : Int)] 3)).alloc (.cells #[.bool raise] 4)).heap.size = w.heap.size + 5 := by simp
  obtain ⟨W5, hW5⟩ : ∃ W5, (((((w.alloc (.cells #[.slice (some ⟨tb, 0, none⟩) h ct] 64)).alloc (.cells #[.slice (some ⟨mb, 0, none⟩) h cm] 75)).alloc (.cells #[.int .i64 (i : Int)] 3)).alloc (.cells #[.int .i64 (j : Int)] 3)).alloc (.cells #[.bool raise] 4)) = W5 := ⟨_, rfl⟩
  rw [hW5] at HBX HB5 hs5 ⊢
  have HS5 := Lib.hid hs5
  have c5t := HBX.out.1.cell
  have hbt : tb < w.heap.size := World.block_lt_of_cell? _ _ hrow0
  have c5r := (HB5.out.cell (p := ⟨tb, 0, none⟩) hbt).trans hrow0
  have hhi : (0 : Int) < (h : Int) := by omega
  have hhn : 0 < h := by omega
  clear hW5 hs5
  refine wp_calm ?_
  refine wp_region_held (S := (fun V => V.cell? ⟨w.heap.size, 0, none⟩ = some (.slice (some ⟨tb, 0, none⟩) h ct) ∧ V.cell? ⟨tb, 0, none⟩ = some (.slice a0 q c0))) (by kernel_rfl) ?_
  change wpAnyH _ _ _ _ _ _ _ _ W5.drew
  have hS0 : W5.drew.cell? ⟨w.heap.size, 0, none⟩ = some (.slice (some ⟨tb, 0, none⟩) h ct) ∧ W5.drew.cell? ⟨tb, 0, none⟩ = some (.slice a0 q c0) := ⟨c5t, c5r⟩
  refine wpAnyH_take (i := 0) (v := .slice (some ⟨tb, 0, none⟩) h ct) rfl (by kernel_rfl) (by kernel_rfl) (by kernel_rfl) (fun _ _ _ h => h) (Or.inl ⟨by kernel_rfl, fun V hV => ?_⟩) hS0 ?_
  · obtain ⟨q0, q1⟩ := hV
    go_simp
  simp only [Act.put, List.setIfInBounds_toArray]
  refine wpAnyH_take (i := 1) (v := .int .i64 (h : Int)) rfl (by kernel_rfl) (by kernel_rfl) (by kernel_rfl) (fun _ _ _ h => h) (Or.inl ⟨by kernel_rfl, fun V hV => ?_⟩) hS0 ?_
  · obtain ⟨q0, q1⟩ := hV
    go_simp
  simp only [Act.put]
  refine wpAnyH_take (i := 2) (v := .slice (some ⟨tb, 0, none⟩) h ct) rfl (by kernel_rfl) (by kernel_rfl) (by kernel_rfl) (fun _ _ _ h => h) (Or.inl ⟨by kernel_rfl, fun V hV => ?_⟩) hS0 ?_
  · obtain ⟨q0, q1⟩ := hV
    go_simp
  simp only [Act.put]
  refine wpAnyH_take (i := 3) (v := .pointer (some ⟨tb, 0, none⟩)) rfl (by kernel_rfl) (by kernel_rfl) (by kernel_rfl) (fun _ _ _ h => h) (Or.inl ⟨by kernel_rfl, fun V hV => ?_⟩) hS0 ?_
  · obtain ⟨q0, q1⟩ := hV
    go_simp
  simp only [Act.put]
  refine wpAnyH_take (i := 4) (v := .slice a0 q c0) rfl (by kernel_rfl) (by kernel_rfl) (by kernel_rfl) (fun _ _ _ h => h) (Or.inl ⟨by kernel_rfl, fun V hV => ?_⟩) hS0 ?_
  · obtain ⟨q0, q1⟩ := hV
    go_simp
  simp only [Act.put]
  refine wpAnyH_take (i := 5) (v := .int .i64 (q : Int)) rfl (by kernel_rfl) (by kernel_rfl) (by kernel_rfl) (fun _ _ _ h => h) (Or.inl ⟨by kernel_rfl, fun V hV => ?_⟩) hS0 ?_
  · obtain ⟨q0, q1⟩ := hV
    go_simp
  simp only [Act.put]
  have hal := (Below.refl W5.heap.size W5.drew).alloc (show W5.heap.size ≤ W5.drew.heap.size from Nat.le_refl _) (.cells #[.int .i64 0] 3)
  have hlt5 : w.heap.size < W5.heap.size ∧ tb < W5.heap.size := by have := HS5.out; omega
  have hSA : (W5.drew.alloc (.cells #[.int .i64 0] 3)).cell? ⟨w.heap.size, 0, none⟩ = some (.slice (some ⟨tb, 0, none⟩) h ct) ∧ (W5.drew.alloc (.cells #[.int .i64 0] 3)).cell? ⟨tb, 0, none⟩ = some (.slice a0 q c0) := ⟨(hal.cell (p := ⟨w.heap.size, 0, none⟩) hlt5.1).trans c5t, (hal.cell (p := ⟨tb, 0, none⟩) hlt5.2).trans c5r⟩
  refine wpAnyH_ready (rs := [6]) (by kernel_rfl) (by simp) ?_
  refine AllReadyH.cons (o := ⟨some 11, _, _, _, _, _⟩) rfl (fun K hK => ?_) AllReadyH.nil
  go_simp
  refine hK.out _ _ hSA (fun _ => ?_)
  try simp only [Act.put, List.setIfInBounds_toArray, List.set_cons_zero, List.set_cons_succ]
  clear hK K
  have hal2 : Below W5.heap.size W5 (W5.alloc (.cells #[.int .i64 (h : Int)] 3)).drew := ((Below.refl W5.heap.size W5).alloc (Nat.le_refl _) _).drew
  have hSB : (W5.alloc (.cells #[.int .i64 (h : Int)] 3)).drew.cell? ⟨w.heap.size, 0, none⟩ = some (.slice (some ⟨tb, 0, none⟩) h ct) ∧ (W5.alloc (.cells #[.int .i64 (h : Int)] 3)).drew.cell? ⟨tb, 0, none⟩ = some (.slice a0 q c0) := ⟨(hal2.cell (p := ⟨w.heap.size, 0, none⟩) hlt5.1).trans c5t, (hal2.cell (p := ⟨tb, 0, none⟩) hlt5.2).trans c5r⟩
  refine wpAnyH_ready (rs := [7]) (by kernel_rfl) (by simp) ?_
  refine AllReadyH.cons rfl (fun K hK => ?_) AllReadyH.nil
  go_simp
  refine hK.out _ _ hSB (fun _ => ?_)
  try simp only [Act.put, List.setIfInBounds_toArray, List.set_cons_zero, List.set_cons_succ]
  clear hK K
  refine wpAnyH_take (i := 8) (oi := ⟨some 12, _, _, _, _, _⟩) (v := .int .i64 (q : Int)) rfl (by kernel_rfl) (by kernel_rfl) (by kernel_rfl) (fun _ _ _ h => h) (Or.inl ⟨by kernel_rfl, fun V hV => ?_⟩) hSB ?_
  · obtain ⟨q0, q1⟩ := hV
    go_simp
  simp only [Act.put, List.setIfInBounds_toArray, List.set_cons_zero, List.set_cons_succ]
  refine wpAnyH_done (by kernel_rfl) ?_ _
  have hbx := HBX.out.below hal2 (by have := HS5.out; omega)
  have hbh : Boxed (W5.alloc (.cells #[.int .i64 (h : Int)] 3)).drew W5.heap.size 3 (.int .i64 (h : Int)) := Boxed.new W5 3 _
  have hs6 : (W5.alloc (.cells #[.int .i64 (h : Int)] 3)).drew.heap.size = W5.heap.size + 1 := World.size_alloc _ _
  obtain ⟨W6, hW6⟩ : ∃ W6, (W5.alloc (.cells #[.int .i64 (h : Int)] 3)).drew = W6 := ⟨_, rfl⟩
  rw [hW6] at hal2 hbx hbh hs6 ⊢
  rw [show W5.heap.size = w.heap.size + 5 from HS5.out] at hal2 hbh hs6 ⊢
  have HBX6 := Lib.hid hbx
  have HBH6 := Lib.hid hbh
  have HB6 := Lib.hid (HB5.out.trans (hal2.mono (by omega)))
  have HS6 := Lib.hid hs6
  have hch := hbh.cell
  have hwr : IntKind.i64.wrap ((h : Int) + (q : Int)) = ((h + q : Nat) : Int) := by rw [IntWalk.i64_in _ ⟨by omega, by omega⟩]; rfl
  obtain ⟨N, hN⟩ : ∃ N, h + q = N := ⟨_, rfl⟩
  rw [hN] at hwr
  have HN := Lib.hid hN
  have hN8 : N ≤ 8 := by omega
  clear hW6 hal hal2 hbx hbh hs6 hSA hSB hS0 c5t c5r HBX HB5 hlt5 hN
  go_wp2_with fail
  refine (emptyI N N W6 (by omega) (by omega)).mono ?_
  rintro e W7 ⟨g, rfl, hm7, hb7⟩
  have HM7 := Lib.hid hm7
  have HB7 := Lib.hid (HB6.out.trans (hb7.mono (by rw [HS6.out]; omega)))
  have HBX7 := Lib.hid (HBX6.out.below hb7 (by rw [HS6.out]; omega))
  have HBH7 := Lib.hid (show Boxed W7 (w.heap.size + 5) 3 (.int .i64 (h : Int)) from (hb7.block _ (by rw [HS6.out]; omega)).trans HBH6.out)
  have hs7 := hb7.size
  have hlt7 : w.heap.size < W7.heap.size := by have := HS6.out; omega
  obtain ⟨rb, hrb⟩ : ∃ rb, W6.heap.size = rb := ⟨_, rfl⟩
  have HRB := Lib.hid (show rb = w.heap.size + 6 by rw [← hrb]; exact HS6.out)
  rw [hrb] at HM7 hs7 ⊢
  have hch7 := HBH7.out.cell
  have hct7 := HBX7.out.1.cell
  clear hm7 hb7 hch hrb
  go_wp2_with (go_at_call 83; refine (callsIn_wide.1 (cells_in Fence.wide 9 trivial rfl _ _ _ _)).mono ?_; rintro e w' ⟨rfl, rfl⟩)
  obtain ⟨W8, hW8⟩ : ∃ W8, (W7.alloc (.cells #[.slice (some ⟨rb, 0, none⟩) N N] 64)).alloc (.cells #[.slice (some ⟨tb, 0, none⟩) h ct] 64) = W8 := ⟨_, rfl⟩
  have hb8 : Below W7.heap.size W7 W8 := by rw [← hW8]; exact ((Below.refl _ _).alloc (Nat.le_refl _) _).alloc (by simp) _
  have hx0 : Boxed W8 W7.heap.size 64 (.slice (some ⟨rb, 0, none⟩) N N) := by rw [← hW8]; exact (Boxed.new W7 _ _).alloc _
  have hx1 : Boxed W8 (W7.heap.size + 1) 64 (.slice (some ⟨tb, 0, none⟩) (lensT T).length ct) := by
    rw [← hW8, lensT_len, HH.out]
    have := Boxed.new (W7.alloc (.cells #[.slice (some ⟨rb, 0, none⟩) N N] 64)) 64 (.slice (some ⟨tb, 0, none⟩) h ct)
    rw [World.size_alloc] at this
    exact this
  have hs8 : W8.heap.size = W7.heap.size + 2 := by rw [← hW8]; simp
  have HX0 := Lib.hid hx0
  have HM8 := Lib.hid (HM7.out.below hb8)
  have HB8 := Lib.hid (HB7.out.trans (hb8.mono (by omega)))
  have HBX8 := Lib.hid (HBX7.out.below hb8 (by have := HRB.out; omega))
  have HBH8 := Lib.hid (show Boxed W8 (w.heap.size + 5) 3 (.int .i64 (h : Int)) from (hb8.block _ (by have := HRB.out; omega)).trans HBH7.out)
  have hgl : ∀ u, u < N → rb ≤ g u ∧ g u < W7.heap.size := fun u hu => ⟨HM7.out.low u (by rw [blank_len]; exact hu), HM7.out.lt (by rw [blank_len]; exact hu)⟩
  have HGL := Lib.hid hgl
  have hH := tab_headsT (HR.out.keep HB8.out (Nat.le_refl _))
  obtain ⟨xb, hxb⟩ : ∃ xb, W7.heap.size = xb := ⟨_, rfl⟩
  have HXB := Lib.hid hxb
  rw [hW8]
  rw [hxb] at HX0 HGL hs8 hx1 hlt7 hs7 ⊢
  clear hW8 hx0 hgl hct7 hch7 hb8 hrow0 hxb
  refine (wpIn_wide (n := 10)).1 ?_
  refine wpIn_rangeFunc_ownG (F := Fence.wide) (n := 10) rfl (by omega) (gf := 118) (lb := #[.pointer (some ⟨xb + 1, 0, none⟩)]) rfl trivial (enters_of Tryz.func118 (by kernel_rfl) rfl)
    (cells_stops Fence.wide 9 trivial rfl (by omega) (xb + 1) (some ⟨tb, 0, none⟩) tb 0 ct (lensT T) (by rw [lensT_len, HH.out]; omega) (Below w.heap.size) (fun A B k o _ => k.cell (p := ⟨tb, o, none⟩) hbt) (fun A => Below.refl _ A) (fun A B C k k' => k.trans k') W8 (by omega) (fun _ => by have := HB8.out.size; omega) hx1.cell hH) belowK_t (belowK_b (by have := HB8.out.size; omega)) (Below.refl _ _) (fun _ => rfl)
    (fun pre W => ShI T M h N i j raise w (.slice (some ⟨tb, 0, none⟩) h ct) (.slice (some ⟨mb, 0, none⟩) h cm) rb xb g (Pos.vals pre) W) (fun _ _ _ => False) ?own (fun _ _ _ _ _ hs _ _ => hs) ?start
    (fun x => { tmps := #[.slice (some ⟨tb, 0, none⟩) h ct, .slice (some ⟨mb, 0, none⟩) h cm, .int .i64 (i : Int), .int .i64 (j : Int), .bool raise, .pointer (some ⟨w.heap.size, 0, none⟩), .pointer (some ⟨w.heap.size + 1, 0, none⟩), .pointer (some ⟨w.heap.size + 1 + 1, 0, none⟩), .pointer (some ⟨w.heap.size + 1 + 1 + 1, 0, none⟩), .pointer (some ⟨w.heap.size + 1 + 1 + 1 + 1, 0, none⟩), .int .i64 0, .pointer (some ⟨w.heap.size + 5, 0, none⟩), .int .i64 (q : Int), .pointer (some ⟨xb, 0, none⟩), .int .i64 (x.1.1 : Int), .int .i64 (x.1.2 : Int), undef, undef, undef, undef, undef, undef, undef, .slice (some ⟨tb, 0, none⟩) h ct, .int .i64 (h : Int), .slice (some ⟨tb, 0, none⟩) h ct, .pointer (some ⟨tb, 0, none⟩), .slice a0 q c0, .int .i64 (q : Int), .int .i64 (h : Int), .int .i64 (q : Int), .int .i64 (N : Int), .int .i64 (h : Int), .int .i64 (q : Int), .int .i64 (N : Int), .slice (some ⟨rb, 0, none⟩) N N, .slice (some ⟨tb, 0, none⟩) h ct, .func (.func 118) #[] #[.pointer (some ⟨xb + 1, 0, none⟩)], .int .i64 (x.1.1 : Int), .int .i64 (x.1.2 : Int), undef, undef, undef, undef, undef, undef, undef, undef, undef, undef, undef, undef, undef, undef, undef, undef, undef, undef, undef, undef, undef, undef, undef, undef, undef, undef, undef, undef, undef, undef, undef, undef, undef, undef, undef, undef, undef, undef, undef, undef, undef, undef, undef, undef, undef, undef, undef, undef, undef, undef, undef, undef, undef, undef, undef, undef, undef, undef, undef, undef, undef, undef, undef, undef, undef, undef, undef, undef, undef, undef, undef, undef, undef, undef, undef, undef, undef, undef, undef, undef, undef, undef, undef, undef, undef, undef, undef, undef, undef, undef, undef, undef, undef, undef, undef, undef, undef, undef, undef, undef, undef, undef, undef, undef, undef, undef, undef, undef, undef, undef, undef, undef, undef, undef, undef, undef, undef, undef, undef, undef, undef, undef, undef, undef, undef, undef, undef, undef, undef, undef, undef, undef, undef, undef], defers := [] }) ?assign ?body ?done ?stop
  case own =>
    rintro s A C row ⟨hm, ⟨q1, q2, q3, q4, q5⟩, q6, q7, hbl⟩ hgr hr
    have hr' : ∀ r, row = some r → ∃ o : Obj, A.heap[r]? = some o ∧ o.isCells = false := fun r e => (hr r e).2
    have hk : ∀ (b : Nat) (t : TypeId) (v : Value), Boxed A b t v → some b ≠ row := fun b t v hb e' => by
      obtain ⟨o, ho, hc⟩ := hr' b e'.symm
      rw [show A.heap[b]? = _ from hb] at ho; cases ho; cases hc
    exact ⟨hm.keptO hgr hr', ⟨q1.kept hgr (hk _ _ _ q1), q2.kept hgr (hk _ _ _ q2), q3.kept hgr (hk _ _ _ q3), q4.kept hgr (hk _ _ _ q4), q5.kept hgr (hk _ _ _ q5)⟩, q6.kept hgr (hk _ _ _ q6), q7.kept hgr (hk _ _ _ q7), ownFrom_below (β := Unit) (Nat.le_refl _) (by have := HB8.out.size; omega) () A C row hbl hgr hr⟩
  case start =>
    refine ⟨?_, HBX8.out, HBH8.out, HX0.out, HB8.out⟩
    rw [show Pos.vals ([] : List (Pos (lensT T))) = [] from rfl, grid_congr (g := fun _ _ => 0) (fun u v _ _ => shF_nil T M h i j raise u v), ← grid_blank]
    exact HM8.out
  case assign =>
    intro l x W K hK
    gi_wp2
    exact hK
  case body =>
    rintro lp pre ⟨⟨k, l⟩, hk, hl⟩ W ⟨hm, hsb, hbh, hxr, hbl⟩ -
    have hpos := pos_lens HV.out ⟨(k, l), hk, hl⟩
    simp only at hpos
    rw [HH.out, HQ.out] at hpos
    obtain ⟨hk', hl'⟩ := hpos
    have HMW := Lib.hid hm
    have HBL := Lib.hid hbl
    have HSB := Lib.hid hsb
    have HBH := Lib.hid hbh
    have HXR := Lib.hid hxr
    -- the flag
    obtain ⟨ma, mbb, mo, mc, hmr, hme, hmc, -⟩ := (HMK.out.keep hbl (Nat.le_refl _)).2 k (by rw [HF.out.1, HH.out]; exact hk')
    have hmlen : (M.getD k []).length = q := by rw [HF.out.2 k (by rw [HH.out]; exact hk'), HQ.out]
    rw [hmlen, Nat.zero_add] at hmr
    rw [hmlen] at hmc
    obtain rfl := hme.1 (by rw [hmlen]; omega)
    have hfl := hme.2 l (by rw [hmlen]; exact hl')
    obtain ⟨fl, hfe⟩ : ∃ fl, (M.getD k []).getD l false = fl := ⟨_, rfl⟩
    rw [hfe] at hfl
    have HFL := Lib.hid (show flagM M k l = fl from hfe)
    have hcm := hsb.2.1.cell
    have hci := hsb.2.2.1.cell
    have hcj := hsb.2.2.2.1.cell
    have hcr := hsb.2.2.2.2.cell
    have hct := hsb.1.cell
    have hki : (k : Int) < (h : Int) := by omega
    have hli : (l : Int) < (q : Int) := by omega
    clear hm hsb hbh hxr hbl hmlen hfe hH hme
    have SKIP : Hid (flagM M k l = false ∨ (k = i ∧ l = j) → ShI T M h N i j raise w (.slice (some ⟨tb, 0, none⟩) h ct) (.slice (some ⟨mb, 0, none⟩) h cm) rb xb g (Pos.vals (pre ++ [⟨(k, l), hk, hl⟩])) W) := Lib.hid fun hs => by
      refine ⟨?_, HSB.out, HBH.out, HXR.out, HBL.out⟩
      rw [Pos.vals_snoc, grid_congr fun u v _ _ => shF_skip hs u v]
      exact HMW.out
    cases fl with
    | false =>
      gi_wp2
      exact ⟨KeepsFrom.refl _ _, Below.refl _ _, SKIP.out (.inl HFL.out)⟩
    | true =>
      by_cases hkk : k = i ∧ l = j
      · have h1 : ((k : Int) == (i : Int)) = true := by simp [hkk.1]
        have h2 : ((l : Int) == (j : Int)) = true := by simp [hkk.2]
        have HKK := Lib.hid hkk
        clear hkk
        gi_wp2
        exact ⟨KeepsFrom.refl _ _, Below.refl _ _, SKIP.out (.inr HKK.out)⟩
      · have HKK := Lib.hid hkk
        obtain ⟨v, hv⟩ : ∃ v, h + l = v := ⟨_, rfl⟩
        have hvN : v < N := by have := HN.out; omega
        have hkN : k < N := by have := HN.out; omega
        have hkNi : (k : Int) < (N : Int) := by omega
        have hvNi : (v : Int) < (N : Int) := by omega
        have hwr : IntKind.i64.wrap ((h : Int) + (l : Int)) = (v : Int) := by rw [IntWalk.i64_in _ ⟨by omega, by omega⟩]; omega
        have HVE := Lib.hid hv
        have hkv : k ≠ v := by omega
        obtain ⟨ra, rbb, ro, rc, hrw, hre, hrc, -⟩ := (HR.out.keep HBL.out (Nat.le_refl _)).2 k (by rw [HH.out]; exact hk')
        have hrl : (T.getD k []).length = q := by rw [((tv_t.1 HV.out).2.2.2.2 k (by rw [HH.out]; exact hk')).1, HQ.out]
        rw [hrl, Nat.zero_add] at hrw
        rw [hrl] at hrc
        obtain rfl := hre.1 (by rw [hrl]; omega)
        have hrx := hre.2 l (by rw [hrl]; exact hl')
        obtain ⟨x, hx⟩ : ∃ x, (T.getD k []).getD l 0 = x := ⟨_, rfl⟩
        rw [hx] at hrx
        have HXE := Lib.hid (show cellT T k l = x from hx)
        obtain ⟨c1, hrk, -, hqc1, -, -, -, -⟩ := HMW.out.at_ (i := k) (by rw [grid_len]; exact hkN)
        obtain ⟨c2, hrv, -, hqc2, -, -, -, -⟩ := HMW.out.at_ (i := v) (by rw [grid_len]; exact hvN)
        rw [grid_row _ hkN] at hrk hqc1
        rw [grid_row _ hvN] at hrv hqc2
        obtain ⟨e1, e2⟩ := HMW.out.elt (i := k) (j := v) (by rw [grid_len]; exact hkN) (grid_get _ hkN hvN)
        obtain ⟨e3, e4⟩ := HMW.out.elt (i := v) (j := k) (by rw [grid_len]; exact hvN) (grid_get _ hvN hkN)
        have HTK := Lib.hid (HMW.out.tb_ne (by decide) (i := k) (by rw [grid_len]; exact hkN))
        have HTV := Lib.hid (HMW.out.tb_ne (by decide) (i := v) (by rw [grid_len]; exact hvN))
        have hgk := HGL.out k hkN
        have hgv := HGL.out v hvN
        have HINJ := Lib.hid (show g k ≠ g v from fun e => hkv (HMW.out.inj k v (by rw [grid_len]; exact hkN) (by rw [grid_len]; exact hvN) e))
        have NEW : Hid (∀ a b : Int, a = (if raise then x else 3168) → b = (if raise then 3168 else x) → ∀ V : World, V = ((W.setCell ⟨g k, v, none⟩ (.int .i64 a)).setCell ⟨g v, k, none⟩ (.int .i64 b)).drew →
            KeepsFrom W8.heap.size W V ∧ Below w.heap.size W V ∧ ShI T M h N i j raise w (.slice (some ⟨tb, 0, none⟩) h ct) (.slice (some ⟨mb, 0, none⟩) h cm) rb xb g (Pos.vals (pre ++ [⟨(k, l), hk, hl⟩])) V) := Lib.hid fun a b ha hb V hV => by
          subst hV
          have hrbw := HRB.out
          have hbb : Below (w.heap.size + 6) W ((W.setCell ⟨g k, v, none⟩ (.int .i64 a)).setCell ⟨g v, k, none⟩ (.int .i64 b)).drew := (((Below.refl _ W).setCell (p := ⟨g k, v, none⟩) (by simp only; omega) _).setCell (p := ⟨g v, k, none⟩) (by simp only; omega) _).drew
          have hblk : ∀ z, z ≠ g k → z ≠ g v → ((W.setCell ⟨g k, v, none⟩ (.int .i64 a)).setCell ⟨g v, k, none⟩ (.int .i64 b)).drew.heap[z]? = W.heap[z]? := fun z h1 h2 => (Below.heap_setCell _ ⟨g v, k, none⟩ _ z h2).trans (Below.heap_setCell _ ⟨g k, v, none⟩ _ z h1)
          refine ⟨(((KeepsOthers.setCell W ⟨g k, v, none⟩ (.int .i64 a)).trans (KeepsOthers.setCell _ ⟨g v, k, none⟩ (.int .i64 b))).trans (KeepsOthers.drew _)).from _, hbb.mono (by omega), ?_, HSB.out.below hbb (by omega), (hbb.block _ (by omega)).trans HBH.out, (hblk xb (by omega) (by omega)).trans HXR.out, HBL.out.trans (hbb.mono (by omega))⟩
          rw [Pos.vals_snoc]
          have hp1 := HMW.out.put (by decide) (i := k) (j := v) (by rw [grid_len]; exact hkN) (by rw [grid_row _ hkN]; exact hvN) a
          have hp2 := hp1.put (by decide) (i := v) (j := k) (by rw [List.length_set, grid_len]; exact hvN) (by rw [getD_set _ _ _ _ _ (by rw [grid_len]; exact hkN), if_neg (fun e => hkv e.symm), grid_row _ hvN]; exact hkN) b
          have hg := grid2 (N := N) (shF T M h i j raise (Pos.vals pre)) hkN hvN a b
          unfold putC at hg
          rw [hg] at hp2
          have hc := grid_congr (N := N) (f := shF T M h i j raise (Pos.vals pre ++ [(k, l)])) (g := fun x y => if x = v ∧ y = k then b else if x = k ∧ y = v then a else shF T M h i j raise (Pos.vals pre) x y) (fun u y _ _ => by
            rw [shF_set hk' HFL.out HKK.out, HVE.out, HXE.out, ha, hb])
          show MtI _ _ _ (gridF N (shF T M h i j raise (Pos.vals pre ++ [(k, l)]))) g
          rw [hc]
          exact hp2.below (Below.refl _ _).drew
        have hxc := HXR.out.cell
        have hhc := HBH.out.cell
        have hkk1 : ¬ (k = i ∧ l = j) := hkk
        have HRK := Lib.hid hrk
        have HRV := Lib.hid hrv
        obtain ⟨o1, ho1⟩ : ∃ o1, shF T M h i j raise (Pos.vals pre) k v = o1 := ⟨_, rfl⟩
        obtain ⟨o2, ho2⟩ : ∃ o2, shF T M h i j raise (Pos.vals pre) v k = o2 := ⟨_, rfl⟩
        rw [ho1] at e1
        rw [ho2] at e3
        have HE1 := Lib.hid e1
        have HE2 := Lib.hid e2
        have HE3 := Lib.hid e3
        have HE4 := Lib.hid e4
        clear ho1 ho2
        clear hkk hkk1 hrl hx hv hre e1 e2 e3 e4
        have hkcase : (((k : Int) == (i : Int)) = true ∧ ((l : Int) == (j : Int)) = false) ∨ ((k : Int) == (i : Int)) = false := by
          by_cases h1 : k = i
          · left
            exact ⟨by simp [h1], by have : l ≠ j := fun h2 => HKK.out ⟨h1, h2⟩; simp; omega⟩
          · right
            simp; omega
        cases raise with
        | true =>
          rcases hkcase with ⟨h1, h2⟩ | h1
          all_goals
            gi_wp2
            refine region_round (by kernel_rfl) (by kernel_rfl) (wpAny_of_held (S := (fun V => V.cell? ⟨xb, 0, none⟩ = some (.slice (some ⟨rb, 0, none⟩) N N) ∧ V.cell? ⟨w.heap.size + 5, 0, none⟩ = some (.int .i64 (h : Int)) ∧ V.cell? ⟨rb, k, none⟩ = some (.slice (some ⟨g k, 0, none⟩) N c1) ∧ V.cell? ⟨rb, v, none⟩ = some (.slice (some ⟨g v, 0, none⟩) N c2))) _ _ _ _ ?_)
            change wpAnyH _ _ _ _ _ _ _ _ W.drew
            have hS0 : W.drew.cell? ⟨xb, 0, none⟩ = some (.slice (some ⟨rb, 0, none⟩) N N) ∧ W.drew.cell? ⟨w.heap.size + 5, 0, none⟩ = some (.int .i64 (h : Int)) ∧ W.drew.cell? ⟨rb, k, none⟩ = some (.slice (some ⟨g k, 0, none⟩) N c1) ∧ W.drew.cell? ⟨rb, v, none⟩ = some (.slice (some ⟨g v, 0, none⟩) N c2) := ⟨hxc, hhc, HRK.out, HRV.out⟩
            refine wpAnyH_take (i := 0) (v := .slice (some ⟨rb, 0, none⟩) N N) rfl (by kernel_rfl) (by kernel_rfl) (by kernel_rfl) (fun _ _ _ h => h) (Or.inl ⟨by kernel_rfl, fun V hV => ?_⟩) hS0 ?_
            · obtain ⟨q0, q1, q2, q3⟩ := hV
              go_simp
            simp only [Act.put, List.setIfInBounds_toArray]
            refine wpAnyH_take (i := 1) (v := .int .i64 (k : Int)) rfl (by kernel_rfl) (by kernel_rfl) (by kernel_rfl) (fun _ _ _ h => h) (Or.inl ⟨by kernel_rfl, fun V hV => ?_⟩) hS0 ?_
            · obtain ⟨q0, q1, q2, q3⟩ := hV
              go_simp
            simp only [Act.put]
            refine wpAnyH_take (i := 2) (v := .pointer (some ⟨rb, k, none⟩)) rfl (by kernel_rfl) (by kernel_rfl) (by kernel_rfl) (fun _ _ _ h => h) (Or.inl ⟨by kernel_rfl, fun V hV => ?_⟩) hS0 ?_
            · obtain ⟨q0, q1, q2, q3⟩ := hV
              go_simp
            simp only [Act.put]
            refine wpAnyH_take (i := 3) (v := .slice (some ⟨g k, 0, none⟩) N c1) rfl (by kernel_rfl) (by kernel_rfl) (by kernel_rfl) (fun _ _ _ h => h) (Or.inl ⟨by kernel_rfl, fun V hV => ?_⟩) hS0 ?_
            · obtain ⟨q0, q1, q2, q3⟩ := hV
              go_simp
            simp only [Act.put]
            refine wpAnyH_take (i := 4) (v := .int .i64 (h : Int)) rfl (by kernel_rfl) (by kernel_rfl) (by kernel_rfl) (fun _ _ _ h => h) (Or.inl ⟨by kernel_rfl, fun V hV => ?_⟩) hS0 ?_
            · obtain ⟨q0, q1, q2, q3⟩ := hV
              go_simp
            simp only [Act.put]
            refine wpAnyH_take (i := 5) (v := .int .i64 (l : Int)) rfl (by kernel_rfl) (by kernel_rfl) (by kernel_rfl) (fun _ _ _ h => h) (Or.inl ⟨by kernel_rfl, fun V hV => ?_⟩) hS0 ?_
            · obtain ⟨q0, q1, q2, q3⟩ := hV
              go_simp
            simp only [Act.put]
            refine wpAnyH_take (i := 6) (v := .int .i64 (v : Int)) rfl (by kernel_rfl) (by kernel_rfl) (by kernel_rfl) (fun _ _ _ h => h) (Or.inl ⟨by kernel_rfl, fun V hV => ?_⟩) hS0 ?_
            · obtain ⟨q0, q1, q2, q3⟩ := hV
              go_simp
            simp only [Act.put]
            refine wpAnyH_take (i := 7) (v := .slice (some ⟨rb, 0, none⟩) N N) rfl (by kernel_rfl) (by kernel_rfl) (by kernel_rfl) (fun _ _ _ h => h) (Or.inl ⟨by kernel_rfl, fun V hV => ?_⟩) hS0 ?_
            · obtain ⟨q0, q1, q2, q3⟩ := hV
              go_simp
            simp only [Act.put]
            refine wpAnyH_take (i := 8) (v := .int .i64 (h : Int)) rfl (by kernel_rfl) (by kernel_rfl) (by kernel_rfl) (fun _ _ _ h => h) (Or.inl ⟨by kernel_rfl, fun V hV => ?_⟩) hS0 ?_
            · obtain ⟨q0, q1, q2, q3⟩ := hV
              go_simp
            simp only [Act.put]
            refine wpAnyH_take (i := 9) (v := .int .i64 (l : Int)) rfl (by kernel_rfl) (by kernel_rfl) (by kernel_rfl) (fun _ _ _ h => h) (Or.inl ⟨by kernel_rfl, fun V hV => ?_⟩) hS0 ?_
            · obtain ⟨q0, q1, q2, q3⟩ := hV
              go_simp
            simp only [Act.put]
            refine wpAnyH_take (i := 10) (v := .int .i64 (v : Int)) rfl (by kernel_rfl) (by kernel_rfl) (by kernel_rfl) (fun _ _ _ h => h) (Or.inl ⟨by kernel_rfl, fun V hV => ?_⟩) hS0 ?_
            · obtain ⟨q0, q1, q2, q3⟩ := hV
              go_simp
            simp only [Act.put]
            refine wpAnyH_take (i := 11) (v := .pointer (some ⟨rb, v, none⟩)) rfl (by kernel_rfl) (by kernel_rfl) (by kernel_rfl) (fun _ _ _ h => h) (Or.inl ⟨by kernel_rfl, fun V hV => ?_⟩) hS0 ?_
            · obtain ⟨q0, q1, q2, q3⟩ := hV
              go_simp
            simp only [Act.put]
            refine wpAnyH_take (i := 12) (v := .slice (some ⟨g v, 0, none⟩) N c2) rfl (by kernel_rfl) (by kernel_rfl) (by kernel_rfl) (fun _ _ _ h => h) (Or.inl ⟨by kernel_rfl, fun V hV => ?_⟩) hS0 ?_
            · obtain ⟨q0, q1, q2, q3⟩ := hV
              go_simp
            simp only [Act.put]
            refine wpAnyH_take (i := 13) (v := .int .i64 (k : Int)) rfl (by kernel_rfl) (by kernel_rfl) (by kernel_rfl) (fun _ _ _ h => h) (Or.inl ⟨by kernel_rfl, fun V hV => ?_⟩) hS0 ?_
            · obtain ⟨q0, q1, q2, q3⟩ := hV
              go_simp
            simp only [Act.put]
            refine wpAnyH_take (i := 14) (v := .int .i64 x) rfl (by kernel_rfl) (by kernel_rfl) (by kernel_rfl) (fun _ _ _ h => h) (Or.inl ⟨by kernel_rfl, fun V hV => ?_⟩) hS0 ?_
            · obtain ⟨q0, q1, q2, q3⟩ := hV
              go_simp
            simp only [Act.put]
            refine wpAnyH_take (i := 15) (v := .int .i64 3168) rfl (by kernel_rfl) (by kernel_rfl) (by kernel_rfl) (fun _ _ _ h => h) (Or.inl ⟨by kernel_rfl, fun V hV => ?_⟩) hS0 ?_
            · obtain ⟨q0, q1, q2, q3⟩ := hV
              go_simp
            simp only [Act.put]
            refine wpAnyH_take (i := 16) (v := .pointer (some ⟨g k, v, none⟩)) rfl (by kernel_rfl) (by kernel_rfl) (by kernel_rfl) (fun _ _ _ h => h) (Or.inl ⟨by kernel_rfl, fun V hV => ?_⟩) hS0 ?_
            · obtain ⟨q0, q1, q2, q3⟩ := hV
              go_simp
            simp only [Act.put]
            have e1' : W.drew.cell? ⟨g k, v, none⟩ = some (.int .i64 o1) := HE1.out
            have e2' : W.drew.frozen? ⟨g k, v, none⟩ = false := HE2.out
            have hbk : ∀ z, z ≠ g k → ((W.setCell ⟨g k, v, none⟩ (.int .i64 x)).drew).heap[z]? = W.heap[z]? := fun z h1 => Below.heap_setCell W ⟨g k, v, none⟩ _ z h1
            have hrbw := HRB.out
            have hS1 : (W.setCell ⟨g k, v, none⟩ (.int .i64 x)).drew.cell? ⟨xb, 0, none⟩ = some (.slice (some ⟨rb, 0, none⟩) N N) ∧ (W.setCell ⟨g k, v, none⟩ (.int .i64 x)).drew.cell? ⟨w.heap.size + 5, 0, none⟩ = some (.int .i64 (h : Int)) ∧ (W.setCell ⟨g k, v, none⟩ (.int .i64 x)).drew.cell? ⟨rb, k, none⟩ = some (.slice (some ⟨g k, 0, none⟩) N c1) ∧ (W.setCell ⟨g k, v, none⟩ (.int .i64 x)).drew.cell? ⟨rb, v, none⟩ = some (.slice (some ⟨g v, 0, none⟩) N c2) := ⟨(World.cell?_of_block (hbk xb (by omega))).trans hxc, (World.cell?_of_block (hbk (w.heap.size + 5) (by omega))).trans hhc, (World.cell?_of_block (hbk rb HTK.out)).trans HRK.out, (World.cell?_of_block (hbk rb HTK.out)).trans HRV.out⟩
            refine wpAnyH_ready (rs := [17]) (by kernel_rfl) (by simp) ?_
            refine AllReadyH.cons rfl (fun K hK => ?_) AllReadyH.nil
            go_simp
            refine hK.out _ _ hS1 (fun _ => ?_)
            try simp only [Act.put, List.setIfInBounds_toArray, List.set_cons_zero, List.set_cons_succ]
            clear hK K
            refine wpAnyH_take (i := 18) (v := .pointer (some ⟨g v, k, none⟩)) rfl (by kernel_rfl) (by kernel_rfl) (by kernel_rfl) (fun _ _ _ h => h) (Or.inl ⟨by kernel_rfl, fun V hV => ?_⟩) hS1 ?_
            · obtain ⟨q0, q1, q2, q3⟩ := hV
              go_simp
            simp only [Act.put, List.setIfInBounds_toArray]
            clear e1' e2'
            have e3' : ((W.setCell ⟨g k, v, none⟩ (.int .i64 x)).drew).cell? ⟨g v, k, none⟩ = some (.int .i64 o2) := (World.cell?_of_block (hbk (g v) (fun e => HINJ.out e.symm))).trans HE3.out
            have e4' : ((W.setCell ⟨g k, v, none⟩ (.int .i64 x)).drew).frozen? ⟨g v, k, none⟩ = false := (World.frozen?_of_block (hbk (g v) (fun e => HINJ.out e.symm))).trans HE4.out
            have hbk2 : ∀ z, z ≠ g k → z ≠ g v → (((W.setCell ⟨g k, v, none⟩ (.int .i64 x)).setCell ⟨g v, k, none⟩ (.int .i64 3168)).drew).heap[z]? = W.heap[z]? := fun z h1 h2 => (Below.heap_setCell _ ⟨g v, k, none⟩ _ z h2).trans (Below.heap_setCell W ⟨g k, v, none⟩ _ z h1)
            have hS2 : ((W.setCell ⟨g k, v, none⟩ (.int .i64 x)).setCell ⟨g v, k, none⟩ (.int .i64 3168)).drew.cell? ⟨xb, 0, none⟩ = some (.slice (some ⟨rb, 0, none⟩) N N) ∧ ((W.setCell ⟨g k, v, none⟩ (.int .i64 x)).setCell ⟨g v, k, none⟩ (.int .i64 3168)).drew.cell? ⟨w.heap.size + 5, 0, none⟩ = some (.int .i64 (h : Int)) ∧ ((W.setCell ⟨g k, v, none⟩ (.int .i64 x)).setCell ⟨g v, k, none⟩ (.int .i64 3168)).drew.cell? ⟨rb, k, none⟩ = some (.slice (some ⟨g k, 0, none⟩) N c1) ∧ ((W.setCell ⟨g k, v, none⟩ (.int .i64 x)).setCell ⟨g v, k, none⟩ (.int .i64 3168)).drew.cell? ⟨rb, v, none⟩ = some (.slice (some ⟨g v, 0, none⟩) N c2) := ⟨(World.cell?_of_block (hbk2 xb (by omega) (by omega))).trans hxc, (World.cell?_of_block (hbk2 (w.heap.size + 5) (by omega) (by omega))).trans hhc, (World.cell?_of_block (hbk2 rb HTK.out HTV.out)).trans HRK.out, (World.cell?_of_block (hbk2 rb HTK.out HTV.out)).trans HRV.out⟩
            refine wpAnyH_ready (rs := [19]) (by kernel_rfl) (by simp) ?_
            refine AllReadyH.cons rfl (fun K hK => ?_) AllReadyH.nil
            go_simp
            refine hK.out _ _ hS2 (fun _ => ?_)
            try simp only [Act.put, List.setIfInBounds_toArray, List.set_cons_zero, List.set_cons_succ]
            clear hK K
            refine wpAnyH_done (by kernel_rfl) ?_ _
            exact NEW.out x 3168 rfl rfl _ rfl
        | false =>
          rcases hkcase with ⟨h1, h2⟩ | h1
          all_goals
            gi_wp2
            refine region_round (by kernel_rfl) (by kernel_rfl) (wpAny_of_held (S := (fun V => V.cell? ⟨xb, 0, none⟩ = some (.slice (some ⟨rb, 0, none⟩) N N) ∧ V.cell? ⟨w.heap.size + 5, 0, none⟩ = some (.int .i64 (h : Int)) ∧ V.cell? ⟨rb, k, none⟩ = some (.slice (some ⟨g k, 0, none⟩) N c1) ∧ V.cell? ⟨rb, v, none⟩ = some (.slice (some ⟨g v, 0, none⟩) N c2))) _ _ _ _ ?_)
            change wpAnyH _ _ _ _ _ _ _ _ W.drew
            have hS0 : W.drew.cell? ⟨xb, 0, none⟩ = some (.slice (some ⟨rb, 0, none⟩) N N) ∧ W.drew.cell? ⟨w.heap.size + 5, 0, none⟩ = some (.int .i64 (h : Int)) ∧ W.drew.cell? ⟨rb, k, none⟩ = some (.slice (some ⟨g k, 0, none⟩) N c1) ∧ W.drew.cell? ⟨rb, v, none⟩ = some (.slice (some ⟨g v, 0, none⟩) N c2) := ⟨hxc, hhc, HRK.out, HRV.out⟩
            refine wpAnyH_take (i := 0) (v := .slice (some ⟨rb, 0, none⟩) N N) rfl (by kernel_rfl) (by kernel_rfl) (by kernel_rfl) (fun _ _ _ h => h) (Or.inl ⟨by kernel_rfl, fun V hV => ?_⟩) hS0 ?_
            · obtain ⟨q0, q1, q2, q3⟩ := hV
              go_simp
            simp only [Act.put, List.setIfInBounds_toArray]
            refine wpAnyH_take (i := 1) (v := .int .i64 (k : Int)) rfl (by kernel_rfl) (by kernel_rfl) (by kernel_rfl) (fun _ _ _ h => h) (Or.inl ⟨by kernel_rfl, fun V hV => ?_⟩) hS0 ?_
            · obtain ⟨q0, q1, q2, q3⟩ := hV
              go_simp
            simp only [Act.put]
            refine wpAnyH_take (i := 2) (v := .pointer (some ⟨rb, k, none⟩)) rfl (by kernel_rfl) (by kernel_rfl) (by kernel_rfl) (fun _ _ _ h => h) (Or.inl ⟨by kernel_rfl, fun V hV => ?_⟩) hS0 ?_
            · obtain ⟨q0, q1, q2, q3⟩ := hV
              go_simp
            simp only [Act.put]
            refine wpAnyH_take (i := 3) (v := .slice (some ⟨g k, 0, none⟩) N c1) rfl (by kernel_rfl) (by kernel_rfl) (by kernel_rfl) (fun _ _ _ h => h) (Or.inl ⟨by kernel_rfl, fun V hV => ?_⟩) hS0 ?_
            · obtain ⟨q0, q1, q2, q3⟩ := hV
              go_simp
            simp only [Act.put]
            refine wpAnyH_take (i := 4) (v := .int .i64 (h : Int)) rfl (by kernel_rfl) (by kernel_rfl) (by kernel_rfl) (fun _ _ _ h => h) (Or.inl ⟨by kernel_rfl, fun V hV => ?_⟩) hS0 ?_
            · obtain ⟨q0, q1, q2, q3⟩ := hV
              go_simp
            simp only [Act.put]
            refine wpAnyH_take (i := 5) (v := .int .i64 (l : Int)) rfl (by kernel_rfl) (by kernel_rfl) (by kernel_rfl) (fun _ _ _ h => h) (Or.inl ⟨by kernel_rfl, fun V hV => ?_⟩) hS0 ?_
            · obtain ⟨q0, q1, q2, q3⟩ := hV
              go_simp
            simp only [Act.put]
            refine wpAnyH_take (i := 6) (v := .int .i64 (v : Int)) rfl (by kernel_rfl) (by kernel_rfl) (by kernel_rfl) (fun _ _ _ h => h) (Or.inl ⟨by kernel_rfl, fun V hV => ?_⟩) hS0 ?_
            · obtain ⟨q0, q1, q2, q3⟩ := hV
              go_simp
            simp only [Act.put]
            refine wpAnyH_take (i := 7) (v := .slice (some ⟨rb, 0, none⟩) N N) rfl (by kernel_rfl) (by kernel_rfl) (by kernel_rfl) (fun _ _ _ h => h) (Or.inl ⟨by kernel_rfl, fun V hV => ?_⟩) hS0 ?_
            · obtain ⟨q0, q1, q2, q3⟩ := hV
              go_simp
            simp only [Act.put]
            refine wpAnyH_take (i := 8) (v := .int .i64 (h : Int)) rfl (by kernel_rfl) (by kernel_rfl) (by kernel_rfl) (fun _ _ _ h => h) (Or.inl ⟨by kernel_rfl, fun V hV => ?_⟩) hS0 ?_
            · obtain ⟨q0, q1, q2, q3⟩ := hV
              go_simp
            simp only [Act.put]
            refine wpAnyH_take (i := 9) (v := .int .i64 (l : Int)) rfl (by kernel_rfl) (by kernel_rfl) (by kernel_rfl) (fun _ _ _ h => h) (Or.inl ⟨by kernel_rfl, fun V hV => ?_⟩) hS0 ?_
            · obtain ⟨q0, q1, q2, q3⟩ := hV
              go_simp
            simp only [Act.put]
            refine wpAnyH_take (i := 10) (v := .int .i64 (v : Int)) rfl (by kernel_rfl) (by kernel_rfl) (by kernel_rfl) (fun _ _ _ h => h) (Or.inl ⟨by kernel_rfl, fun V hV => ?_⟩) hS0 ?_
            · obtain ⟨q0, q1, q2, q3⟩ := hV
              go_simp
            simp only [Act.put]
            refine wpAnyH_take (i := 11) (v := .pointer (some ⟨rb, v, none⟩)) rfl (by kernel_rfl) (by kernel_rfl) (by kernel_rfl) (fun _ _ _ h => h) (Or.inl ⟨by kernel_rfl, fun V hV => ?_⟩) hS0 ?_
            · obtain ⟨q0, q1, q2, q3⟩ := hV
              go_simp
            simp only [Act.put]
            refine wpAnyH_take (i := 12) (v := .slice (some ⟨g v, 0, none⟩) N c2) rfl (by kernel_rfl) (by kernel_rfl) (by kernel_rfl) (fun _ _ _ h => h) (Or.inl ⟨by kernel_rfl, fun V hV => ?_⟩) hS0 ?_
            · obtain ⟨q0, q1, q2, q3⟩ := hV
              go_simp
            simp only [Act.put]
            refine wpAnyH_take (i := 13) (v := .int .i64 (k : Int)) rfl (by kernel_rfl) (by kernel_rfl) (by kernel_rfl) (fun _ _ _ h => h) (Or.inl ⟨by kernel_rfl, fun V hV => ?_⟩) hS0 ?_
            · obtain ⟨q0, q1, q2, q3⟩ := hV
              go_simp
            simp only [Act.put]
            refine wpAnyH_take (i := 14) (v := .int .i64 3168) rfl (by kernel_rfl) (by kernel_rfl) (by kernel_rfl) (fun _ _ _ h => h) (Or.inl ⟨by kernel_rfl, fun V hV => ?_⟩) hS0 ?_
            · obtain ⟨q0, q1, q2, q3⟩ := hV
              go_simp
            simp only [Act.put]
            refine wpAnyH_take (i := 15) (v := .int .i64 x) rfl (by kernel_rfl) (by kernel_rfl) (by kernel_rfl) (fun _ _ _ h => h) (Or.inl ⟨by kernel_rfl, fun V hV => ?_⟩) hS0 ?_
            · obtain ⟨q0, q1, q2, q3⟩ := hV
              go_simp
            simp only [Act.put]
            refine wpAnyH_take (i := 16) (v := .pointer (some ⟨g k, v, none⟩)) rfl (by kernel_rfl) (by kernel_rfl) (by kernel_rfl) (fun _ _ _ h => h) (Or.inl ⟨by kernel_rfl, fun V hV => ?_⟩) hS0 ?_
            · obtain ⟨q0, q1, q2, q3⟩ := hV
              go_simp
            simp only [Act.put]
            have e1' : W.drew.cell? ⟨g k, v, none⟩ = some (.int .i64 o1) := HE1.out
            have e2' : W.drew.frozen? ⟨g k, v, none⟩ = false := HE2.out
            have hbk : ∀ z, z ≠ g k → ((W.setCell ⟨g k, v, none⟩ (.int .i64 3168)).drew).heap[z]? = W.heap[z]? := fun z h1 => Below.heap_setCell W ⟨g k, v, none⟩ _ z h1
            have hrbw := HRB.out
            have hS1 : (W.setCell ⟨g k, v, none⟩ (.int .i64 3168)).drew.cell? ⟨xb, 0, none⟩ = some (.slice (some ⟨rb, 0, none⟩) N N) ∧ (W.setCell ⟨g k, v, none⟩ (.int .i64 3168)).drew.cell? ⟨w.heap.size + 5, 0, none⟩ = some (.int .i64 (h : Int)) ∧ (W.setCell ⟨g k, v, none⟩ (.int .i64 3168)).drew.cell? ⟨rb, k, none⟩ = some (.slice (some ⟨g k, 0, none⟩) N c1) ∧ (W.setCell ⟨g k, v, none⟩ (.int .i64 3168)).drew.cell? ⟨rb, v, none⟩ = some (.slice (some ⟨g v, 0, none⟩) N c2) := ⟨(World.cell?_of_block (hbk xb (by omega))).trans hxc, (World.cell?_of_block (hbk (w.heap.size + 5) (by omega))).trans hhc, (World.cell?_of_block (hbk rb HTK.out)).trans HRK.out, (World.cell?_of_block (hbk rb HTK.out)).trans HRV.out⟩
            refine wpAnyH_ready (rs := [17]) (by kernel_rfl) (by simp) ?_
            refine AllReadyH.cons rfl (fun K hK => ?_) AllReadyH.nil
            go_simp
            refine hK.out _ _ hS1 (fun _ => ?_)
            try simp only [Act.put, List.setIfInBounds_toArray, List.set_cons_zero, List.set_cons_succ]
            clear hK K
            refine wpAnyH_take (i := 18) (v := .pointer (some ⟨g v, k, none⟩)) rfl (by kernel_rfl) (by kernel_rfl) (by kernel_rfl) (fun _ _ _ h => h) (Or.inl ⟨by kernel_rfl, fun V hV => ?_⟩) hS1 ?_
            · obtain ⟨q0, q1, q2, q3⟩ := hV
              go_simp
            simp only [Act.put, List.setIfInBounds_toArray]
            clear e1' e2'
            have e3' : ((W.setCell ⟨g k, v, none⟩ (.int .i64 3168)).drew).cell? ⟨g v, k, none⟩ = some (.int .i64 o2) := (World.cell?_of_block (hbk (g v) (fun e => HINJ.out e.symm))).trans HE3.out
            have e4' : ((W.setCell ⟨g k, v, none⟩ (.int .i64 3168)).drew).frozen? ⟨g v, k, none⟩ = false := (World.frozen?_of_block (hbk (g v) (fun e => HINJ.out e.symm))).trans HE4.out
            have hbk2 : ∀ z, z ≠ g k → z ≠ g v → (((W.setCell ⟨g k, v, none⟩ (.int .i64 3168)).setCell ⟨g v, k, none⟩ (.int .i64 x)).drew).heap[z]? = W.heap[z]? := fun z h1 h2 => (Below.heap_setCell _ ⟨g v, k, none⟩ _ z h2).trans (Below.heap_setCell W ⟨g k, v, none⟩ _ z h1)
            have hS2 : ((W.setCell ⟨g k, v, none⟩ (.int .i64 3168)).setCell ⟨g v, k, none⟩ (.int .i64 x)).drew.cell? ⟨xb, 0, none⟩ = some (.slice (some ⟨rb, 0, none⟩) N N) ∧ ((W.setCell ⟨g k, v, none⟩ (.int .i64 3168)).setCell ⟨g v, k, none⟩ (.int .i64 x)).drew.cell? ⟨w.heap.size + 5, 0, none⟩ = some (.int .i64 (h : Int)) ∧ ((W.setCell ⟨g k, v, none⟩ (.int .i64 3168)).setCell ⟨g v, k, none⟩ (.int .i64 x)).drew.cell? ⟨rb, k, none⟩ = some (.slice (some ⟨g k, 0, none⟩) N c1) ∧ ((W.setCell ⟨g k, v, none⟩ (.int .i64 3168)).setCell ⟨g v, k, none⟩ (.int .i64 x)).drew.cell? ⟨rb, v, none⟩ = some (.slice (some ⟨g v, 0, none⟩) N c2) := ⟨(World.cell?_of_block (hbk2 xb (by omega) (by omega))).trans hxc, (World.cell?_of_block (hbk2 (w.heap.size + 5) (by omega) (by omega))).trans hhc, (World.cell?_of_block (hbk2 rb HTK.out HTV.out)).trans HRK.out, (World.cell?_of_block (hbk2 rb HTK.out HTV.out)).trans HRV.out⟩
            refine wpAnyH_ready (rs := [19]) (by kernel_rfl) (by simp) ?_
            refine AllReadyH.cons rfl (fun K hK => ?_) AllReadyH.nil
            go_simp
            refine hK.out _ _ hS2 (fun _ => ?_)
            try simp only [Act.put, List.setIfInBounds_toArray, List.set_cons_zero, List.set_cons_succ]
            clear hK K
            refine wpAnyH_done (by kernel_rfl) ?_ _
            exact NEW.out 3168 x rfl rfl _ rfl
  case done =>
    rintro D ys W hD hys ⟨hm, hsb, hbh, hxr, hbl⟩ hK
    rw [hys] at hm
    have hrooms : Rooms h q i j (flagM M) (cellT T) raise (cellT T) (shF T M h i j raise (poss (lensT T))) := by
      have := shF_rooms (M := M) HV.out (i := i) (j := j) (raise := raise)
      rwa [HH.out, HQ.out] at this
    obtain ⟨hb0, hb99⟩ := tv_bounds HV.out
    rw [HH.out, HQ.out] at hb0 hb99
    have hEB := ext_bounds (M := M) HV.out (i := i) (j := j) (by rw [HH.out]; exact hi) (by rw [HQ.out]; exact hj) raise
    have hEX : IsExt h q i j (flagM M) (cellT T) raise (extM T M i j raise) := by
      have := Go.FlowMath.ext_is (m := flagM M) (t := cellT T) raise hi hj hb0 hb99
      unfold extM
      rw [HH.out, HQ.out]
      exact this
    have hcell := hb0 i hi j hj
    have hcell2 := hb99 i hi j hj
    obtain ⟨X, hX⟩ : ∃ X, extM T M i j raise = X := ⟨_, rfl⟩
    rw [hX] at hEB hEX
    obtain ⟨C, hC⟩ : ∃ C, cellT T i j = C := ⟨_, rfl⟩
    rw [hC] at hEB hcell hcell2
    have HCE := Lib.hid hC
    have HXX := Lib.hid hX
    have HEX := Lib.hid hEX
    have HB0 := Lib.hid hb0
    have HB99 := Lib.hid hb99
    obtain ⟨FM, hFM⟩ : ∃ FM : Nat, sg raise * X = sg raise * C + FM ∧ FM ≤ 2000 := by
      refine ⟨(sg raise * X - sg raise * C).toNat, ?_, ?_⟩
      · omega
      · cases raise <;> simp [sg] at hEB ⊢ <;> omega
    have HFM := Lib.hid hFM.1
    have hFM2 := hFM.2
    have HLEG := Lib.hid (Legal.self (i := i) (j := j) (m := flagM M) hb0)
    have HST := Lib.hid (show ShL h N i j raise w (.slice (some ⟨tb, 0, none⟩) h ct) (.slice (some ⟨mb, 0, none⟩) h cm) rb xb D g (shF T M h i j raise (poss (lensT T))) W from ⟨hm, hsb, hbh, hxr, hbl, hK⟩)
    have HRM := Lib.hid hrooms
    have hNh : h + q = N := HN.out
    have HNH := Lib.hid hNh
    have hrbw := HRB.out
    have hDx : w.heap.size + 6 ≤ D := by have := HB8.out.size; omega
    have HDX := Lib.hid hDx
    clear hm hsb hbh hxr hbl hK hrooms hb0 hb99 hEX hC hX hFM hys hNh hEB hrbw
    go_wp2_with fail
    go_loopg [18] FM (fun gq f wr => ∃ (x : Nat → Nat → Int) (F : Nat) (R : Nat → Nat → Int), f = .int .i64 (F : Int) ∧ gq + F = FM ∧ Legal h q i j (flagM M) (cellT T) x ∧ x i j = C + sg raise * (F : Int) ∧ Rooms h q i j (flagM M) (cellT T) raise x R ∧ ShL h N i j raise w (.slice (some ⟨tb, 0, none⟩) h ct) (.slice (some ⟨mb, 0, none⟩) h cm) rb xb D g R wr)
    case atStart => exact ⟨cellT T, 0, _, rfl, by omega, HLEG.out, by rw [HCE.out]; simp, HRM.out, HST.out⟩
    case round =>
      clear HST HRM HLEG
      obtain ⟨x, F, R, rfl, hgF, hleg, hxij, hrm, hst⟩ := hrel
      obtain ⟨G, hG⟩ : ∃ G, G = gk := ⟨_, rfl⟩
      have HGK := Lib.hid hG
      have HGF := Lib.hid hgF
      have HLEG := Lib.hid hleg
      have HXIJ := Lib.hid hxij
      have HRM := Lib.hid hrm
      have HST := Lib.hid hst
      have htab : Tab .i64 wr (some ⟨rb, 0, none⟩) rb 0 (gridF N R) := hst.1.tabT.int
      have hiN : i < N := by have := HNH.out; omega
      have HREACH := Lib.hid (reachI (some ⟨rb, 0, none⟩) rb N (gridF N R) N i wr htab (grid_len N R) (fun u hu => grid_row R hu) hN8 hiN)
      have hxc := hst.2.2.2.1.cell
      have hhc := hst.2.2.1.cell
      have hic := hst.2.1.2.2.1.cell
      have hjc := hst.2.1.2.2.2.1.cell
      have hwsz : D < wr.heap.size := (Array.getElem?_eq_some_iff.1 hst.2.2.2.2.2).1
      have hxw : xb < wr.heap.size := hst.2.2.2.1.lt
      have HSB0 := Lib.hid (hrm : Rooms h q i j (flagM M) (cellT T) raise x R)
      clear hG hgF hleg hxij hrm hst htab
      go_wp2_with fail
      refine (HREACH.out).mono ?_
      rintro e w1 ⟨v19, P, rank, rfl, hO, hPN, hRch, hb1⟩
      obtain ⟨pa, pb, pc, rfl, hpc1, hpc2, hpr, hplow, -⟩ := hO.row
      rw [hPN] at hpc1 hplow
      obtain ⟨hpl1, hpl2⟩ := hplow (by omega)
      obtain rfl := hpr.1 (by omega)
      rw [hPN] at hO ⊢
      have HO := Lib.hid hO
      have HPN := Lib.hid hPN
      have HST1 := Lib.hid (HST.out.below hb1 (by have := HDX.out; omega) hwsz)
      have HREC := Lib.hid (hRch.congr (E' := Go.FlowMath.Edge h q i j (flagM M) raise x) (fun u v hu hv => by
        have h1 := roomR_grid (N := N) R hu hv
        rw [h1]
        exact HRM.out.edge HLEG.out hT4 hC4 HB0.out HB99.out (by have := HNH.out; omega) (by have := HNH.out; omega)))
      obtain ⟨at_, hat⟩ : ∃ at_, h + j = at_ := ⟨_, rfl⟩
      have HAT := Lib.hid hat
      have hatN : at_ < N := by have := HNH.out; omega
      have hwa : IntKind.i64.wrap ((h : Int) + (j : Int)) = (at_ : Int) := by rw [IntWalk.i64_in _ ⟨by omega, by omega⟩]; omega
      have hatNi : (at_ : Int) < (N : Int) := by omega
      obtain ⟨pat, hpat⟩ : ∃ pat, P.getD at_ 0 = pat := ⟨_, rfl⟩
      have hpac := hO.cell (i := at_) (by rw [hPN]; exact hatN)
      rw [hpat] at hpac
      have hpatc := hpac.1
      have HPAT := Lib.hid hpat
      have hxc1 := HST1.out.2.2.2.1.cell
      have hhc1 := HST1.out.2.2.1.cell
      have hic1 := HST1.out.2.1.2.2.1.cell
      have hjc1 := HST1.out.2.1.2.2.2.1.cell
      clear hO hPN hRch hpr hplow hb1 hat hpat hpac hxc hhc hic hjc HREACH HST
      by_cases hneg : pat < 0
      · go_wp2_with fail
        refine ⟨by simp, .inl ⟨_, _, rfl, run_takeDeferred HST1.out.2.2.2.2.2, ?_⟩⟩
        refine ⟨.int .i64 (F : Int), by simp [results, Tryz.results180, go_sem], (F : Int), rfl, ?_, ?_⟩
        · have hre2 : Go.FlowMath.Reach (Go.FlowMath.Edge h q i j (flagM M) raise x) (h + q) i rank P := by rw [HNH.out]; exact HREC.out
          have h1 := hre2.extreme HLEG.out hi hj (by rw [HAT.out, HPAT.out]; exact hneg)
          have h2 := IsExt.unique h1 HEX.out
          rw [HXIJ.out] at h2
          rw [HCE.out, HXX.out]
          exact h2
        · exact HST1.out.2.2.2.2.1.trans (belowK_b (w := w) (Nat.le_refl _) w1 D _ _ (by have := HDX.out; omega) HST1.out.2.2.2.2.2 rfl rfl)
      · have hpos : 0 ≤ P.getD at_ 0 := by rw [HPAT.out]; omega
        have HBS := Lib.hid (back_step HREC.out (v := at_) (by have := HNH.out; omega) hpos)
        clear hpos
        obtain ⟨pB, hpB⟩ : ∃ pB, wr.heap.size = pB := ⟨_, rfl⟩
        rw [hpB] at HO hpl1 hxw
        have HP0 := Lib.hid (Int.le_refl 3168)
        clear hpB hpl2
        go_wp2_with fail
        go_loopw [20, 21] (fun p pl wr => ∃ (n : Nat) (d : Int), p = .int .i64 d ∧ pl = .int .i64 ((back P at_ n : Nat) : Int) ∧ 1 ≤ d ∧ d ≤ 3168 ∧ (∀ k, k < n → d ≤ R (back P at_ (k + 1)) (back P at_ k)) ∧ ShL h N i j raise w (.slice (some ⟨tb, 0, none⟩) h ct) (.slice (some ⟨mb, 0, none⟩) h cm) rb xb D g R wr ∧ Own wr pB (.slice (some ⟨pb, 0, none⟩) N pc) P ∧ D < wr.heap.size) (fun _ pl _ => rank (intOf pl).toNat)
        case atStart => exact ⟨0, 3168, rfl, rfl, by omega, by omega, fun k hk => absurd hk (by omega), HST1.out, HO.out, (Array.getElem?_eq_some_iff.1 HST1.out.2.2.2.2.2).1⟩
        case round =>
          obtain ⟨n, d, rfl, rfl, hd1, hd2, hroom, hst, ho, hDl⟩ := hrel
          have HRO := Lib.hid hroom
          have HS2 := Lib.hid hst
          have HO2 := Lib.hid ho
          have hbs := HBS.out n
          obtain ⟨v, hv⟩ : ∃ v, back P at_ n = v := ⟨_, rfl⟩
          rw [hv] at hbs ⊢
          have HVV := Lib.hid hv
          have hxc2 := hst.2.2.2.1.cell
          have hhc2 := hst.2.2.1.cell
          have hic2 := hst.2.1.2.2.1.cell
          have hjc2 := hst.2.1.2.2.2.1.cell
          clear hroom hv
          by_cases hvi : v = i
          · have hneb : (((v : Nat) : Int) != (i : Int)) = false := by simp [hvi]
            have HVI := Lib.hid hvi
            have HD1 := Lib.hid (And.intro hd1 hd2)
            clear hvi hst ho hbs
            go_wp2_with fail
            go_loopw [22] (fun pl wr => ∃ (n2 : Nat) (R' : Nat → Nat → Int), pl = .int .i64 ((back P at_ n2 : Nat) : Int) ∧ HalfR (h := h) (w := q) (i := i) (j := j) (m := flagM M) (t := cellT T) raise d x rank (back P at_ n2) R' ∧ ShL h N i j raise w (.slice (some ⟨tb, 0, none⟩) h ct) (.slice (some ⟨mb, 0, none⟩) h cm) rb xb D g R' wr ∧ Own wr pB (.slice (some ⟨pb, 0, none⟩) N pc) P ∧ D < wr.heap.size) (fun pl _ => rank (intOf pl).toNat)
            case atStart =>
              refine ⟨0, R, rfl, ?_, HS2.out, HO2.out, hDl⟩
              rw [show back P at_ 0 = h + j from HAT.out.symm]
              exact HalfR.start HLEG.out hi hj HIJ.out HRM.out
            case round =>
              clear hxc2 hhc2 hic2 hjc2 HS2 HO2 hDl
              obtain ⟨n2, R', rfl, hhr, hst, ho, hDl⟩ := hrel
              have HHR := Lib.hid hhr
              have HS2 := Lib.hid hst
              have HO2 := Lib.hid ho
              have hbs := HBS.out n2
              have hn2 : back P at_ n2 ≠ i → n2 < n := fun hne => Classical.byContradiction fun hge => hne (by
                have h1 := Go.FlowMath.back_stays HREC.out.start (HVV.out.trans HVI.out) (n2 - n)
                rwa [show n + (n2 - n) = n2 by omega] at h1)
              obtain ⟨v, hv⟩ : ∃ v, back P at_ n2 = v := ⟨_, rfl⟩
              rw [hv] at hbs hn2 ⊢
              have HV3 := Lib.hid hv
              have hxc2 := hst.2.2.2.1.cell
              have hhc2 := hst.2.2.1.cell
              have hic2 := hst.2.1.2.2.1.cell
              have hjc2 := hst.2.1.2.2.2.1.cell
              clear hv hhr
              by_cases hvi : v = i
              · have hneb : (((v : Nat) : Int) != (i : Int)) = false := by simp [hvi]
                have hHR := HHR.out
                rw [HV3.out, hvi] at hHR
                obtain ⟨x2, hx2, hxij2, hrm2⟩ := hHR.done hi
                rw [HXIJ.out] at hxij2
                have hd12 := HD1.out
                obtain ⟨F2, hF2⟩ : ∃ F2, F + d.toNat = F2 := ⟨_, rfl⟩
                have hxij3 : x2 i j = C + sg raise * (F2 : Int) := by
                  rw [hxij2, ← hF2]
                  cases raise <;> simp [sg] <;> omega
                have hle := HEX.out.2 x2 hx2
                rw [hxij3, HFM.out] at hle
                have hle2 : F2 ≤ FM := by cases raise <;> simp [sg] at hle <;> omega
                have hwF : IntKind.i64.wrap ((F : Int) + d) = (F2 : Int) := by rw [IntWalk.i64_in _ ⟨by omega, by omega⟩]; omega
                have HF2 := Lib.hid (And.intro hle2 (show F < F2 by omega))
                have HX2 := Lib.hid hx2
                have HXIJ3 := Lib.hid hxij3
                have HRM2 := Lib.hid hrm2
                clear hvi hst ho hbs hn2 hHR hx2 hxij2 hrm2 hxij3 hle hle2 hd12 hF2
                go_wp2_with fail
                go_roundg (FM - F2)
                case measure => have h1 := HGK.out; have h2 := HGF.out; have h3 := HF2.out; omega
                case rel => exact ⟨x2, F2, R', rfl, by have h3 := HF2.out; omega, HX2.out, HXIJ3.out, HRM2.out, HS2.out⟩
              · have hneb : (((v : Nat) : Int) != (i : Int)) = true := by simp; omega
                obtain ⟨hvN, -, hstep⟩ := hbs
                obtain ⟨hpe, hrk, hedge⟩ := hstep hvi
                have hn2' := hn2 hvi
                obtain ⟨p, hp⟩ : ∃ p, back P at_ (n2 + 1) = p := ⟨_, rfl⟩
                rw [hp] at hpe hrk hedge
                have hpN : p < N := by rw [← hp]; exact (HBS.out (n2 + 1)).1
                have HPP := Lib.hid hp
                have hroom := HRO.out n2 hn2'
                rw [hp, HV3.out] at hroom
                have hHR := HHR.out
                rw [HV3.out] at hHR
                have hpv : p ≠ v := by rintro rfl; omega
                have hd12 := HD1.out
                have hsm1 := hHR.small hT4 hC4 HB0.out HB99.out (d := d) ⟨by omega, by omega⟩ (u := p) (v := v) (by have := HNH.out; omega) (by have := HNH.out; omega)
                have hsm2 := hHR.small hT4 hC4 HB0.out HB99.out (d := d) ⟨by omega, by omega⟩ (u := v) (v := p) (by have := HNH.out; omega) (by have := HNH.out; omega)
                obtain ⟨hpc, -, -, -⟩ := ho.cell (i := v) (by rw [HPN.out]; exact hvN)
                rw [hpe] at hpc
                obtain ⟨c1, hrp, -, hqc1, -, -, -, -⟩ := hst.1.at_ (i := p) (by rw [grid_len]; exact hpN)
                rw [grid_row _ hpN] at hrp hqc1
                obtain ⟨hev, hfz⟩ := hst.1.elt (i := p) (j := v) (by rw [grid_len]; exact hpN) (grid_get _ hpN hvN)
                have hrbg : rb ≠ g p := hst.1.tb_ne (by decide) (i := p) (by rw [grid_len]; exact hpN)
                have hgl1 := HGL.out p hpN
                obtain ⟨r, hr⟩ : ∃ r, R' p v = r := ⟨_, rfl⟩
                obtain ⟨r1, hr1⟩ : ∃ r1, r - d = r1 := ⟨_, rfl⟩
                have HR1 := Lib.hid (show R' p v - d = r1 by rw [hr]; exact hr1)
                have hw1 : IntKind.i64.wrap (r - d) = r1 := by rw [IntWalk.i64_in _ ⟨by omega, by omega⟩]; exact hr1
                rw [hr] at hev
                have hS3 := hst.put HRB.out HGL.out hpN hvN r1
                have HPUT1 := Lib.hid hS3
                have hO3 : Own (wr.setCell ⟨g p, v, none⟩ (.int .i64 r1)) pB (.slice (some ⟨pb, 0, none⟩) N pc) P := ho.only (only_set wr (pb := g p) (o := v) (.int .i64 r1)) (by omega)
                have HO3 := Lib.hid (show Own (wr.setCell ⟨g p, v, none⟩ (.int .i64 r1)).drew pB (.slice (some ⟨pb, 0, none⟩) N pc) P from hO3)
                have HDE := Lib.hid (And.intro hrk hedge)
                have HPE := Lib.hid hpe
                have HRO2 := Lib.hid hroom
                have HSM2 := Lib.hid hsm2
                obtain ⟨gp, hgp⟩ : ∃ gp, g p = gp := ⟨_, rfl⟩
                rw [hgp] at hrp hev hfz hrbg hgl1 HPUT1 HO3
                have HEV := Lib.hid hev
                have HFZ := Lib.hid hfz
                have hrbw := HRB.out
                have HNE := Lib.hid (show xb ≠ gp ∧ pb ≠ gp ∧ rb ≠ gp from ⟨by omega, by omega, hrbg⟩)
                have hvNi : ((v : Nat) : Int) < (N : Int) := by omega
                have hpNi : ((p : Nat) : Int) < (N : Int) := by omega
                clear hvi hst ho hpe hrk hedge hroom hHR hr hr1 hsm1 hsm2 hS3 hO3 hp hn2 hn2' hstep hgl1 hrbg hd12 hev hfz hgp hrbw
                go_wp2_with fail
                refine wp_calm2 ?_
                refine wp_region_held (S := (fun V => V.cell? ⟨xb, 0, none⟩ = some (.slice (some ⟨rb, 0, none⟩) N N) ∧ V.cell? ⟨pb, v, none⟩ = some (.int .i64 ((p : Nat) : Int)) ∧ V.cell? ⟨rb, p, none⟩ = some (.slice (some ⟨gp, 0, none⟩) N c1))) (by kernel_rfl) ?_
                change wpAnyH _ _ _ _ _ _ _ _ wr.drew
                have hS0 : wr.drew.cell? ⟨xb, 0, none⟩ = some (.slice (some ⟨rb, 0, none⟩) N N) ∧ wr.drew.cell? ⟨pb, v, none⟩ = some (.int .i64 ((p : Nat) : Int)) ∧ wr.drew.cell? ⟨rb, p, none⟩ = some (.slice (some ⟨gp, 0, none⟩) N c1) := ⟨hxc2, hpc, hrp⟩
                have e1' : wr.drew.cell? ⟨gp, v, none⟩ = some (.int .i64 r) := HEV.out
                have e2' : wr.drew.frozen? ⟨gp, v, none⟩ = false := HFZ.out
                have hbk : ∀ z, z ≠ gp → ((wr.setCell ⟨gp, v, none⟩ (.int .i64 r1)).drew).heap[z]? = wr.heap[z]? := fun z h1 => Below.heap_setCell wr ⟨gp, v, none⟩ _ z h1
                have hS1 : (wr.setCell ⟨gp, v, none⟩ (.int .i64 r1)).drew.cell? ⟨xb, 0, none⟩ = some (.slice (some ⟨rb, 0, none⟩) N N) ∧ (wr.setCell ⟨gp, v, none⟩ (.int .i64 r1)).drew.cell? ⟨pb, v, none⟩ = some (.int .i64 ((p : Nat) : Int)) ∧ (wr.setCell ⟨gp, v, none⟩ (.int .i64 r1)).drew.cell? ⟨rb, p, none⟩ = some (.slice (some ⟨gp, 0, none⟩) N c1) := ⟨(World.cell?_of_block (hbk xb HNE.out.1)).trans hxc2, (World.cell?_of_block (hbk pb HNE.out.2.1)).trans hpc, (World.cell?_of_block (hbk rb HNE.out.2.2)).trans hrp⟩
                refine wpAnyH_take (i := 0) (v := .slice (some ⟨rb, 0, none⟩) N N) rfl (by kernel_rfl) (by kernel_rfl) (by kernel_rfl) (fun _ _ _ h => h) (Or.inl ⟨by kernel_rfl, fun V hV => ?_⟩) hS0 ?_
                · obtain ⟨q0, q1, q2⟩ := hV
                  go_simp
                simp only [Act.put, List.setIfInBounds_toArray]
                refine wpAnyH_take (i := 1) (v := .slice (some ⟨pb, 0, none⟩) N pc) rfl (by kernel_rfl) (by kernel_rfl) (by kernel_rfl) (fun _ _ _ h => h) (Or.inl ⟨by kernel_rfl, fun V hV => ?_⟩) hS0 ?_
                · obtain ⟨q0, q1, q2⟩ := hV
                  go_simp
                simp only [Act.put]
                refine wpAnyH_take (i := 2) (v := .int .i64 ((v : Nat) : Int)) rfl (by kernel_rfl) (by kernel_rfl) (by kernel_rfl) (fun _ _ _ h => h) (Or.inl ⟨by kernel_rfl, fun V hV => ?_⟩) hS0 ?_
                · obtain ⟨q0, q1, q2⟩ := hV
                  go_simp
                simp only [Act.put]
                refine wpAnyH_take (i := 3) (v := .pointer (some ⟨pb, v, none⟩)) rfl (by kernel_rfl) (by kernel_rfl) (by kernel_rfl) (fun _ _ _ h => h) (Or.inl ⟨by kernel_rfl, fun V hV => ?_⟩) hS0 ?_
                · obtain ⟨q0, q1, q2⟩ := hV
                  go_simp
                simp only [Act.put]
                refine wpAnyH_take (i := 4) (v := .int .i64 ((p : Nat) : Int)) rfl (by kernel_rfl) (by kernel_rfl) (by kernel_rfl) (fun _ _ _ h => h) (Or.inl ⟨by kernel_rfl, fun V hV => ?_⟩) hS0 ?_
                · obtain ⟨q0, q1, q2⟩ := hV
                  go_simp
                simp only [Act.put]
                refine wpAnyH_take (i := 5) (v := .pointer (some ⟨rb, p, none⟩)) rfl (by kernel_rfl) (by kernel_rfl) (by kernel_rfl) (fun _ _ _ h => h) (Or.inl ⟨by kernel_rfl, fun V hV => ?_⟩) hS0 ?_
                · obtain ⟨q0, q1, q2⟩ := hV
                  go_simp
                simp only [Act.put]
                refine wpAnyH_take (i := 6) (v := .slice (some ⟨gp, 0, none⟩) N c1) rfl (by kernel_rfl) (by kernel_rfl) (by kernel_rfl) (fun _ _ _ h => h) (Or.inl ⟨by kernel_rfl, fun V hV => ?_⟩) hS0 ?_
                · obtain ⟨q0, q1, q2⟩ := hV
                  go_simp
                simp only [Act.put]
                refine wpAnyH_take (i := 7) (v := .int .i64 ((v : Nat) : Int)) rfl (by kernel_rfl) (by kernel_rfl) (by kernel_rfl) (fun _ _ _ h => h) (Or.inl ⟨by kernel_rfl, fun V hV => ?_⟩) hS0 ?_
                · obtain ⟨q0, q1, q2⟩ := hV
                  go_simp
                simp only [Act.put]
                refine wpAnyH_take (i := 8) (v := .pointer (some ⟨gp, v, none⟩)) rfl (by kernel_rfl) (by kernel_rfl) (by kernel_rfl) (fun _ _ _ h => h) (Or.inl ⟨by kernel_rfl, fun V hV => ?_⟩) hS0 ?_
                · obtain ⟨q0, q1, q2⟩ := hV
                  go_simp
                simp only [Act.put]
                refine wpAnyH_take (i := 10) (v := .int .i64 d) rfl (by kernel_rfl) (by kernel_rfl) (by kernel_rfl) (fun _ _ _ h => h) (Or.inl ⟨by kernel_rfl, fun V hV => ?_⟩) hS0 ?_
                · obtain ⟨q0, q1, q2⟩ := hV
                  go_simp
                simp only [Act.put]
                refine wpAnyH_ready (rs := [9]) (by kernel_rfl) (by simp) ?_
                refine AllReadyH.cons rfl (fun K hK => ?_) AllReadyH.nil
                go_simp
                refine hK.out _ _ hS0 (fun _ => ?_)
                try simp only [Act.put, List.setIfInBounds_toArray, List.set_cons_zero, List.set_cons_succ]
                clear hK K
                refine wpAnyH_take (i := 11) (v := .int .i64 r1) rfl (by kernel_rfl) (by kernel_rfl) (by kernel_rfl) (fun _ _ _ h => h) (Or.inl ⟨by kernel_rfl, fun V hV => ?_⟩) hS0 ?_
                · obtain ⟨q0, q1, q2⟩ := hV
                  go_simp
                simp only [Act.put, List.setIfInBounds_toArray]
                refine wpAnyH_take (i := 12) (v := .pointer (some ⟨gp, v, none⟩)) rfl (by kernel_rfl) (by kernel_rfl) (by kernel_rfl) (fun _ _ _ h => h) (Or.inl ⟨by kernel_rfl, fun V hV => ?_⟩) hS0 ?_
                · obtain ⟨q0, q1, q2⟩ := hV
                  go_simp
                simp only [Act.put]
                refine wpAnyH_ready (rs := [13]) (by kernel_rfl) (by simp) ?_
                refine AllReadyH.cons rfl (fun K hK => ?_) AllReadyH.nil
                go_simp
                refine hK.out _ _ hS1 (fun _ => ?_)
                try simp only [Act.put, List.setIfInBounds_toArray, List.set_cons_zero, List.set_cons_succ]
                clear hK K
                refine wpAnyH_done (by kernel_rfl) ?_ _
                have hDl3 : D < (wr.setCell ⟨gp, v, none⟩ (.int .i64 r1)).drew.heap.size := (Array.getElem?_eq_some_iff.1 HPUT1.out.2.2.2.2.2).1
                obtain ⟨w4, hw4⟩ : ∃ w4, (wr.setCell ⟨gp, v, none⟩ (.int .i64 r1)).drew = w4 := ⟨_, rfl⟩
                rw [hw4] at HPUT1 HO3 hDl3 ⊢
                clear hw4 hxc2 hhc2 hic2 hjc2 hpc hrp hS0 hS1 e1' e2' hbk HEV HFZ HNE hw1 hDl
                obtain ⟨gv, hgv⟩ : ∃ gv, g v = gv := ⟨_, rfl⟩
                have hxc4 := HPUT1.out.2.2.2.1.cell
                have hic4 := HPUT1.out.2.1.2.2.1.cell
                have hpc4' := (HO3.out.cell (i := v) (by rw [HPN.out]; exact hvN)).1
                have hpev : P.getD v 0 = (p : Int) := HPE.out
                rw [hpev] at hpc4'
                have hpc4 := hpc4'
                obtain ⟨c2, hrv, -, hqc2, -, -, -, -⟩ := HPUT1.out.1.at_ (i := v) (by rw [grid_len]; exact hvN)
                rw [grid_row _ hvN, hgv] at hrv
                rw [grid_row _ hvN] at hqc2
                obtain ⟨hev2, hfz2⟩ := HPUT1.out.1.elt (i := v) (j := p) (by rw [grid_len]; exact hvN) (grid_get _ hvN hpN)
                have hgl2 := HGL.out v hvN
                have hrbg2 : rb ≠ g v := HPUT1.out.1.tb_ne (by decide) (i := v) (by rw [grid_len]; exact hvN)
                rw [if_neg (fun e => hpv e.1.symm)] at hev2
                rw [hgv] at hev2 hfz2 hrbg2 hgl2
                obtain ⟨s0, hs0⟩ : ∃ s0, R' v p = s0 := ⟨_, rfl⟩
                obtain ⟨s1, hs1⟩ : ∃ s1, s0 + d = s1 := ⟨_, rfl⟩
                rw [hs0] at hev2
                have hsm2 := HSM2.out
                rw [hs0] at hsm2
                have hd12 := HD1.out
                have hw2 : IntKind.i64.wrap (s0 + d) = s1 := by rw [IntWalk.i64_in _ ⟨by omega, by omega⟩]; exact hs1
                have HS1 := Lib.hid (show R' v p + d = s1 by rw [hs0]; exact hs1)
                have HPUT2 := Lib.hid (HPUT1.out.put HRB.out HGL.out hvN hpN s1)
                have HO4 := Lib.hid (show Own (w4.setCell ⟨g v, p, none⟩ (.int .i64 s1)).drew pB (.slice (some ⟨pb, 0, none⟩) N pc) P from HO3.out.only (only_set w4 (pb := g v) (o := p) (.int .i64 s1)) (by omega))
                rw [hgv] at HPUT2 HO4
                have HEV2 := Lib.hid hev2
                have HFZ2 := Lib.hid hfz2
                have HNE2 := Lib.hid (show xb ≠ gv ∧ pb ≠ gv ∧ rb ≠ gv from ⟨by omega, by omega, hrbg2⟩)
                clear hgv hpc4' hpev hgl2 hrbg2 hs0 hs1 hsm2 hd12 hev2 hfz2
                go_wp2_with fail
                refine wp_calm2 ?_
                refine wp_region_held (S := (fun V => V.cell? ⟨xb, 0, none⟩ = some (.slice (some ⟨rb, 0, none⟩) N N) ∧ V.cell? ⟨pb, v, none⟩ = some (.int .i64 ((p : Nat) : Int)) ∧ V.cell? ⟨rb, v, none⟩ = some (.slice (some ⟨gv, 0, none⟩) N c2))) (by kernel_rfl) ?_
                change wpAnyH _ _ _ _ _ _ _ _ w4.drew
                have hS0 : w4.drew.cell? ⟨xb, 0, none⟩ = some (.slice (some ⟨rb, 0, none⟩) N N) ∧ w4.drew.cell? ⟨pb, v, none⟩ = some (.int .i64 ((p : Nat) : Int)) ∧ w4.drew.cell? ⟨rb, v, none⟩ = some (.slice (some ⟨gv, 0, none⟩) N c2) := ⟨hxc4, hpc4, hrv⟩
                have e1' : w4.drew.cell? ⟨gv, p, none⟩ = some (.int .i64 s0) := HEV2.out
                have e2' : w4.drew.frozen? ⟨gv, p, none⟩ = false := HFZ2.out
                have hbk : ∀ z, z ≠ gv → ((w4.setCell ⟨gv, p, none⟩ (.int .i64 s1)).drew).heap[z]? = w4.heap[z]? := fun z h1 => Below.heap_setCell w4 ⟨gv, p, none⟩ _ z h1
                have hS1 : (w4.setCell ⟨gv, p, none⟩ (.int .i64 s1)).drew.cell? ⟨xb, 0, none⟩ = some (.slice (some ⟨rb, 0, none⟩) N N) ∧ (w4.setCell ⟨gv, p, none⟩ (.int .i64 s1)).drew.cell? ⟨pb, v, none⟩ = some (.int .i64 ((p : Nat) : Int)) ∧ (w4.setCell ⟨gv, p, none⟩ (.int .i64 s1)).drew.cell? ⟨rb, v, none⟩ = some (.slice (some ⟨gv, 0, none⟩) N c2) := ⟨(World.cell?_of_block (hbk xb HNE2.out.1)).trans hxc4, (World.cell?_of_block (hbk pb HNE2.out.2.1)).trans hpc4, (World.cell?_of_block (hbk rb HNE2.out.2.2)).trans hrv⟩
                refine wpAnyH_take (i := 0) (v := .slice (some ⟨rb, 0, none⟩) N N) rfl (by kernel_rfl) (by kernel_rfl) (by kernel_rfl) (fun _ _ _ h => h) (Or.inl ⟨by kernel_rfl, fun V hV => ?_⟩) hS0 ?_
                · obtain ⟨q0, q1, q2⟩ := hV
                  go_simp
                simp only [Act.put, List.setIfInBounds_toArray]
                refine wpAnyH_take (i := 1) (v := .int .i64 ((v : Nat) : Int)) rfl (by kernel_rfl) (by kernel_rfl) (by kernel_rfl) (fun _ _ _ h => h) (Or.inl ⟨by kernel_rfl, fun V hV => ?_⟩) hS0 ?_
                · obtain ⟨q0, q1, q2⟩ := hV
                  go_simp
                simp only [Act.put]
                refine wpAnyH_take (i := 2) (v := .pointer (some ⟨rb, v, none⟩)) rfl (by kernel_rfl) (by kernel_rfl) (by kernel_rfl) (fun _ _ _ h => h) (Or.inl ⟨by kernel_rfl, fun V hV => ?_⟩) hS0 ?_
                · obtain ⟨q0, q1, q2⟩ := hV
                  go_simp
                simp only [Act.put]
                refine wpAnyH_take (i := 3) (v := .slice (some ⟨gv, 0, none⟩) N c2) rfl (by kernel_rfl) (by kernel_rfl) (by kernel_rfl) (fun _ _ _ h => h) (Or.inl ⟨by kernel_rfl, fun V hV => ?_⟩) hS0 ?_
                · obtain ⟨q0, q1, q2⟩ := hV
                  go_simp
                simp only [Act.put]
                refine wpAnyH_take (i := 4) (v := .slice (some ⟨pb, 0, none⟩) N pc) rfl (by kernel_rfl) (by kernel_rfl) (by kernel_rfl) (fun _ _ _ h => h) (Or.inl ⟨by kernel_rfl, fun V hV => ?_⟩) hS0 ?_
                · obtain ⟨q0, q1, q2⟩ := hV
                  go_simp
                simp only [Act.put]
                refine wpAnyH_take (i := 5) (v := .int .i64 ((v : Nat) : Int)) rfl (by kernel_rfl) (by kernel_rfl) (by kernel_rfl) (fun _ _ _ h => h) (Or.inl ⟨by kernel_rfl, fun V hV => ?_⟩) hS0 ?_
                · obtain ⟨q0, q1, q2⟩ := hV
                  go_simp
                simp only [Act.put]
                refine wpAnyH_take (i := 6) (v := .pointer (some ⟨pb, v, none⟩)) rfl (by kernel_rfl) (by kernel_rfl) (by kernel_rfl) (fun _ _ _ h => h) (Or.inl ⟨by kernel_rfl, fun V hV => ?_⟩) hS0 ?_
                · obtain ⟨q0, q1, q2⟩ := hV
                  go_simp
                simp only [Act.put]
                refine wpAnyH_take (i := 7) (v := .int .i64 ((p : Nat) : Int)) rfl (by kernel_rfl) (by kernel_rfl) (by kernel_rfl) (fun _ _ _ h => h) (Or.inl ⟨by kernel_rfl, fun V hV => ?_⟩) hS0 ?_
                · obtain ⟨q0, q1, q2⟩ := hV
                  go_simp
                simp only [Act.put]
                refine wpAnyH_take (i := 8) (v := .pointer (some ⟨gv, p, none⟩)) rfl (by kernel_rfl) (by kernel_rfl) (by kernel_rfl) (fun _ _ _ h => h) (Or.inl ⟨by kernel_rfl, fun V hV => ?_⟩) hS0 ?_
                · obtain ⟨q0, q1, q2⟩ := hV
                  go_simp
                simp only [Act.put]
                refine wpAnyH_take (i := 10) (v := .int .i64 d) rfl (by kernel_rfl) (by kernel_rfl) (by kernel_rfl) (fun _ _ _ h => h) (Or.inl ⟨by kernel_rfl, fun V hV => ?_⟩) hS0 ?_
                · obtain ⟨q0, q1, q2⟩ := hV
                  go_simp
                simp only [Act.put]
                refine wpAnyH_ready (rs := [9]) (by kernel_rfl) (by simp) ?_
                refine AllReadyH.cons rfl (fun K hK => ?_) AllReadyH.nil
                go_simp
                refine hK.out _ _ hS0 (fun _ => ?_)
                try simp only [Act.put, List.setIfInBounds_toArray, List.set_cons_zero, List.set_cons_succ]
                clear hK K
                refine wpAnyH_take (i := 11) (v := .int .i64 s1) rfl (by kernel_rfl) (by kernel_rfl) (by kernel_rfl) (fun _ _ _ h => h) (Or.inl ⟨by kernel_rfl, fun V hV => ?_⟩) hS0 ?_
                · obtain ⟨q0, q1, q2⟩ := hV
                  go_simp
                simp only [Act.put, List.setIfInBounds_toArray]
                refine wpAnyH_take (i := 12) (v := .pointer (some ⟨gv, p, none⟩)) rfl (by kernel_rfl) (by kernel_rfl) (by kernel_rfl) (fun _ _ _ h => h) (Or.inl ⟨by kernel_rfl, fun V hV => ?_⟩) hS0 ?_
                · obtain ⟨q0, q1, q2⟩ := hV
                  go_simp
                simp only [Act.put]
                refine wpAnyH_ready (rs := [13]) (by kernel_rfl) (by simp) ?_
                refine AllReadyH.cons rfl (fun K hK => ?_) AllReadyH.nil
                go_simp
                refine hK.out _ _ hS1 (fun _ => ?_)
                try simp only [Act.put, List.setIfInBounds_toArray, List.set_cons_zero, List.set_cons_succ]
                clear hK K
                refine wpAnyH_done (by kernel_rfl) ?_ _
                have HNEW := Lib.hid (show HalfR (h := h) (w := q) (i := i) (j := j) (m := flagM M) (t := cellT T) raise d x rank p (fun a b => if a = v ∧ b = p then s1 else if a = p ∧ b = v then r1 else R' a b) from by
                  have hHR := HHR.out
                  rw [HV3.out] at hHR
                  refine hHR.step HRM.out (by have := HD1.out; omega) HDE.out.1 HDE.out.2 HRO2.out (fun a b => ?_)
                  rw [HR1.out, HS1.out]
                  by_cases e1 : a = v ∧ b = p
                  · rw [if_pos e1, if_neg (fun e => hpv (e.1.symm.trans e1.1)), if_pos e1]
                  · rw [if_neg e1, if_neg e1])
                have hDl5 : D < (w4.setCell ⟨gv, p, none⟩ (.int .i64 s1)).drew.heap.size := (Array.getElem?_eq_some_iff.1 HPUT2.out.2.2.2.2.2).1
                have hpc5 := (HO4.out.cell (i := v) (by rw [HPN.out]; exact hvN)).1
                rw [HPE.out] at hpc5
                obtain ⟨w5, hw5⟩ : ∃ w5, (w4.setCell ⟨gv, p, none⟩ (.int .i64 s1)).drew = w5 := ⟨_, rfl⟩
                rw [hw5] at HPUT2 HO4 hDl5 hpc5 ⊢
                clear hw5 hxc4 hic4 hpc4 hrv hS0 hS1 e1' e2' hbk HEV2 HFZ2 HNE2 hw2 hDl3
                go_wp2_with fail
                go_roundw
                case rel => exact ⟨n2 + 1, _, by rw [HPP.out], by rw [HPP.out]; exact HNEW.out, HPUT2.out, HO4.out, hDl5⟩
                case measure =>
                  simp only [intOf]
                  simpa using HDE.out.1
          · have hneb : (((v : Nat) : Int) != (i : Int)) = true := by simp; omega
            obtain ⟨hvN, -, hstep⟩ := hbs
            obtain ⟨hpe, hrk, hedge⟩ := hstep hvi
            obtain ⟨p, hp⟩ : ∃ p, back P at_ (n + 1) = p := ⟨_, rfl⟩
            rw [hp] at hpe hrk hedge
            have hpN : p < N := by rw [← hp]; exact (HBS.out (n + 1)).1
            have HPP := Lib.hid hp
            obtain ⟨hpc, -, -, -⟩ := ho.cell (i := v) (by rw [HPN.out]; exact hvN)
            rw [hpe] at hpc
            obtain ⟨c1, hrp, -, hqc1, -, -, -, -⟩ := hst.1.at_ (i := p) (by rw [grid_len]; exact hpN)
            rw [grid_row _ hpN] at hrp hqc1
            obtain ⟨hev, -⟩ := hst.1.elt (i := p) (j := v) (by rw [grid_len]; exact hpN) (grid_get _ hpN hvN)
            have hr1 : 1 ≤ R p v := (HRM.out.edge HLEG.out hT4 hC4 HB0.out HB99.out (by have := HNH.out; omega) (by have := HNH.out; omega)).2 hedge
            obtain ⟨r, hr⟩ : ∃ r, R p v = r := ⟨_, rfl⟩
            rw [hr] at hev hr1
            have HRE := Lib.hid hr
            obtain ⟨gp, hgp⟩ : ∃ gp, g p = gp := ⟨_, rfl⟩
            rw [hgp] at hrp hev
            obtain ⟨dm, hdm⟩ : ∃ dm, min d r = dm := ⟨_, rfl⟩
            have hdm1 : 1 ≤ dm ∧ dm ≤ 3168 ∧ dm ≤ d ∧ dm ≤ r := by omega
            have HDM := Lib.hid hdm1
            have HRK := Lib.hid hrk
            have hvNi : ((v : Nat) : Int) < (N : Int) := by omega
            have hpNi : ((p : Nat) : Int) < (N : Int) := by omega
            clear hvi hst ho hpe hrk hedge hr hgp hp hdm1
            go_wp2_with fail
            refine wp_calm2 ?_
            refine wp_region_held (S := (fun V => V.cell? ⟨xb, 0, none⟩ = some (.slice (some ⟨rb, 0, none⟩) N N) ∧ V.cell? ⟨pb, v, none⟩ = some (.int .i64 ((p : Nat) : Int)) ∧ V.cell? ⟨rb, p, none⟩ = some (.slice (some ⟨gp, 0, none⟩) N c1) ∧ V.cell? ⟨gp, v, none⟩ = some (.int .i64 r))) (by kernel_rfl) ?_
            change wpAnyH _ _ _ _ _ _ _ _ wr.drew
            have hS0 : wr.drew.cell? ⟨xb, 0, none⟩ = some (.slice (some ⟨rb, 0, none⟩) N N) ∧ wr.drew.cell? ⟨pb, v, none⟩ = some (.int .i64 ((p : Nat) : Int)) ∧ wr.drew.cell? ⟨rb, p, none⟩ = some (.slice (some ⟨gp, 0, none⟩) N c1) ∧ wr.drew.cell? ⟨gp, v, none⟩ = some (.int .i64 r) := ⟨hxc2, hpc, hrp, hev⟩
            refine wpAnyH_take (i := 0) (v := .int .i64 d) rfl (by kernel_rfl) (by kernel_rfl) (by kernel_rfl) (fun _ _ _ h => h) (Or.inl ⟨by kernel_rfl, fun V hV => ?_⟩) hS0 ?_
            · obtain ⟨q0, q1, q2, q3⟩ := hV
              go_simp
            simp only [Act.put, List.setIfInBounds_toArray]
            refine wpAnyH_take (i := 1) (v := .slice (some ⟨rb, 0, none⟩) N N) rfl (by kernel_rfl) (by kernel_rfl) (by kernel_rfl) (fun _ _ _ h => h) (Or.inl ⟨by kernel_rfl, fun V hV => ?_⟩) hS0 ?_
            · obtain ⟨q0, q1, q2, q3⟩ := hV
              go_simp
            simp only [Act.put]
            refine wpAnyH_take (i := 2) (v := .slice (some ⟨pb, 0, none⟩) N pc) rfl (by kernel_rfl) (by kernel_rfl) (by kernel_rfl) (fun _ _ _ h => h) (Or.inl ⟨by kernel_rfl, fun V hV => ?_⟩) hS0 ?_
            · obtain ⟨q0, q1, q2, q3⟩ := hV
              go_simp
            simp only [Act.put]
            refine wpAnyH_take (i := 3) (v := .int .i64 ((v : Nat) : Int)) rfl (by kernel_rfl) (by kernel_rfl) (by kernel_rfl) (fun _ _ _ h => h) (Or.inl ⟨by kernel_rfl, fun V hV => ?_⟩) hS0 ?_
            · obtain ⟨q0, q1, q2, q3⟩ := hV
              go_simp
            simp only [Act.put]
            refine wpAnyH_take (i := 4) (v := .pointer (some ⟨pb, v, none⟩)) rfl (by kernel_rfl) (by kernel_rfl) (by kernel_rfl) (fun _ _ _ h => h) (Or.inl ⟨by kernel_rfl, fun V hV => ?_⟩) hS0 ?_
            · obtain ⟨q0, q1, q2, q3⟩ := hV
              go_simp
            simp only [Act.put]
            refine wpAnyH_take (i := 5) (v := .int .i64 ((p : Nat) : Int)) rfl (by kernel_rfl) (by kernel_rfl) (by kernel_rfl) (fun _ _ _ h => h) (Or.inl ⟨by kernel_rfl, fun V hV => ?_⟩) hS0 ?_
            · obtain ⟨q0, q1, q2, q3⟩ := hV
              go_simp
            simp only [Act.put]
            refine wpAnyH_take (i := 6) (v := .pointer (some ⟨rb, p, none⟩)) rfl (by kernel_rfl) (by kernel_rfl) (by kernel_rfl) (fun _ _ _ h => h) (Or.inl ⟨by kernel_rfl, fun V hV => ?_⟩) hS0 ?_
            · obtain ⟨q0, q1, q2, q3⟩ := hV
              go_simp
            simp only [Act.put]
            refine wpAnyH_take (i := 7) (v := .slice (some ⟨gp, 0, none⟩) N c1) rfl (by kernel_rfl) (by kernel_rfl) (by kernel_rfl) (fun _ _ _ h => h) (Or.inl ⟨by kernel_rfl, fun V hV => ?_⟩) hS0 ?_
            · obtain ⟨q0, q1, q2, q3⟩ := hV
              go_simp
            simp only [Act.put]
            refine wpAnyH_take (i := 8) (v := .int .i64 ((v : Nat) : Int)) rfl (by kernel_rfl) (by kernel_rfl) (by kernel_rfl) (fun _ _ _ h => h) (Or.inl ⟨by kernel_rfl, fun V hV => ?_⟩) hS0 ?_
            · obtain ⟨q0, q1, q2, q3⟩ := hV
              go_simp
            simp only [Act.put]
            refine wpAnyH_take (i := 9) (v := .pointer (some ⟨gp, v, none⟩)) rfl (by kernel_rfl) (by kernel_rfl) (by kernel_rfl) (fun _ _ _ h => h) (Or.inl ⟨by kernel_rfl, fun V hV => ?_⟩) hS0 ?_
            · obtain ⟨q0, q1, q2, q3⟩ := hV
              go_simp
            simp only [Act.put]
            refine wpAnyH_take (i := 10) (v := .int .i64 r) rfl (by kernel_rfl) (by kernel_rfl) (by kernel_rfl) (fun _ _ _ h => h) (Or.inl ⟨by kernel_rfl, fun V hV => ?_⟩) hS0 ?_
            · obtain ⟨q0, q1, q2, q3⟩ := hV
              go_simp
            simp only [Act.put]
            refine wpAnyH_take (i := 11) (v := .int .i64 dm) rfl (by kernel_rfl) (by kernel_rfl) (by kernel_rfl) (fun _ _ _ h => h) (Or.inl ⟨by kernel_rfl, fun V hV => ?_⟩) hS0 ?_
            · obtain ⟨q0, q1, q2, q3⟩ := hV
              go_simp
            simp only [Act.put]
            refine wpAnyH_take (i := 12) (oi := ⟨some 20, _, _, _, _, _⟩) (v := .int .i64 dm) rfl (by kernel_rfl) (by kernel_rfl) (by kernel_rfl) (fun _ _ _ h => h) (Or.inl ⟨by kernel_rfl, fun V hV => ?_⟩) hS0 ?_
            · obtain ⟨q0, q1, q2, q3⟩ := hV
              go_simp
            simp only [Act.put]
            refine wpAnyH_done (by kernel_rfl) ?_ _
            have HS3 := Lib.hid (HS2.out.below (Below.refl wr.heap.size wr).drew (by have := HDX.out; omega) hDl)
            have HO3 := Lib.hid (show Own wr.drew pB (.slice (some ⟨pb, 0, none⟩) N pc) P from HO2.out)
            have hpc' : wr.drew.cell? ⟨pb, v, none⟩ = some (.int .i64 ((p : Nat) : Int)) := hpc
            obtain ⟨wq, hwq⟩ : ∃ wq, wr.drew = wq := ⟨_, rfl⟩
            have hDq : D < wq.heap.size := by rw [← hwq]; exact hDl
            rw [hwq] at HS3 HO3 hpc' ⊢
            clear hwq hS0 hpc hev hrp hxc2 hhc2 hic2 hjc2
            go_wp2_with fail
            go_roundw
            case rel =>
              refine ⟨n + 1, dm, rfl, by rw [HPP.out], HDM.out.1, HDM.out.2.1, fun k hk => ?_, HS3.out, HO3.out, hDq⟩
              by_cases e : k = n
              · subst e
                rw [HVV.out, HPP.out, HRE.out]
                exact HDM.out.2.2.2
              · exact Int.le_trans HDM.out.2.2.1 (HRO.out k (by omega))
            case measure =>
              simp only [intOf]
              simpa using HRK.out
  case stop =>
    rintro D c pre W _ _ h _
    exact h.elim
end Go.Proofs.YtlmlchkolcmhpaaGreatDoor
