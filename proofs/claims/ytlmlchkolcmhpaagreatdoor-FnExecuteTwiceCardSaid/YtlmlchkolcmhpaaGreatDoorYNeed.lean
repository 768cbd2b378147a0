/-
  Contracts: impl.PatternNeed, impl.PatternOk.
-/
import Derived.Test.YtlmlchkolcmhpaaGreatDoorYSafe
import Derived.Test.YtlmlchkolcmhpaaGreatDoorYNumsI
namespace Go.Proofs.YtlmlchkolcmhpaaGreatDoor
open Go.RowKit Go.Shelf
open Go.TextMath (tvB mvB text word)
attribute [local go_sem] Oper.semAt_some

theorem sum_le4 (f : Nat → Nat) : ∀ l : List Nat, (∀ i ∈ l, f i ≤ 4) → (l.map f).sum ≤ 4 * l.length
  | [], _ => by simp
  | a :: l, h => by
    have h1 := h a (by simp)
    have h2 := sum_le4 f l fun i hi => h i (by simp [hi])
    simp only [List.map_cons, List.sum_cons, List.length_cons]
    omega
theorem poss_len {T : List (List Int)} (hv : tvB T = true) : (poss (lensT T)).length ≤ 16 := by
  obtain ⟨-, hT4, -, hC4, h5⟩ := tv_t.1 hv
  unfold poss
  rw [List.length_flatMap]
  simp only [List.length_map, List.length_range]
  have := sum_le4 (fun i => (lensT T).getD i 0) (List.range (lensT T).length) fun i hi => by
    have hi' : i < T.length := by rw [← lensT_len]; exact List.mem_range.1 hi
    rw [lensT_at T hi', (h5 i hi').1]
    exact hC4
  rw [List.length_range, lensT_len] at this
  rw [lensT_len]
  omega
/-- The captured variables' boxes. -/
def NeedB (w : World) (tv fv mv : Value) (n : Int) (W : World) : Prop :=
  Boxed W w.heap.size 64 tv ∧ Boxed W (w.heap.size + 1) 75 fv ∧ Boxed W (w.heap.size + 1 + 1) 75 mv ∧ Boxed W (w.heap.size + 1 + 1 + 1) 3 (.int .i64 n)
theorem NeedB.below {w W V : World} {tv fv mv : Value} {n : Int} {k : Nat} (h : NeedB w tv fv mv n W) (hb : Below k W V) (hn : w.heap.size + 4 ≤ k) : NeedB w tv fv mv n V := by
  obtain ⟨h1, h2, h3, h4⟩ := h
  exact ⟨(hb.block _ (by omega)).trans h1, (hb.block _ (by omega)).trans h2, (hb.block _ (by omega)).trans h3, (hb.block _ (by omega)).trans h4⟩
theorem NeedB.new (w : World) (tv fv mv : Value) (n : Int) :
    NeedB w tv fv mv n ((((w.alloc (.cells #[tv] 64)).alloc (.cells #[fv] 75)).alloc (.cells #[mv] 75)).alloc (.cells #[.int .i64 n] 3)) := by
  have key : ∀ (V : World) (n : Nat) (v : Value) (t : TypeId), V.heap.size = n → Boxed (V.alloc (.cells #[v] t)) n t v := fun V n v t e => by subst e; exact Boxed.new V t v
  refine ⟨(((key _ _ _ _ rfl).alloc _).alloc _).alloc _, ((key _ _ _ _ (by simp)).alloc _).alloc _, (key _ _ _ _ (by simp)).alloc _, key _ _ _ _ (by simp)⟩
/-- What the loop keeps. -/
def NeedI (T : List (List Int)) (F M : List (List Bool)) (n : Int) (w : World) (tv fv mv : Value) (nb : Nat) (pre : List (Nat × Nat)) (W : World) : Prop :=
  NeedB w tv fv mv n W ∧ Boxed W nb 3 (.int .i64 (((pre.filter (badM T F M n)).length : Nat) : Int)) ∧ Below w.heap.size w W

set_option maxRecDepth 100000 in
set_option maxHeartbeats 4000000 in
theorem needI_f (tb ct : Nat) (T : List (List Int)) (fb cf : Nat) (F : List (List Bool)) (mb cm : Nat) (M : List (List Bool)) (n : Int) (w : World) (hr : Tab .i64 w (some ⟨tb, 0, none⟩) tb 0 T) (hfm : TabB w (some ⟨fb, 0, none⟩) fb 0 F) (hm : TabB w (some ⟨mb, 0, none⟩) mb 0 M) (hvf : mvB T F = true) (hv : mvB T M = true) (hn : cellB n = false) :
    Calls Tryz.prog 78 #[.slice (some ⟨tb, 0, none⟩) T.length ct, .slice (some ⟨fb, 0, none⟩) T.length cf, .slice (some ⟨mb, 0, none⟩) T.length cm, .int .i64 n] w fun e w' => e = .returned (.int .i64 (-1)) ∧ Below w.heap.size w w' := by
  have HV := Lib.hid hv
  have HVF := Lib.hid hvf
  have HR := Lib.hid hr
  have HFK := Lib.hid hfm
  have HMK := Lib.hid hm
  have htv := (mv_t.1 hv).1
  have hf := fitM_of hv
  have hff := fitM_of hvf
  obtain ⟨hT1, hT4, hC1, hC4, -⟩ := tv_t.1 htv
  have HMV1 := Lib.hid (fun (W : World) (hb : Below w.heap.size w W) => (show Calls Tryz.prog 77 #[.slice (some ⟨tb, 0, none⟩) T.length ct, .slice (some ⟨fb, 0, none⟩) T.length cf] W fun e w' => e = .returned (.bool true) ∧ W = w' from by
    have := maskValidI (some ⟨tb, 0, none⟩) tb 0 ct T (some ⟨fb, 0, none⟩) fb 0 cf F W (hr.keep hb (Nat.le_refl _)) (by omega) (hfm.keep hb (Nat.le_refl _)) (by rw [hff.1]; omega)
    rwa [hff.1, hvf] at this))
  have HMV2 := Lib.hid (fun (W : World) (hb : Below w.heap.size w W) => (show Calls Tryz.prog 77 #[.slice (some ⟨tb, 0, none⟩) T.length ct, .slice (some ⟨mb, 0, none⟩) T.length cm] W fun e w' => e = .returned (.bool true) ∧ W = w' from by
    have := maskValidI (some ⟨tb, 0, none⟩) tb 0 ct T (some ⟨mb, 0, none⟩) mb 0 cm M W (hr.keep hb (Nat.le_refl _)) (by omega) (hm.keep hb (Nat.le_refl _)) (by rw [hf.1]; omega)
    rwa [hf.1, hv] at this))
  have HIC := Lib.hid (fun (W : World) => isCellI_f n W hn)
  clear hr hfm hm hv hvf hf hff htv hn
  refine (callsIn_wide (n := 10)).1 ?_
  refine callsIn_of_wp_marks Tryz.func78 rfl trivial (wpIn_wide.2 ?_) rfl
  simp only [Tryz.ntmps78, List.size_toArray, List.length_cons, List.length_nil, Nat.reduceAdd, Nat.reduceSub, Array.replicate_succ, Array.replicate_zero, List.push_toArray, List.append_toArray, List.nil_append, List.cons_append]
  go_wp2_with fail
  have hB4 := NeedB.new w (.slice (some ⟨tb, 0, none⟩) T.length ct) (.slice (some ⟨fb, 0, none⟩) T.length cf) (.slice (some ⟨mb, 0, none⟩) T.length cm) n
  have hb4 : Below w.heap.size w ((((w.alloc (.cells #[.slice (some ⟨tb, 0, none⟩) T.length ct] 64)).alloc (.cells #[.slice (some ⟨fb, 0, none⟩) T.length cf] 75)).alloc (.cells #[.slice (some ⟨mb, 0, none⟩) T.length cm] 75)).alloc (.cells #[.int .i64 n] 3)) := (((((Below.refl _ _).alloc (Nat.le_refl _) _).alloc (by simp) _).alloc (by simp; omega) _).alloc (by simp; omega) _)
  have hs4 : ((((w.alloc (.cells #[.slice (some ⟨tb, 0, none⟩) T.length ct] 64)).alloc (.cells #[.slice (some ⟨fb, 0, none⟩) T.length cf] 75)).alloc (.cells #[.slice (some ⟨mb, 0, none⟩) T.length cm] 75)).alloc (.cells #[.int .i64 n] 3)).heap.size = w.heap.size + 4 := by simp
  obtain ⟨X4, hX4⟩ : ∃ X4, ((((w.alloc (.cells #[.slice (some ⟨tb, 0, none⟩) T.length ct] 64)).alloc (.cells #[.slice (some ⟨fb, 0, none⟩) T.length cf] 75)).alloc (.cells #[.slice (some ⟨mb, 0, none⟩) T.length cm] 75)).alloc (.cells #[.int .i64 n] 3)) = X4 := ⟨_, rfl⟩
  rw [hX4] at hB4 hb4 hs4 ⊢
  have HB4 := Lib.hid hB4
  have HW4 := Lib.hid hb4
  have HS4 := Lib.hid hs4
  have c0 := hB4.1.cell
  have c1 := hB4.2.1.cell
  have c2 := hB4.2.2.1.cell
  have c3 := hB4.2.2.2.cell
  clear hX4 hB4 hb4 hs4
  refine (HMV1.out X4 HW4.out).mono ?_
  rintro e w' ⟨rfl, rfl⟩
  go_wp2_with fail
  refine (HMV2.out X4 HW4.out).mono ?_
  rintro e w' ⟨rfl, rfl⟩
  go_wp2_with fail
  refine (HIC.out X4).mono ?_
  rintro e w' ⟨rfl, rfl⟩
  go_wp2_with fail
  exact postF_ret (v := .int .i64 (-1)) (by simp [results, Tryz.results78, go_sem]) rfl ⟨rfl, HW4.out⟩

set_option maxRecDepth 100000 in
set_option maxHeartbeats 8000000 in
theorem needI (tb ct : Nat) (T : List (List Int)) (fb cf : Nat) (F : List (List Bool)) (mb cm : Nat) (M : List (List Bool)) (n : Int) (w : World) (hr : Tab .i64 w (some ⟨tb, 0, none⟩) tb 0 T) (hfm : TabB w (some ⟨fb, 0, none⟩) fb 0 F) (hm : TabB w (some ⟨mb, 0, none⟩) mb 0 M) (hvf : mvB T F = true) (hv : mvB T M = true) (hn : cellB n = true) :
    Calls Tryz.prog 78 #[.slice (some ⟨tb, 0, none⟩) T.length ct, .slice (some ⟨fb, 0, none⟩) T.length cf, .slice (some ⟨mb, 0, none⟩) T.length cm, .int .i64 n] w fun e w' => e = .returned (.int .i64 (((badsM T F M n).length : Nat) : Int)) ∧ Below w.heap.size w w' := by
  have HV := Lib.hid hv
  have HVF := Lib.hid hvf
  have HR := Lib.hid hr
  have HFK := Lib.hid hfm
  have HMK := Lib.hid hm
  have htv := (mv_t.1 hv).1
  have hf := fitM_of hv
  have hff := fitM_of hvf
  obtain ⟨hT1, hT4, hC1, hC4, -⟩ := tv_t.1 htv
  have HMV1 := Lib.hid (fun (W : World) (hb : Below w.heap.size w W) => (show Calls Tryz.prog 77 #[.slice (some ⟨tb, 0, none⟩) T.length ct, .slice (some ⟨fb, 0, none⟩) T.length cf] W fun e w' => e = .returned (.bool true) ∧ W = w' from by
    have := maskValidI (some ⟨tb, 0, none⟩) tb 0 ct T (some ⟨fb, 0, none⟩) fb 0 cf F W (hr.keep hb (Nat.le_refl _)) (by omega) (hfm.keep hb (Nat.le_refl _)) (by rw [hff.1]; omega)
    rwa [hff.1, hvf] at this))
  have HMV2 := Lib.hid (fun (W : World) (hb : Below w.heap.size w W) => (show Calls Tryz.prog 77 #[.slice (some ⟨tb, 0, none⟩) T.length ct, .slice (some ⟨mb, 0, none⟩) T.length cm] W fun e w' => e = .returned (.bool true) ∧ W = w' from by
    have := maskValidI (some ⟨tb, 0, none⟩) tb 0 ct T (some ⟨mb, 0, none⟩) mb 0 cm M W (hr.keep hb (Nat.le_refl _)) (by omega) (hm.keep hb (Nat.le_refl _)) (by rw [hf.1]; omega)
    rwa [hf.1, hv] at this))
  have HIC := Lib.hid (fun (W : World) => isCellI n W hn)
  have HN := Lib.hid hn
  obtain ⟨a0, b0, o0, cc0, hrow0, -, -, -⟩ := hr.2 0 (by omega)
  have hbt : tb < w.heap.size := World.block_lt_of_cell? _ _ hrow0
  clear hr hfm hm hv hvf hf hff htv hn hrow0
  refine (callsIn_wide (n := 10)).1 ?_
  refine callsIn_of_wp_marks Tryz.func78 rfl trivial (wpIn_wide.2 ?_) rfl
  simp only [Tryz.ntmps78, List.size_toArray, List.length_cons, List.length_nil, Nat.reduceAdd, Nat.reduceSub, Array.replicate_succ, Array.replicate_zero, List.push_toArray, List.append_toArray, List.nil_append, List.cons_append]
  go_wp2_with fail
  have hB4 := NeedB.new w (.slice (some ⟨tb, 0, none⟩) T.length ct) (.slice (some ⟨fb, 0, none⟩) T.length cf) (.slice (some ⟨mb, 0, none⟩) T.length cm) n
  have hb4 : Below w.heap.size w ((((w.alloc (.cells #[.slice (some ⟨tb, 0, none⟩) T.length ct] 64)).alloc (.cells #[.slice (some ⟨fb, 0, none⟩) T.length cf] 75)).alloc (.cells #[.slice (some ⟨mb, 0, none⟩) T.length cm] 75)).alloc (.cells #[.int .i64 n] 3)) := (((((Below.refl _ _).alloc (Nat.le_refl _) _).alloc (by simp) _).alloc (by simp; omega) _).alloc (by simp; omega) _)
  have hs4 : ((((w.alloc (.cells #[.slice (some ⟨tb, 0, none⟩) T.length ct] 64)).alloc (.cells #[.slice (some ⟨fb, 0, none⟩) T.length cf] 75)).alloc (.cells #[.slice (some ⟨mb, 0, none⟩) T.length cm] 75)).alloc (.cells #[.int .i64 n] 3)).heap.size = w.heap.size + 4 := by simp
  obtain ⟨X4, hX4⟩ : ∃ X4, ((((w.alloc (.cells #[.slice (some ⟨tb, 0, none⟩) T.length ct] 64)).alloc (.cells #[.slice (some ⟨fb, 0, none⟩) T.length cf] 75)).alloc (.cells #[.slice (some ⟨mb, 0, none⟩) T.length cm] 75)).alloc (.cells #[.int .i64 n] 3)) = X4 := ⟨_, rfl⟩
  rw [hX4] at hB4 hb4 hs4 ⊢
  have HB4 := Lib.hid hB4
  have HW4 := Lib.hid hb4
  have HS4 := Lib.hid hs4
  have c0 := hB4.1.cell
  have c1 := hB4.2.1.cell
  have c2 := hB4.2.2.1.cell
  have c3 := hB4.2.2.2.cell
  clear hX4 hB4 hb4 hs4
  refine (HMV1.out X4 HW4.out).mono ?_
  rintro e w' ⟨rfl, rfl⟩
  go_wp2_with fail
  refine (HMV2.out X4 HW4.out).mono ?_
  rintro e w' ⟨rfl, rfl⟩
  go_wp2_with fail
  refine (HIC.out X4).mono ?_
  rintro e w' ⟨rfl, rfl⟩
  have hal := (Below.refl X4.heap.size X4).alloc (Nat.le_refl _) (.cells #[.int .i64 0] 3)
  have d0 := ((HB4.out.below hal (by rw [HS4.out]; omega)).1).cell
  go_wp2_with (go_at_call 83; refine (callsIn_wide.1 (cells_in Fence.wide 9 trivial rfl _ _ _ _)).mono ?_; rintro e w' ⟨rfl, rfl⟩)
  obtain ⟨X6, hX6⟩ : ∃ X6, (X4.alloc (.cells #[.int .i64 0] 3)).alloc (.cells #[.slice (some ⟨tb, 0, none⟩) T.length ct] 64) = X6 := ⟨_, rfl⟩
  have hb6 : Below X4.heap.size X4 X6 := by rw [← hX6]; exact hal.alloc (by simp) _
  have hn6 : Boxed X6 X4.heap.size 3 (.int .i64 0) := by rw [← hX6]; exact (Boxed.new X4 _ _).alloc _
  have hx6 : Boxed X6 (X4.heap.size + 1) 64 (.slice (some ⟨tb, 0, none⟩) (lensT T).length ct) := by
    rw [← hX6, lensT_len]
    have := Boxed.new (X4.alloc (.cells #[.int .i64 0] 3)) 64 (.slice (some ⟨tb, 0, none⟩) T.length ct)
    rw [World.size_alloc] at this
    exact this
  have hs6 : X6.heap.size = X4.heap.size + 2 := by rw [← hX6]; simp
  have HN6 := Lib.hid hn6
  have HB6 := Lib.hid (HB4.out.below hb6 (by rw [HS4.out]; omega))
  have HW6 := Lib.hid (HW4.out.trans (hb6.mono (by rw [HS4.out]; omega)))
  have hH := tab_headsT (HR.out.keep HW6.out (Nat.le_refl _))
  obtain ⟨nb, hnb⟩ : ∃ nb, X4.heap.size = nb := ⟨_, rfl⟩
  rw [hX6]
  rw [hnb] at HN6 hx6 hs6 ⊢
  have HNB := Lib.hid (show nb = w.heap.size + 4 by rw [← hnb]; exact HS4.out)
  clear hX6 hn6 hb6 hal d0 c0 c1 c2 c3 hnb
  refine (wpIn_wide (n := 10)).1 ?_
  refine wpIn_rangeFunc_ownG (F := Fence.wide) (n := 10) rfl (by omega) (gf := 118) (lb := #[.pointer (some ⟨nb + 1, 0, none⟩)]) rfl trivial (enters_of Tryz.func118 (by kernel_rfl) rfl)
    (cells_stops Fence.wide 9 trivial rfl (by omega) (nb + 1) (some ⟨tb, 0, none⟩) tb 0 ct (lensT T) (by rw [lensT_len]; omega) (Below w.heap.size) (fun A B k o _ => k.cell (p := ⟨tb, o, none⟩) hbt) (fun A => Below.refl _ A) (fun A B C k k' => k.trans k') X6 (by omega) (fun _ => by have := HW6.out.size; omega) hx6.cell hH) belowK_t (belowK_b (by have := HW6.out.size; omega)) (Below.refl _ _) (fun _ => rfl)
    (fun pre W => NeedI T F M n w (.slice (some ⟨tb, 0, none⟩) T.length ct) (.slice (some ⟨fb, 0, none⟩) T.length cf) (.slice (some ⟨mb, 0, none⟩) T.length cm) nb (Pos.vals pre) W) (fun _ _ _ => False) ?own (fun _ _ _ _ _ hs _ _ => hs) ?start
    (fun x => { tmps := #[.slice (some ⟨tb, 0, none⟩) T.length ct, .slice (some ⟨fb, 0, none⟩) T.length cf, .slice (some ⟨mb, 0, none⟩) T.length cm, .int .i64 n, .pointer (some ⟨w.heap.size, 0, none⟩), .pointer (some ⟨w.heap.size + 1, 0, none⟩), .pointer (some ⟨w.heap.size + 1 + 1, 0, none⟩), .pointer (some ⟨w.heap.size + 1 + 1 + 1, 0, none⟩), .int .i64 0, .pointer (some ⟨nb, 0, none⟩), .int .i64 (x.1.1 : Int), .int .i64 (x.1.2 : Int), .slice (some ⟨tb, 0, none⟩) T.length ct, .slice (some ⟨fb, 0, none⟩) T.length cf, .bool true, .bool false, .bool false, .slice (some ⟨tb, 0, none⟩) T.length ct, .slice (some ⟨mb, 0, none⟩) T.length cm, .bool true, .bool false, .bool false, .bool false, .int .i64 n, .bool true, .bool false, .bool false, .slice (some ⟨tb, 0, none⟩) T.length ct, .func (.func 118) #[] #[.pointer (some ⟨nb + 1, 0, none⟩)], .int .i64 (x.1.1 : Int), .int .i64 (x.1.2 : Int), undef, undef, undef, undef, undef, undef, undef, undef, undef, undef, undef, undef, undef, undef, undef, undef, undef, undef, undef], defers := [] }) ?assign ?body ?done ?stop
  case own =>
    rintro s A C row ⟨⟨q1, q2, q3, q4⟩, q5, hbl⟩ hgr hr
    have hr' : ∀ r, row = some r → ∃ o : Obj, A.heap[r]? = some o ∧ o.isCells = false := fun r e => (hr r e).2
    have hk : ∀ (b : Nat) (t : TypeId) (v : Value), Boxed A b t v → some b ≠ row := fun b t v hb e' => by
      obtain ⟨o, ho, hc⟩ := hr' b e'.symm
      rw [show A.heap[b]? = _ from hb] at ho; cases ho; cases hc
    exact ⟨⟨q1.kept hgr (hk _ _ _ q1), q2.kept hgr (hk _ _ _ q2), q3.kept hgr (hk _ _ _ q3), q4.kept hgr (hk _ _ _ q4)⟩, q5.kept hgr (hk _ _ _ q5), ownFrom_below (β := Unit) (Nat.le_refl _) (by have := HW6.out.size; omega) () A C row hbl hgr hr⟩
  case start => exact ⟨HB6.out, HN6.out, HW6.out⟩
  case assign =>
    intro l x W K hK
    gi_wp2
    exact hK
  case body =>
    rintro lp pre ⟨⟨i, j⟩, hi, hj⟩ W ⟨hbx, hcn, hbl⟩ hpl
    have htv := (mv_t.1 HV.out).1
    have hpos := pos_lens htv ⟨(i, j), hi, hj⟩
    simp only at hpos
    obtain ⟨hi', hj'⟩ := hpos
    obtain ⟨f1, f2, f3, m1, m2, m3, -, -⟩ := at_M (HFK.out.keep hbl (Nat.le_refl _)) (fitM_of HVF.out) hi' hj'
    have HPS := Lib.hid (patSafeI tb ct T mb cm M i j n W (HR.out.keep hbl (Nat.le_refl _)) (HMK.out.keep hbl (Nat.le_refl _)) HV.out HN.out hi' hj')
    have hcl : ((Pos.vals pre).filter (badM T F M n)).length ≤ 16 := by
      have h1 := List.length_filter_le (badM T F M n) (Pos.vals pre)
      have h2 := poss_len htv
      have h3 : (Pos.vals pre).length = pre.length := by unfold Pos.vals; rw [List.length_map]
      omega
    have HBAD := Lib.hid (show (Pos.vals (pre ++ [⟨(i, j), hi, hj⟩])).filter (badM T F M n) = (Pos.vals pre).filter (badM T F M n) ++ (if badM T F M n (i, j) then [(i, j)] else []) by rw [Pos.vals_snoc, List.filter_append]; congr 1; by_cases h : badM T F M n (i, j) <;> simp [h])
    have HBE := Lib.hid (show badM T F M n (i, j) = (flagM F i j && !(flagM M i j && safeM T M n i j)) from rfl)
    obtain ⟨c, hc⟩ : ∃ c, ((Pos.vals pre).filter (badM T F M n)).length = c := ⟨_, rfl⟩
    rw [hc] at hcn hcl
    have HC := Lib.hid hc
    obtain ⟨s, hs⟩ : ∃ s, (flagM M i j && safeM T M n i j) = s := ⟨_, rfl⟩
    obtain ⟨fl, hfl⟩ : ∃ fl, flagM F i j = fl := ⟨_, rfl⟩
    rw [hs] at HPS HBE
    rw [hfl] at m2 HBE
    obtain ⟨q, hq⟩ : ∃ q, (T.getD 0 []).length = q := ⟨_, rfl⟩
    rw [hq] at m1 m3 hj'
    have hii : (i : Int) < (T.length : Int) := by omega
    have hjj : (j : Int) < (q : Int) := by omega
    have HBX := Lib.hid hbx
    have HCN := Lib.hid hcn
    have HBL := Lib.hid hbl
    have k0 := hbx.1.cell
    have k1 := hbx.2.1.cell
    have k2 := hbx.2.2.1.cell
    have k3 := hbx.2.2.2.cell
    have SAME : Hid (∀ V : World, Below W.heap.size W V → badM T F M n (i, j) = false → KeepsFrom X6.heap.size W V ∧ Below w.heap.size W V ∧ NeedI T F M n w (.slice (some ⟨tb, 0, none⟩) T.length ct) (.slice (some ⟨fb, 0, none⟩) T.length cf) (.slice (some ⟨mb, 0, none⟩) T.length cm) nb (Pos.vals (pre ++ [⟨(i, j), hi, hj⟩])) V) := Lib.hid fun V hV hb => by
      have hnb := HNB.out
      have hcl := HCN.out.lt
      refine ⟨(below_others hV).from _, hV.mono HBL.out.size, HBX.out.below hV (by omega), ?_, HBL.out.trans (hV.mono HBL.out.size)⟩
      rw [HBAD.out, hb]
      simp only [Bool.false_eq_true, if_false, List.append_nil]
      rw [HC.out]
      exact boxed_below hV HCN.out
    have MORE : Hid (∀ V : World, Below W.heap.size W V → badM T F M n (i, j) = true → KeepsFrom X6.heap.size W (V.setCell ⟨nb, 0, none⟩ (.int .i64 ((c + 1 : Nat) : Int))) ∧ Below w.heap.size W (V.setCell ⟨nb, 0, none⟩ (.int .i64 ((c + 1 : Nat) : Int))) ∧ NeedI T F M n w (.slice (some ⟨tb, 0, none⟩) T.length ct) (.slice (some ⟨fb, 0, none⟩) T.length cf) (.slice (some ⟨mb, 0, none⟩) T.length cm) nb (Pos.vals (pre ++ [⟨(i, j), hi, hj⟩])) (V.setCell ⟨nb, 0, none⟩ (.int .i64 ((c + 1 : Nat) : Int)))) := Lib.hid fun V hV hb => by
      have hnb := HNB.out
      have hcl := HCN.out.lt
      have hbs : Below nb W (V.setCell ⟨nb, 0, none⟩ (.int .i64 ((c + 1 : Nat) : Int))) := (hV.mono (Nat.le_of_lt hcl)).setCell (p := ⟨nb, 0, none⟩) (Nat.le_refl _) _
      refine ⟨((below_others hV).trans (KeepsOthers.setCell _ _ _)).from _, hbs.mono (by omega), HBX.out.below hbs (by omega), ?_, HBL.out.trans (hbs.mono (by omega))⟩
      rw [HBAD.out, hb]
      simp only [if_true, List.length_append, List.length_cons, List.length_nil, Nat.zero_add]
      rw [HC.out]
      exact (boxed_below hV HCN.out).set _
    clear hbx hcn hbl hs hfl hq hc htv hpl hH hx6
    cases fl with
    | false =>
      gi_wp2
      refine ⟨trivial, ?_⟩
      gi_wp2
      exact SAME.out W (Below.refl _ _) (by rw [HBE.out]; rfl)
    | true =>
      gi_wp2
      refine ⟨trivial, (CallsIn.inRound lp (callsIn_wide.2 HPS.out)).mono ?_⟩
      rintro e W2 ⟨rfl, hb2⟩
      have HB2 := Lib.hid hb2
      have hq1 := (boxed_below hb2 HCN.out).cell
      have hq2 := (boxed_below hb2 HCN.out).frozen
      clear hb2
      cases s with
      | true =>
        gi_wp2
        exact SAME.out W2 HB2.out (by rw [HBE.out]; rfl)
      | false =>
        have hwc : IntKind.i64.wrap ((c : Int) + 1) = ((c + 1 : Nat) : Int) := by rw [IntWalk.i64_in _ ⟨by omega, by omega⟩]; rfl
        gi_wp2
        exact MORE.out W2 HB2.out (by rw [HBE.out]; rfl)
  case done =>
    rintro D ys W hD hys ⟨hbx, hcn, hbl⟩ hK
    rw [hys] at hcn
    have hcc := hcn.cell
    have HBL := Lib.hid hbl
    have HKW := Lib.hid hK
    have hDl : D < W.heap.size := (Array.getElem?_eq_some_iff.1 hK).1
    have HDX := Lib.hid (show w.heap.size ≤ D by have := HW6.out.size; omega)
    obtain ⟨c, hc⟩ : ∃ c, ((poss (lensT T)).filter (badM T F M n)).length = c := ⟨_, rfl⟩
    have HC := Lib.hid hc
    rw [hc] at hcc
    clear hbx hcn hbl hK hys hc
    go_wp2_with fail
    refine ⟨by simp, .inl ⟨_, _, rfl, run_takeDeferred HKW.out, ?_⟩⟩
    refine ⟨.int .i64 (c : Int), by simp [results, Tryz.results78, go_sem], ?_, ?_⟩
    · rw [← HC.out]
      rfl
    · exact HBL.out.trans (belowK_b (w := w) (Nat.le_refl _) W D _ _ HDX.out HKW.out rfl rfl)
  case stop =>
    rintro D c pre W _ _ h _
    exact h.elim

set_option maxHeartbeats 1000000 in
theorem patOkI (tb ct : Nat) (T : List (List Int)) (fb cf : Nat) (F : List (List Bool)) (mb cm : Nat) (M : List (List Bool)) (n : Int) (w : World) (hr : Tab .i64 w (some ⟨tb, 0, none⟩) tb 0 T) (hfm : TabB w (some ⟨fb, 0, none⟩) fb 0 F) (hm : TabB w (some ⟨mb, 0, none⟩) mb 0 M) (hvf : mvB T F = true) (hv : mvB T M = true) (hn : cellB n = true) :
    Calls Tryz.prog 80 #[.slice (some ⟨tb, 0, none⟩) T.length ct, .slice (some ⟨fb, 0, none⟩) T.length cf, .slice (some ⟨mb, 0, none⟩) T.length cm, .int .i64 n] w fun e w' => e = .returned (.bool (decide (badsM T F M n = []))) ∧ Below w.heap.size w w' := by
  have HND := Lib.hid (needI tb ct T fb cf F mb cm M n w hr hfm hm hvf hv hn)
  obtain ⟨L, hL⟩ : ∃ L, badsM T F M n = L := ⟨_, rfl⟩
  rw [hL] at HND ⊢
  clear hr hfm hm hvf hv hn hL
  have HLN := Lib.hid (show (((L.length : Nat) : Int) == 0) = decide (L = []) by cases L <;> simp <;> omega)
  go_enter Tryz.func80, Tryz.ntmps80
  go_wp2_with fail
  refine (HND.out).mono ?_
  rintro e w' ⟨rfl, hb⟩
  have HB := Lib.hid hb
  clear hb
  go_wp2_with fail
  go_ret
  exact ⟨by rw [← HLN.out]; rfl, HB.out⟩
end Go.Proofs.YtlmlchkolcmhpaaGreatDoor
