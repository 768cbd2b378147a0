/-
  Contract: impl.square.
-/
import Derived.Test.YtlmlchkolcmhpaaGreatDoorYCopyB
import Derived.Test.YtlmlchkolcmhpaaGreatDoorYNeed
import Derived.Test.YtlmlchkolcmhpaaGreatDoorJ5
import Derived.Carry
import Derived.OrdersHeld
import Derived.Deep.RegionHeld
namespace Go.Proofs.YtlmlchkolcmhpaaGreatDoor
open Go.RowKit Go.Shelf
open Go.TextMath (tvB mvB text word)
attribute [local go_sem] Oper.semAt_some

/-- The first corners set. -/
def setA (M : List (List Bool)) (i j k l : Nat) : Nat → List (List Bool)
  | 0 => M
  | a + 1 => putC (setA M i j k l a) (match a with | 0 => i | 1 => i | 2 => k | _ => k) (match a with | 0 => j | 1 => l | 2 => j | _ => l) true
theorem setA_4 (M : List (List Bool)) (i j k l : Nat) : setA M i j k l 4 = setM M i j k l := rfl
theorem setA_fit {T : List (List Int)} {M : List (List Bool)} (h : FitM T M) {i j k l : Nat} (hi : i < T.length) (hk : k < T.length) : ∀ a, FitM T (setA M i j k l a)
  | 0 => h
  | a + 1 => (setA_fit h hi hk a).put (by split <;> assumption) true
theorem alloc_cell (W : World) (vs : Array Value) (t : TypeId) (m : Nat) (v : Value) (h : vs[m]? = some v) : (W.alloc (.cells vs t)).cell? ⟨W.heap.size, m, none⟩ = some v := by
  have hm := (Array.getElem?_eq_some_iff.1 h).1
  have h1 := (World.rowIs_alloc W vs t (fun i => vs.getD i undef) (fun i hi => by simp [Array.getD, hi])).cell hm
  rw [h1]
  simp only [Array.getD, hm, dif_pos]
  exact congrArg some (Array.getElem?_eq_some_iff.1 h).2
/-- The four corners. -/
def corner (i j k l : Nat) : Nat → Nat × Nat
  | 0 => (i, j)
  | 1 => (i, l)
  | 2 => (k, j)
  | _ => (k, l)
/-- What the first corners cost; whether one of them is not set. -/
def costA (T : List (List Int)) (M : List (List Bool)) (i j k l : Nat) : Nat → Int
  | 0 => 0
  | a + 1 => costA T M i j k l a + costC T M (corner i j k l a).1 (corner i j k l a).2
def openA (M : List (List Bool)) (i j k l : Nat) : Nat → Bool
  | 0 => false
  | a + 1 => openA M i j k l a || !flagM M (corner i j k l a).1 (corner i j k l a).2
theorem costA_b {T : List (List Int)} {M : List (List Bool)} (ht : tvB T = true) {i j k l : Nat} (hi : i < T.length) (hj : j < (T.getD 0 []).length) (hk : k < T.length) (hl : l < (T.getD 0 []).length) :
    ∀ a, (((corner i j k l a).1 < T.length ∧ (corner i j k l a).2 < (T.getD 0 []).length)) ∧ 0 ≤ costA T M i j k l a ∧ costA T M i j k l a ≤ 99 * a := by
  have hc : ∀ a, (corner i j k l a).1 < T.length ∧ (corner i j k l a).2 < (T.getD 0 []).length := fun a => by
    unfold corner
    split <;> exact ⟨by assumption, by assumption⟩
  intro a
  refine ⟨hc a, ?_⟩
  induction a with
  | zero => simp [costA]
  | succ a ih =>
    have := cost_nn (M := M) ht (hc a).1 (hc a).2
    unfold costA
    omega
theorem costA_4 (T : List (List Int)) (M : List (List Bool)) (i j k l : Nat) : costA T M i j k l 4 = costM T M i j k l := by
  simp [costA, corner, costM]
theorem openA_4 (M : List (List Bool)) (i j k l : Nat) : openA M i j k l 4 = openM M i j k l := by
  simp [openA, corner, openM]

/-- The captured variables' boxes. -/
def SqB (w : World) (tv mv : Value) (i j : Nat) (W : World) : Prop :=
  Boxed W w.heap.size 64 tv ∧ Boxed W (w.heap.size + 1) 75 mv ∧ Boxed W (w.heap.size + 1 + 1) 3 (.int .i64 (i : Int)) ∧ Boxed W (w.heap.size + 1 + 1 + 1) 3 (.int .i64 (j : Int))
/-- What the loop keeps. -/
def SqI (T : List (List Int)) (M : List (List Bool)) (i j : Nat) (w : World) (tv mv : Value) (pre : List (Nat × Nat)) (W : World) : Prop :=
  SqB w tv mv i j W ∧ Boxed W (w.heap.size + 1 + 1 + 1 + 1) 3 (.int .i64 (sqM T M i j pre).1) ∧ Boxed W (w.heap.size + 1 + 1 + 1 + 1 + 1) 3 (.int .i64 (((sqM T M i j pre).2.1 : Nat) : Int)) ∧ Boxed W (w.heap.size + 1 + 1 + 1 + 1 + 1 + 1) 3 (.int .i64 (((sqM T M i j pre).2.2 : Nat) : Int)) ∧ Below w.heap.size w W

/-- What square answers. -/
def SqP (T : List (List Int)) (M : List (List Bool)) (i j : Nat) (w : World) (e : Ending) (w' : World) : Prop :=
  Below w.heap.size w w' ∧ match squareM T M i j with
    | none => e = .returned (.tuple #[.slice none 0 0, .bool false])
    | some M' => ∃ ob g, e = .returned (.tuple #[.slice (some ⟨ob, 0, none⟩) T.length T.length, .bool true]) ∧ MtB w' w.heap.size (.slice (some ⟨ob, 0, none⟩) T.length T.length) M' g
theorem sqP_no {T : List (List Int)} {M : List (List Bool)} {i j : Nat} {w w' : World} (h : squareM T M i j = none) (hb : Below w.heap.size w w') : SqP T M i j w (.returned (.tuple #[.slice none 0 0, .bool false])) w' := by
  refine ⟨hb, ?_⟩
  rw [h]
theorem sqP_yes {T : List (List Int)} {M M' : List (List Bool)} {i j ob : Nat} {g : Nat → Nat} {w w' : World} (h : squareM T M i j = some M') (hb : Below w.heap.size w w') (hm : MtB w' w.heap.size (.slice (some ⟨ob, 0, none⟩) T.length T.length) M' g) : SqP T M i j w (.returned (.tuple #[.slice (some ⟨ob, 0, none⟩) T.length T.length, .bool true])) w' := by
  refine ⟨hb, ?_⟩
  rw [h]
  exact ⟨ob, g, rfl, hm⟩

set_option maxRecDepth 100000 in
set_option maxHeartbeats 8000000 in
theorem squareI (tb ct : Nat) (T : List (List Int)) (mb cm : Nat) (M : List (List Bool)) (i j : Nat) (w : World) (hr : Tab .i64 w (some ⟨tb, 0, none⟩) tb 0 T) (hm : TabB w (some ⟨mb, 0, none⟩) mb 0 M) (hv : mvB T M = true) (hi : i < T.length) (hj : j < (T.getD 0 []).length) :
    Calls Tryz.prog 117 #[.slice (some ⟨tb, 0, none⟩) T.length ct, .slice (some ⟨mb, 0, none⟩) T.length cm, .int .i64 (i : Int), .int .i64 (j : Int)] w (SqP T M i j w) := by
  have HV := Lib.hid hv
  have HR := Lib.hid hr
  have HMK := Lib.hid hm
  have HI := Lib.hid hi
  have HJ := Lib.hid hj
  have htv := (mv_t.1 hv).1
  obtain ⟨hT1, hT4, hC1, hC4, -⟩ := tv_t.1 htv
  obtain ⟨a0, b0, o0, cc0, hrow0, -, -, -⟩ := hr.2 0 (by omega)
  have hbt : tb < w.heap.size := World.block_lt_of_cell? _ _ hrow0
  clear hr hm hv htv hrow0
  refine (callsIn_wide (n := 10)).1 ?_
  refine callsIn_of_wp_marks Tryz.func117 rfl trivial (wpIn_wide.2 ?_) rfl
  simp only [Tryz.ntmps117, List.size_toArray, List.length_cons, List.length_nil, Nat.reduceAdd, Nat.reduceSub, Array.replicate_succ, Array.replicate_zero, List.push_toArray, List.append_toArray, List.nil_append, List.cons_append]
  go_wp2_with (go_at_call 83; refine (callsIn_wide.1 (cells_in Fence.wide 9 trivial rfl _ _ _ _)).mono ?_; rintro e w' ⟨rfl, rfl⟩)
  have key : ∀ (V : World) (n : Nat) (v : Value) (t : TypeId), V.heap.size = n → Boxed (V.alloc (.cells #[v] t)) n t v := fun V n v t e => by subst e; exact Boxed.new V t v
  obtain ⟨W8, hW8⟩ : ∃ W8, ((((((((w.alloc (.cells #[.slice (some ⟨tb, 0, none⟩) T.length ct] 64)).alloc (.cells #[.slice (some ⟨mb, 0, none⟩) T.length cm] 75)).alloc (.cells #[.int .i64 (i : Int)] 3)).alloc (.cells #[.int .i64 (j : Int)] 3)).alloc (.cells #[.int .i64 (-1)] 3)).alloc (.cells #[.int .i64 0] 3)).alloc (.cells #[.int .i64 0] 3)).alloc (.cells #[.slice (some ⟨tb, 0, none⟩) T.length ct] 64)) = W8 := ⟨_, rfl⟩
  have hI8 : SqI T M i j w (.slice (some ⟨tb, 0, none⟩) T.length ct) (.slice (some ⟨mb, 0, none⟩) T.length cm) [] W8 := by
    rw [← hW8]
    refine ⟨⟨(((((((key _ _ _ _ rfl).alloc _).alloc _).alloc _).alloc _).alloc _).alloc _).alloc _, ((((((key _ _ _ _ (by simp)).alloc _).alloc _).alloc _).alloc _).alloc _).alloc _, (((((key _ _ _ _ (by simp)).alloc _).alloc _).alloc _).alloc _).alloc _, ((((key _ _ _ _ (by simp)).alloc _).alloc _).alloc _).alloc _⟩, (((key _ _ _ _ (by simp)).alloc _).alloc _).alloc _, ((key _ _ _ _ (by simp)).alloc _).alloc _, (key _ _ _ _ (by simp)).alloc _, ?_⟩
    exact ((((((((Below.refl _ _).alloc (Nat.le_refl _) _).alloc (by simp) _).alloc (by simp; omega) _).alloc (by simp; omega) _).alloc (by simp; omega) _).alloc (by simp; omega) _).alloc (by simp; omega) _).alloc (by simp; omega) _
  have hx8 : Boxed W8 (w.heap.size + 1 + 1 + 1 + 1 + 1 + 1 + 1) 64 (.slice (some ⟨tb, 0, none⟩) (lensT T).length ct) := by
    rw [← hW8, lensT_len]
    exact key _ _ _ _ (by simp)
  have hs8 : W8.heap.size = w.heap.size + 8 := by rw [← hW8]; simp
  have HI8 := Lib.hid hI8
  have HS8 := Lib.hid hs8
  have hH := tab_headsT (HR.out.keep hI8.2.2.2.2 (Nat.le_refl _))
  rw [hW8]
  clear hW8 key hI8
  refine (wpIn_wide (n := 10)).1 ?_
  refine wpIn_rangeFunc_ownG (F := Fence.wide) (n := 10) rfl (by omega) (gf := 118) (lb := #[.pointer (some ⟨w.heap.size + 1 + 1 + 1 + 1 + 1 + 1 + 1, 0, none⟩)]) rfl trivial (enters_of Tryz.func118 (by kernel_rfl) rfl)
    (cells_stops Fence.wide 9 trivial rfl (by omega) (w.heap.size + 1 + 1 + 1 + 1 + 1 + 1 + 1) (some ⟨tb, 0, none⟩) tb 0 ct (lensT T) (by rw [lensT_len]; omega) (Below w.heap.size) (fun A B k o _ => k.cell (p := ⟨tb, o, none⟩) hbt) (fun A => Below.refl _ A) (fun A B C k k' => k.trans k') W8 (by omega) (fun _ => by omega) hx8.cell hH) belowK_t (belowK_b (by omega)) (Below.refl _ _) (fun _ => rfl)
    (fun pre W => SqI T M i j w (.slice (some ⟨tb, 0, none⟩) T.length ct) (.slice (some ⟨mb, 0, none⟩) T.length cm) (Pos.vals pre) W) (fun _ _ _ => False) ?own (fun _ _ _ _ _ hs _ _ => hs) ?start
    (fun x => { tmps := #[.slice (some ⟨tb, 0, none⟩) T.length ct, .slice (some ⟨mb, 0, none⟩) T.length cm, .int .i64 (i : Int), .int .i64 (j : Int), .pointer (some ⟨w.heap.size, 0, none⟩), .pointer (some ⟨w.heap.size + 1, 0, none⟩), .pointer (some ⟨w.heap.size + 1 + 1, 0, none⟩), .pointer (some ⟨w.heap.size + 1 + 1 + 1, 0, none⟩), .slice none 0 0, .bool false, .pointer (some ⟨w.heap.size + 1 + 1 + 1 + 1, 0, none⟩), .pointer (some ⟨w.heap.size + 1 + 1 + 1 + 1 + 1, 0, none⟩), .pointer (some ⟨w.heap.size + 1 + 1 + 1 + 1 + 1 + 1, 0, none⟩), .int .i64 (x.1.1 : Int), .int .i64 (x.1.2 : Int), undef, undef, undef, undef, undef, undef, undef, .slice (some ⟨tb, 0, none⟩) T.length ct, .func (.func 118) #[] #[.pointer (some ⟨w.heap.size + 1 + 1 + 1 + 1 + 1 + 1 + 1, 0, none⟩)], .int .i64 (x.1.1 : Int), .int .i64 (x.1.2 : Int), undef, undef, undef, undef, undef, undef, undef, undef, undef, undef, undef, undef, undef, undef, undef, undef, undef, undef, undef, undef, undef, undef, undef, undef, undef, undef, undef, undef, undef, undef, undef, undef, undef, undef, undef, undef, undef, undef, undef, undef, undef, undef, undef, undef, undef, undef, undef, undef, undef, undef, undef, undef, undef, undef, undef, undef, undef, undef, undef, undef, undef, undef, undef, undef, undef, undef, undef, undef, undef, undef, undef, undef, undef, undef, undef, undef, undef, undef, undef, undef, undef, undef, undef, undef, undef, undef, undef, undef, undef, undef, undef, undef, undef], defers := [] }) ?assign ?body ?done ?stop
  case own =>
    rintro s A C row ⟨⟨q1, q2, q3, q4⟩, q5, q6, q7, hbl⟩ hgr hr
    have hr' : ∀ r, row = some r → ∃ o : Obj, A.heap[r]? = some o ∧ o.isCells = false := fun r e => (hr r e).2
    have hk : ∀ (b : Nat) (t : TypeId) (v : Value), Boxed A b t v → some b ≠ row := fun b t v hb e' => by
      obtain ⟨o, ho, hc⟩ := hr' b e'.symm
      rw [show A.heap[b]? = _ from hb] at ho; cases ho; cases hc
    exact ⟨⟨q1.kept hgr (hk _ _ _ q1), q2.kept hgr (hk _ _ _ q2), q3.kept hgr (hk _ _ _ q3), q4.kept hgr (hk _ _ _ q4)⟩, q5.kept hgr (hk _ _ _ q5), q6.kept hgr (hk _ _ _ q6), q7.kept hgr (hk _ _ _ q7), ownFrom_below (β := Unit) (Nat.le_refl _) (by have := HS8.out; omega) () A C row hbl hgr hr⟩
  case start => exact HI8.out
  case assign =>
    intro l x W K hK
    gi_wp2
    exact hK
  case body =>
    rintro lp pre ⟨⟨k, l⟩, hk, hl⟩ W hst hpl
    clear hs8
    have htv := (mv_t.1 HV.out).1
    have hpos := pos_lens htv ⟨(k, l), hk, hl⟩
    simp only at hpos
    obtain ⟨hk', hl'⟩ := hpos
    have hpre := vals_in htv pre
    have hinv := sq_inv (M := M) htv HI.out HJ.out (Pos.vals pre) hpre
    have HSN := Lib.hid (show sqM T M i j (Pos.vals (pre ++ [⟨(k, l), hk, hl⟩])) = sqN T M i j (sqM T M i j (Pos.vals pre)) (k, l) by rw [Pos.vals_snoc, sqM_snoc])
    obtain ⟨Z, hZ⟩ : ∃ Z, sqM T M i j (Pos.vals pre) = Z := ⟨_, rfl⟩
    have HZ := Lib.hid hZ
    have HST := Lib.hid hst
    obtain ⟨⟨hb0, hb1, hb2, hb3⟩, hb4, hb5, hb6, hbl⟩ := hst
    rw [hZ] at hb4 hb5 hb6 hinv HSN
    have k2 := hb2.cell
    have k3 := hb3.cell
    have SKIP : Hid (sqN T M i j Z (k, l) = Z → SqI T M i j w (.slice (some ⟨tb, 0, none⟩) T.length ct) (.slice (some ⟨mb, 0, none⟩) T.length cm) (Pos.vals (pre ++ [⟨(k, l), hk, hl⟩])) W) := Lib.hid fun e => by
      unfold SqI
      rw [HSN.out, e, ← HZ.out]
      exact HST.out
    clear hZ hpre hpl hx8 hH htv
    by_cases h1 : k = i
    · have n1 : ((k : Int) == (i : Int)) = true := by simp [h1]
      have HEQ := Lib.hid (show sqN T M i j Z (k, l) = Z by unfold sqN; rw [if_pos (.inl h1)])
      clear h1 hinv hb0 hb1 hb2 hb3 hb4 hb5 hb6 hbl
      gi_wp2
      exact ⟨KeepsFrom.refl _ _, Below.refl _ _, SKIP.out HEQ.out⟩
    · have n1 : ((k : Int) == (i : Int)) = false := by simp; omega
      by_cases h2 : l = j
      · have n2 : ((l : Int) == (j : Int)) = true := by simp [h2]
        have HEQ := Lib.hid (show sqN T M i j Z (k, l) = Z by unfold sqN; rw [if_pos (.inr h2)])
        clear h1 h2 hinv hb0 hb1 hb2 hb3 hb4 hb5 hb6 hbl
        gi_wp2
        exact ⟨KeepsFrom.refl _ _, Below.refl _ _, SKIP.out HEQ.out⟩
      · have n2 : ((l : Int) == (j : Int)) = false := by simp; omega
        have HNE := Lib.hid (show ¬ (k = i ∨ l = j) from fun h => h.elim h1 h2)
        have HINV := Lib.hid hinv
        have k0 := hb0.cell
        have k1 := hb1.cell
        have k4 := hb4.cell
        have HBL := Lib.hid hbl
        clear h1 h2 hinv hb0 hb1 hb2 hb3 hb4 hb5 hb6 hbl
        gi_wp2
        obtain ⟨qb, hqb⟩ : ∃ qb, W.heap.size = qb := ⟨_, rfl⟩
        obtain ⟨W1, hW1⟩ : ∃ W1, W.alloc (.cells #[.int .i64 (i : Int), .int .i64 (j : Int), .int .i64 (i : Int), .int .i64 (l : Int), .int .i64 (k : Int), .int .i64 (j : Int), .int .i64 (k : Int), .int .i64 (l : Int)] 148) = W1 := ⟨_, rfl⟩
        have hb1 : Below W.heap.size W W1 := by rw [← hW1]; exact (Below.refl _ _).alloc (Nat.le_refl _) _
        have hs1 : W1.heap.size = W.heap.size + 1 := by rw [← hW1]; simp
        have hcor : ∀ a, a < 4 → W1.cell? ⟨W.heap.size, a * 2, none⟩ = some (.int .i64 (((corner i j k l a).1 : Nat) : Int)) ∧ W1.cell? ⟨W.heap.size, a * 2 + 1, none⟩ = some (.int .i64 (((corner i j k l a).2 : Nat) : Int)) := fun a ha => by
          rw [← hW1]
          have h4 : a = 0 ∨ a = 1 ∨ a = 2 ∨ a = 3 := by omega
          rcases h4 with rfl | rfl | rfl | rfl <;> exact ⟨alloc_cell _ _ _ _ _ rfl, alloc_cell _ _ _ _ _ rfl⟩
        rw [hW1]
        rw [hqb] at hcor hs1 ⊢
        have HB1 := Lib.hid hb1
        have HCOR := Lib.hid hcor
        have HS1 := Lib.hid hs1
        have HQB := Lib.hid hqb
        have hqlt : qb < W1.heap.size := by omega
        clear hb1 hcor hs1 hW1 hqb k0 k1 k2 k3 k4 n1 n2
        gi_loopw [15, 16, 48] (fun cost op ix wr => ∃ a : Nat, a ≤ 4 ∧ cost = .int .i64 (costA T M i j k l a) ∧ op = .bool (openA M i j k l a) ∧ ix = .int .i64 (a : Int) ∧ Below W1.heap.size W1 wr) (fun _ _ ix _ => 4 - (intOf ix).toNat)
        case atStart => exact ⟨0, Nat.zero_le _, rfl, rfl, rfl, Below.refl _ _⟩
        case round =>
          obtain ⟨a, ha, rfl, rfl, rfl, hbw⟩ := hrel
          by_cases hlt : a < 4
          · have h4 : (a : Int) < 4 := by omega
            obtain ⟨q0, q1⟩ := HCOR.out a hlt
            have q0' := (hbw.cell (p := ⟨qb, a * 2, none⟩) hqlt).trans q0
            have q1' := (hbw.cell (p := ⟨qb, a * 2 + 1, none⟩) hqlt).trans q1
            have HBW := Lib.hid hbw
            obtain ⟨x, hx⟩ : ∃ x, (corner i j k l a).1 = x := ⟨_, rfl⟩
            obtain ⟨y, hy⟩ : ∃ y, (corner i j k l a).2 = y := ⟨_, rfl⟩
            rw [hx] at q0'
            rw [hy] at q1'
            clear hbw q0 q1
            obtain ⟨⟨cx, cy⟩, cA0, cA1⟩ := costA_b (M := M) (mv_t.1 HV.out).1 HI.out HJ.out hk' hl' a
            rw [hx] at cx
            rw [hy] at cy
            gi_wp2
            have hsz := HBW.out.size
            have hb2 : Below W1.heap.size W1 (wr.alloc (.cells #[.int .i64 (x : Int), .int .i64 (y : Int)] 148)) := HBW.out.alloc hsz _
            have c0 : (wr.alloc (.cells #[.int .i64 (x : Int), .int .i64 (y : Int)] 148)).cell? ⟨wr.heap.size, 0, none⟩ = some (.int .i64 (x : Int)) := alloc_cell _ _ _ _ _ rfl
            have c1 : (wr.alloc (.cells #[.int .i64 (x : Int), .int .i64 (y : Int)] 148)).cell? ⟨wr.heap.size, 1, none⟩ = some (.int .i64 (y : Int)) := alloc_cell _ _ _ _ _ rfl
            obtain ⟨wb, hwb⟩ : ∃ wb, wr.heap.size = wb := ⟨_, rfl⟩
            obtain ⟨W2, hW2⟩ : ∃ W2, wr.alloc (.cells #[.int .i64 (x : Int), .int .i64 (y : Int)] 148) = W2 := ⟨_, rfl⟩
            rw [hW2] at hb2 c0 c1 ⊢
            rw [hwb] at c0 c1 ⊢
            have hbW : Below w.heap.size w W2 := HBL.out.trans ((HB1.out.trans (hb2.mono HB1.out.size)).mono HBL.out.size)
            have hWW : Below W.heap.size W W2 := HB1.out.trans (hb2.mono HB1.out.size)
            obtain ⟨f1, f2, f3, m1, m2, m3, -, -⟩ := at_M (HMK.out.keep hbW (Nat.le_refl _)) (fitM_of HV.out) cx cy
            obtain ⟨t1, t2, t3, r1, r2, r3, -, -⟩ := at_T (HR.out.keep hbW (Nat.le_refl _)) (mv_t.1 HV.out).1 cx cy
            have k0 := (boxed_below hWW HST.out.1.1).cell
            have k1 := (boxed_below hWW HST.out.1.2.1).cell
            have HB2 := Lib.hid hb2
            obtain ⟨fl, hfl⟩ : ∃ fl, flagM M x y = fl := ⟨_, rfl⟩
            obtain ⟨z, hz⟩ : ∃ z, cellT T x y = z := ⟨_, rfl⟩
            have hz0 := (tv_bounds (mv_t.1 HV.out).1).1 x cx y cy
            have hz1 := (tv_bounds (mv_t.1 HV.out).1).2 x cx y cy
            rw [hz] at hz0 hz1 r2
            rw [hfl] at m2
            have HNX := Lib.hid (show costA T M i j k l (a + 1) = costA T M i j k l a + (if fl then 0 else z) ∧ openA M i j k l (a + 1) = (openA M i j k l a || !fl) from by
              have e1 : costA T M i j k l (a + 1) = costA T M i j k l a + costC T M (corner i j k l a).1 (corner i j k l a).2 := rfl
              have e2 : openA M i j k l (a + 1) = (openA M i j k l a || !flagM M (corner i j k l a).1 (corner i j k l a).2) := rfl
              rw [e1, e2, hx, hy]
              unfold costC
              rw [hfl, hz]
              exact ⟨rfl, rfl⟩)
            obtain ⟨q, hq⟩ : ∃ q, (T.getD 0 []).length = q := ⟨_, rfl⟩
            rw [hq] at m1 m3 r1 r3 cy
            obtain ⟨CA, hCA⟩ : ∃ CA, costA T M i j k l a = CA := ⟨_, rfl⟩
            obtain ⟨OA, hOA⟩ : ∃ OA, openA M i j k l a = OA := ⟨_, rfl⟩
            rw [hCA] at cA0 cA1 HNX ⊢
            rw [hOA] at HNX ⊢
            have hwz : IntKind.i64.wrap (CA + z) = CA + z := IntWalk.i64_in _ ⟨by omega, by omega⟩
            have hxi : (x : Int) < (T.length : Int) := by omega
            have hyi : (y : Int) < (q : Int) := by omega
            clear hW2 hwb hb2 hbW hWW hfl hz hq hCA hOA hx hy hsz q0' q1' hz0 hz1
            refine region_round (by kernel_rfl) (by kernel_rfl) (wpAny_of_held (S := (fun V => V.cell? ⟨w.heap.size + 1, 0, none⟩ = some (.slice (some ⟨mb, 0, none⟩) T.length cm) ∧ V.cell? ⟨wb, 0, none⟩ = some (.int .i64 (x : Int)) ∧ V.cell? ⟨wb, 1, none⟩ = some (.int .i64 (y : Int)) ∧ V.cell? ⟨mb, x, none⟩ = some (.slice (some ⟨f1, f2, none⟩) q f3) ∧ V.cell? ⟨f1, f2 + y, none⟩ = some (.bool fl))) _ _ _ _ ?_)
            change wpAnyH _ _ _ _ _ _ _ _ W2.drew
            have hS0 : W2.drew.cell? ⟨w.heap.size + 1, 0, none⟩ = some (.slice (some ⟨mb, 0, none⟩) T.length cm) ∧ W2.drew.cell? ⟨wb, 0, none⟩ = some (.int .i64 (x : Int)) ∧ W2.drew.cell? ⟨wb, 1, none⟩ = some (.int .i64 (y : Int)) ∧ W2.drew.cell? ⟨mb, x, none⟩ = some (.slice (some ⟨f1, f2, none⟩) q f3) ∧ W2.drew.cell? ⟨f1, f2 + y, none⟩ = some (.bool fl) := ⟨k1, c0, c1, m1, m2⟩
            refine wpAnyH_take (i := 0) (oi := ⟨some 52, _, _, _, _, _⟩) (v := .slice (some ⟨mb, 0, none⟩) T.length cm) rfl (by kernel_rfl) (by kernel_rfl) (by kernel_rfl) (fun _ _ _ h => h) (Or.inl ⟨by kernel_rfl, fun V hV => ?_⟩) hS0 ?_
            · obtain ⟨q0, q1, q2, q3, q4⟩ := hV
              go_simp
            simp only [Act.put, List.setIfInBounds_toArray, List.set_cons_zero, List.set_cons_succ]
            refine wpAnyH_take (i := 1) (oi := ⟨some 53, _, _, _, _, _⟩) (v := .pointer (some ⟨wb, 0, none⟩)) rfl (by kernel_rfl) (by kernel_rfl) (by kernel_rfl) (fun _ _ _ h => h) (Or.inl ⟨by kernel_rfl, fun V hV => ?_⟩) hS0 ?_
            · obtain ⟨q0, q1, q2, q3, q4⟩ := hV
              go_simp
            simp only [Act.put, List.setIfInBounds_toArray, List.set_cons_zero, List.set_cons_succ]
            refine wpAnyH_take (i := 2) (oi := ⟨some 54, _, _, _, _, _⟩) (v := .int .i64 (x : Int)) rfl (by kernel_rfl) (by kernel_rfl) (by kernel_rfl) (fun _ _ _ h => h) (Or.inl ⟨by kernel_rfl, fun V hV => ?_⟩) hS0 ?_
            · obtain ⟨q0, q1, q2, q3, q4⟩ := hV
              go_simp
            simp only [Act.put, List.setIfInBounds_toArray, List.set_cons_zero, List.set_cons_succ]
            refine wpAnyH_take (i := 3) (oi := ⟨some 55, _, _, _, _, _⟩) (v := .pointer (some ⟨mb, x, none⟩)) rfl (by kernel_rfl) (by kernel_rfl) (by kernel_rfl) (fun _ _ _ h => h) (Or.inl ⟨by kernel_rfl, fun V hV => ?_⟩) hS0 ?_
            · obtain ⟨q0, q1, q2, q3, q4⟩ := hV
              go_simp
            simp only [Act.put, List.setIfInBounds_toArray, List.set_cons_zero, List.set_cons_succ]
            refine wpAnyH_take (i := 4) (oi := ⟨some 56, _, _, _, _, _⟩) (v := .slice (some ⟨f1, f2, none⟩) q f3) rfl (by kernel_rfl) (by kernel_rfl) (by kernel_rfl) (fun _ _ _ h => h) (Or.inl ⟨by kernel_rfl, fun V hV => ?_⟩) hS0 ?_
            · obtain ⟨q0, q1, q2, q3, q4⟩ := hV
              go_simp
            simp only [Act.put, List.setIfInBounds_toArray, List.set_cons_zero, List.set_cons_succ]
            refine wpAnyH_take (i := 5) (oi := ⟨some 57, _, _, _, _, _⟩) (v := .pointer (some ⟨wb, 1, none⟩)) rfl (by kernel_rfl) (by kernel_rfl) (by kernel_rfl) (fun _ _ _ h => h) (Or.inl ⟨by kernel_rfl, fun V hV => ?_⟩) hS0 ?_
            · obtain ⟨q0, q1, q2, q3, q4⟩ := hV
              go_simp
            simp only [Act.put, List.setIfInBounds_toArray, List.set_cons_zero, List.set_cons_succ]
            refine wpAnyH_take (i := 6) (oi := ⟨some 58, _, _, _, _, _⟩) (v := .int .i64 (y : Int)) rfl (by kernel_rfl) (by kernel_rfl) (by kernel_rfl) (fun _ _ _ h => h) (Or.inl ⟨by kernel_rfl, fun V hV => ?_⟩) hS0 ?_
            · obtain ⟨q0, q1, q2, q3, q4⟩ := hV
              go_simp
            simp only [Act.put, List.setIfInBounds_toArray, List.set_cons_zero, List.set_cons_succ]
            refine wpAnyH_take (i := 7) (oi := ⟨some 59, _, _, _, _, _⟩) (v := .pointer (some ⟨f1, f2 + y, none⟩)) rfl (by kernel_rfl) (by kernel_rfl) (by kernel_rfl) (fun _ _ _ h => h) (Or.inl ⟨by kernel_rfl, fun V hV => ?_⟩) hS0 ?_
            · obtain ⟨q0, q1, q2, q3, q4⟩ := hV
              go_simp
            simp only [Act.put, List.setIfInBounds_toArray, List.set_cons_zero, List.set_cons_succ]
            refine wpAnyH_take (i := 8) (oi := ⟨some 60, _, _, _, _, _⟩) (v := .bool fl) rfl (by kernel_rfl) (by kernel_rfl) (by kernel_rfl) (fun _ _ _ h => h) (Or.inl ⟨by kernel_rfl, fun V hV => ?_⟩) hS0 ?_
            · obtain ⟨q0, q1, q2, q3, q4⟩ := hV
              go_simp
            simp only [Act.put, List.setIfInBounds_toArray, List.set_cons_zero, List.set_cons_succ]
            refine wpAnyH_take (i := 9) (oi := ⟨some 61, _, _, _, _, _⟩) (v := .bool (!fl)) rfl (by kernel_rfl) (by kernel_rfl) (by kernel_rfl) (fun _ _ _ h => h) (Or.inl ⟨by kernel_rfl, fun V hV => ?_⟩) hS0 ?_
            · obtain ⟨q0, q1, q2, q3, q4⟩ := hV
              go_simp
            simp only [Act.put, List.setIfInBounds_toArray, List.set_cons_zero, List.set_cons_succ]
            refine wpAnyH_done (by kernel_rfl) ?_ _
            simp only [only, Exit.then]
            cases fl with
            | true =>
              gi_wp2
              go_roundw
              case rel => exact ⟨a + 1, by omega, by rw [HNX.out.1]; simp, by rw [HNX.out.2]; simp, by go_num, HB2.out.drew⟩
              case measure => simp [intOf]; omega
            | false =>
              gi_wp2
              have hd0 : W2.drew.cell? ⟨w.heap.size, 0, none⟩ = some (.slice (some ⟨tb, 0, none⟩) T.length ct) := k0
              refine region_round (by kernel_rfl) (by kernel_rfl) (wpAny_of_held (S := (fun V => V.cell? ⟨w.heap.size, 0, none⟩ = some (.slice (some ⟨tb, 0, none⟩) T.length ct) ∧ V.cell? ⟨wb, 0, none⟩ = some (.int .i64 (x : Int)) ∧ V.cell? ⟨wb, 1, none⟩ = some (.int .i64 (y : Int)) ∧ V.cell? ⟨tb, x, none⟩ = some (.slice (some ⟨t1, t2, none⟩) q t3) ∧ V.cell? ⟨t1, t2 + y, none⟩ = some (.int .i64 z))) _ _ _ _ ?_)
              change wpAnyH _ _ _ _ _ _ _ _ W2.drew.drew
              have hS0 : W2.drew.drew.cell? ⟨w.heap.size, 0, none⟩ = some (.slice (some ⟨tb, 0, none⟩) T.length ct) ∧ W2.drew.drew.cell? ⟨wb, 0, none⟩ = some (.int .i64 (x : Int)) ∧ W2.drew.drew.cell? ⟨wb, 1, none⟩ = some (.int .i64 (y : Int)) ∧ W2.drew.drew.cell? ⟨tb, x, none⟩ = some (.slice (some ⟨t1, t2, none⟩) q t3) ∧ W2.drew.drew.cell? ⟨t1, t2 + y, none⟩ = some (.int .i64 z) := ⟨k0, c0, c1, r1, r2⟩
              refine wpAnyH_take (i := 0) (oi := ⟨some 62, _, _, _, _, _⟩) (v := .int .i64 CA) rfl (by kernel_rfl) (by kernel_rfl) (by kernel_rfl) (fun _ _ _ h => h) (Or.inl ⟨by kernel_rfl, fun V hV => ?_⟩) hS0 ?_
              · obtain ⟨q0, q1, q2, q3, q4⟩ := hV
                go_simp
              simp only [Act.put, List.setIfInBounds_toArray, List.set_cons_zero, List.set_cons_succ]
              refine wpAnyH_take (i := 1) (oi := ⟨some 63, _, _, _, _, _⟩) (v := .slice (some ⟨tb, 0, none⟩) T.length ct) rfl (by kernel_rfl) (by kernel_rfl) (by kernel_rfl) (fun _ _ _ h => h) (Or.inl ⟨by kernel_rfl, fun V hV => ?_⟩) hS0 ?_
              · obtain ⟨q0, q1, q2, q3, q4⟩ := hV
                go_simp
              simp only [Act.put, List.setIfInBounds_toArray, List.set_cons_zero, List.set_cons_succ]
              refine wpAnyH_take (i := 2) (oi := ⟨some 64, _, _, _, _, _⟩) (v := .pointer (some ⟨wb, 0, none⟩)) rfl (by kernel_rfl) (by kernel_rfl) (by kernel_rfl) (fun _ _ _ h => h) (Or.inl ⟨by kernel_rfl, fun V hV => ?_⟩) hS0 ?_
              · obtain ⟨q0, q1, q2, q3, q4⟩ := hV
                go_simp
              simp only [Act.put, List.setIfInBounds_toArray, List.set_cons_zero, List.set_cons_succ]
              refine wpAnyH_take (i := 3) (oi := ⟨some 65, _, _, _, _, _⟩) (v := .int .i64 (x : Int)) rfl (by kernel_rfl) (by kernel_rfl) (by kernel_rfl) (fun _ _ _ h => h) (Or.inl ⟨by kernel_rfl, fun V hV => ?_⟩) hS0 ?_
              · obtain ⟨q0, q1, q2, q3, q4⟩ := hV
                go_simp
              simp only [Act.put, List.setIfInBounds_toArray, List.set_cons_zero, List.set_cons_succ]
              refine wpAnyH_take (i := 4) (oi := ⟨some 66, _, _, _, _, _⟩) (v := .pointer (some ⟨tb, x, none⟩)) rfl (by kernel_rfl) (by kernel_rfl) (by kernel_rfl) (fun _ _ _ h => h) (Or.inl ⟨by kernel_rfl, fun V hV => ?_⟩) hS0 ?_
              · obtain ⟨q0, q1, q2, q3, q4⟩ := hV
                go_simp
              simp only [Act.put, List.setIfInBounds_toArray, List.set_cons_zero, List.set_cons_succ]
              refine wpAnyH_take (i := 5) (oi := ⟨some 67, _, _, _, _, _⟩) (v := .slice (some ⟨t1, t2, none⟩) q t3) rfl (by kernel_rfl) (by kernel_rfl) (by kernel_rfl) (fun _ _ _ h => h) (Or.inl ⟨by kernel_rfl, fun V hV => ?_⟩) hS0 ?_
              · obtain ⟨q0, q1, q2, q3, q4⟩ := hV
                go_simp
              simp only [Act.put, List.setIfInBounds_toArray, List.set_cons_zero, List.set_cons_succ]
              refine wpAnyH_take (i := 6) (oi := ⟨some 68, _, _, _, _, _⟩) (v := .pointer (some ⟨wb, 1, none⟩)) rfl (by kernel_rfl) (by kernel_rfl) (by kernel_rfl) (fun _ _ _ h => h) (Or.inl ⟨by kernel_rfl, fun V hV => ?_⟩) hS0 ?_
              · obtain ⟨q0, q1, q2, q3, q4⟩ := hV
                go_simp
              simp only [Act.put, List.setIfInBounds_toArray, List.set_cons_zero, List.set_cons_succ]
              refine wpAnyH_take (i := 7) (oi := ⟨some 69, _, _, _, _, _⟩) (v := .int .i64 (y : Int)) rfl (by kernel_rfl) (by kernel_rfl) (by kernel_rfl) (fun _ _ _ h => h) (Or.inl ⟨by kernel_rfl, fun V hV => ?_⟩) hS0 ?_
              · obtain ⟨q0, q1, q2, q3, q4⟩ := hV
                go_simp
              simp only [Act.put, List.setIfInBounds_toArray, List.set_cons_zero, List.set_cons_succ]
              refine wpAnyH_take (i := 8) (oi := ⟨some 70, _, _, _, _, _⟩) (v := .pointer (some ⟨t1, t2 + y, none⟩)) rfl (by kernel_rfl) (by kernel_rfl) (by kernel_rfl) (fun _ _ _ h => h) (Or.inl ⟨by kernel_rfl, fun V hV => ?_⟩) hS0 ?_
              · obtain ⟨q0, q1, q2, q3, q4⟩ := hV
                go_simp
              simp only [Act.put, List.setIfInBounds_toArray, List.set_cons_zero, List.set_cons_succ]
              refine wpAnyH_take (i := 9) (oi := ⟨some 71, _, _, _, _, _⟩) (v := .int .i64 z) rfl (by kernel_rfl) (by kernel_rfl) (by kernel_rfl) (fun _ _ _ h => h) (Or.inl ⟨by kernel_rfl, fun V hV => ?_⟩) hS0 ?_
              · obtain ⟨q0, q1, q2, q3, q4⟩ := hV
                go_simp
              simp only [Act.put, List.setIfInBounds_toArray, List.set_cons_zero, List.set_cons_succ]
              refine wpAnyH_take (i := 10) (oi := ⟨some 72, _, _, _, _, _⟩) (v := .int .i64 (CA + z)) rfl (by kernel_rfl) (by kernel_rfl) (by kernel_rfl) (fun _ _ _ h => h) (Or.inl ⟨by kernel_rfl, fun V hV => ?_⟩) hS0 ?_
              · obtain ⟨q0, q1, q2, q3, q4⟩ := hV
                go_simp
              simp only [Act.put, List.setIfInBounds_toArray, List.set_cons_zero, List.set_cons_succ]
              refine wpAnyH_take (i := 11) (oi := ⟨some 15, _, _, _, _, _⟩) (v := .int .i64 (CA + z)) rfl (by kernel_rfl) (by kernel_rfl) (by kernel_rfl) (fun _ _ _ h => h) (Or.inl ⟨by kernel_rfl, fun V hV => ?_⟩) hS0 ?_
              · obtain ⟨q0, q1, q2, q3, q4⟩ := hV
                go_simp
              simp only [Act.put, List.setIfInBounds_toArray, List.set_cons_zero, List.set_cons_succ]
              refine wpAnyH_done (by kernel_rfl) ?_ _
              simp only [only, Exit.then]
              gi_wp2
              go_roundw
              case rel => exact ⟨a + 1, by omega, by rw [HNX.out.1]; simp, by rw [HNX.out.2]; simp, by go_num, HB2.out.drew.drew⟩
              case measure => simp [intOf]; omega
          · obtain rfl : a = 4 := by omega
            have hWr : Below W.heap.size W wr := HB1.out.trans (hbw.mono HB1.out.size)
            have HWR := Lib.hid hWr
            rw [costA_4, openA_4]
            have q4 := (boxed_below hWr HST.out.2.1).cell
            have q4f := (boxed_below hWr HST.out.2.1).frozen
            have q5 := (boxed_below hWr HST.out.2.2.1).cell
            have q5f := (boxed_below hWr HST.out.2.2.1).frozen
            have q6 := (boxed_below hWr HST.out.2.2.2.1).cell
            have q6f := (boxed_below hWr HST.out.2.2.2.1).frozen
            rw [HZ.out] at q4 q5 q6
            obtain ⟨z1, hz1⟩ : ∃ z1, Z.1 = z1 := ⟨_, rfl⟩
            obtain ⟨z2, hz2⟩ : ∃ z2, Z.2.1 = z2 := ⟨_, rfl⟩
            obtain ⟨z3, hz3⟩ : ∃ z3, Z.2.2 = z3 := ⟨_, rfl⟩
            rw [hz1] at q4
            rw [hz2] at q5
            rw [hz3] at q6
            obtain ⟨CM, hCM⟩ : ∃ CM, costM T M i j k l = CM := ⟨_, rfl⟩
            obtain ⟨OM, hOM⟩ : ∃ OM, openM M i j k l = OM := ⟨_, rfl⟩
            rw [hCM, hOM]
            have HNX := Lib.hid (show sqN T M i j Z (k, l) = if OM = true ∧ (z1 < 0 ∨ CM < z1) then (CM, k, l) else Z by
              unfold sqN
              rw [if_neg HNE.out]
              simp only [hOM, hCM, hz1])
            have SKIPW : Hid (sqN T M i j Z (k, l) = Z → KeepsFrom W8.heap.size W wr ∧ Below w.heap.size W wr ∧ SqI T M i j w (.slice (some ⟨tb, 0, none⟩) T.length ct) (.slice (some ⟨mb, 0, none⟩) T.length cm) (Pos.vals (pre ++ [⟨(k, l), hk, hl⟩])) wr) := Lib.hid fun e => by
              obtain ⟨⟨p0, p1, p2, p3⟩, p4, p5, p6, pb⟩ := SKIP.out e
              exact ⟨(below_others HWR.out).from _, HWR.out.mono HBL.out.size, ⟨boxed_below HWR.out p0, boxed_below HWR.out p1, boxed_below HWR.out p2, boxed_below HWR.out p3⟩, boxed_below HWR.out p4, boxed_below HWR.out p5, boxed_below HWR.out p6, pb.trans (HWR.out.mono HBL.out.size)⟩
            have UPD : Hid (sqN T M i j Z (k, l) = (CM, k, l) → ∀ V : World, V = ((wr.setCell ⟨w.heap.size + 1 + 1 + 1 + 1, 0, none⟩ (.int .i64 CM)).setCell ⟨w.heap.size + 1 + 1 + 1 + 1 + 1, 0, none⟩ (.int .i64 (k : Int))).setCell ⟨w.heap.size + 1 + 1 + 1 + 1 + 1 + 1, 0, none⟩ (.int .i64 (l : Int)) → KeepsFrom W8.heap.size W V ∧ Below w.heap.size W V ∧ SqI T M i j w (.slice (some ⟨tb, 0, none⟩) T.length ct) (.slice (some ⟨mb, 0, none⟩) T.length cm) (Pos.vals (pre ++ [⟨(k, l), hk, hl⟩])) V) := Lib.hid fun e V hV => by
              subst hV
              obtain ⟨⟨p0, p1, p2, p3⟩, p4, p5, p6, pb⟩ := HST.out
              have hbs : Below w.heap.size W (((wr.setCell ⟨w.heap.size + 1 + 1 + 1 + 1, 0, none⟩ (.int .i64 CM)).setCell ⟨w.heap.size + 1 + 1 + 1 + 1 + 1, 0, none⟩ (.int .i64 (k : Int))).setCell ⟨w.heap.size + 1 + 1 + 1 + 1 + 1 + 1, 0, none⟩ (.int .i64 (l : Int))) := (((HWR.out.mono HBL.out.size).setCell (p := ⟨w.heap.size + 1 + 1 + 1 + 1, 0, none⟩) (by simp only; omega) _).setCell (p := ⟨w.heap.size + 1 + 1 + 1 + 1 + 1, 0, none⟩) (by simp only; omega) _).setCell (p := ⟨w.heap.size + 1 + 1 + 1 + 1 + 1 + 1, 0, none⟩) (by simp only; omega) _
              refine ⟨((((below_others HWR.out).trans (KeepsOthers.setCell _ _ _)).trans (KeepsOthers.setCell _ _ _)).trans (KeepsOthers.setCell _ _ _)).from _, hbs, ?_⟩
              unfold SqI
              rw [HSN.out, e]
              exact ⟨⟨(((boxed_below HWR.out p0).other (by omega) _).other (by omega) _).other (by omega) _, (((boxed_below HWR.out p1).other (by omega) _).other (by omega) _).other (by omega) _, (((boxed_below HWR.out p2).other (by omega) _).other (by omega) _).other (by omega) _, (((boxed_below HWR.out p3).other (by omega) _).other (by omega) _).other (by omega) _⟩,
                (((boxed_below HWR.out p4).set _).other (by omega) _).other (by omega) _, (((boxed_below HWR.out p5).other (by omega) _).set _).other (by omega) _, (((boxed_below HWR.out p6).other (by omega) _).other (by omega) _).set _, pb.trans hbs⟩
            clear hWr hbw hz1 hz2 hz3 hCM hOM ha hlt
            cases OM with
            | false =>
              gi_wp2
              exact SKIPW.out (by rw [HNX.out, if_neg (by simp)])
            | true =>
              by_cases g1 : z1 < 0
              · have HEQ := Lib.hid (show sqN T M i j Z (k, l) = (CM, k, l) by rw [HNX.out, if_pos ⟨rfl, .inl g1⟩])
                gi_wp2
                exact UPD.out HEQ.out _ rfl
              · by_cases g2 : CM < z1
                · have HEQ := Lib.hid (show sqN T M i j Z (k, l) = (CM, k, l) by rw [HNX.out, if_pos ⟨rfl, .inr g2⟩])
                  gi_wp2
                  exact UPD.out HEQ.out _ rfl
                · have HEQ := Lib.hid (show sqN T M i j Z (k, l) = Z by rw [HNX.out, if_neg (fun h => h.2.elim g1 g2)])
                  gi_wp2
                  exact SKIPW.out HEQ.out
  case done =>
    rintro D ys W hD hys ⟨⟨p0, p1, p2, p3⟩, p4, p5, p6, hbl⟩ hK
    rw [hys] at p4 p5 p6
    have htv := (mv_t.1 HV.out).1
    have hinv := sq_inv (M := M) htv HI.out HJ.out (poss (lensT T)) (fun x hx => (poss_tv htv).1 hx)
    obtain ⟨Z, hZ⟩ : ∃ Z, sqM T M i j (poss (lensT T)) = Z := ⟨_, rfl⟩
    have HSQ := Lib.hid (show squareM T M i j = if Z.1 < 0 then none else some (setM M i j Z.2.1 Z.2.2) by unfold squareM; rw [hZ])
    rw [hZ] at p4 p5 p6 hinv
    obtain ⟨z1, row, col⟩ := Z
    simp only at p4 p5 p6 hinv HSQ
    have HBL := Lib.hid hbl
    have HKW := Lib.hid hK
    have hDl : D < W.heap.size := (Array.getElem?_eq_some_iff.1 hK).1
    have HDX := Lib.hid (show w.heap.size ≤ D by have := HS8.out; omega)
    have k4 := p4.cell
    by_cases hz : z1 < 0
    · have HE := Lib.hid (show squareM T M i j = none by rw [HSQ.out, if_pos hz])
      clear p0 p1 p2 p3 p4 p5 p6 hbl hK hys hZ hinv htv hs8
      go_wp2_with fail
      refine ⟨by simp, .inl ⟨_, _, rfl, run_takeDeferred HKW.out, ?_⟩⟩
      refine ⟨.tuple #[.slice none 0 0, .bool false], by simp [results, Tryz.results117, go_sem], ?_⟩
      exact sqP_no HE.out (HBL.out.trans (belowK_b (w := w) (Nat.le_refl _) W D _ _ HDX.out HKW.out rfl rfl))
    · have HE := Lib.hid (show squareM T M i j = some (setM M i j row col) by rw [HSQ.out, if_neg hz])
      have hrc : row < T.length ∧ col < (T.getD 0 []).length := by
        rcases hinv with h | h
        · simp only [Prod.mk.injEq] at h; omega
        · exact ⟨h.2.2.1, h.2.2.2.1⟩
      have HRC := Lib.hid hrc
      have hfm := fitM_of HV.out
      have HCP := Lib.hid (show Calls Tryz.prog 79 #[.slice (some ⟨mb, 0, none⟩) T.length cm] W fun e w' => ∃ g, e = .returned (.slice (some ⟨W.heap.size, 0, none⟩) T.length T.length) ∧ MtB w' W.heap.size (.slice (some ⟨W.heap.size, 0, none⟩) T.length T.length) M g ∧ Below W.heap.size W w' from by
        have := copyB mb cm M W (HMK.out.keep hbl (Nat.le_refl _)) (by rw [hfm.1]; omega) (fun u hu => by rw [hfm.2 u (by rw [← hfm.1]; exact hu)]; omega)
        rwa [hfm.1] at this)
      have k1 := p1.cell
      have P2 := Lib.hid p2
      have P3 := Lib.hid p3
      have P5 := Lib.hid p5
      have P6 := Lib.hid p6
      clear p0 p1 p2 p3 p4 p5 p6 hbl hK hys hZ hinv htv hs8 hrc hfm
      go_wp2_with fail
      refine (HCP.out).mono ?_
      rintro e W1 ⟨g, rfl, hm1, hb1⟩
      have k2 := (boxed_below hb1 P2.out).cell
      have k3 := (boxed_below hb1 P3.out).cell
      have k5 := (boxed_below hb1 P5.out).cell
      have k6 := (boxed_below hb1 P6.out).cell
      have HM1 := Lib.hid hm1
      have HB1 := Lib.hid hb1
      clear hm1 hb1 k1 k4
      go_wp2_with fail
      have hbq : Below W1.heap.size W1 (W1.alloc (.cells #[.int .i64 (i : Int), .int .i64 (j : Int), .int .i64 (i : Int), .int .i64 (col : Int), .int .i64 (row : Int), .int .i64 (j : Int), .int .i64 (row : Int), .int .i64 (col : Int)] 148)) := (Below.refl _ _).alloc (Nat.le_refl _) _
      have hcor : ∀ a, a < 4 → (W1.alloc (.cells #[.int .i64 (i : Int), .int .i64 (j : Int), .int .i64 (i : Int), .int .i64 (col : Int), .int .i64 (row : Int), .int .i64 (j : Int), .int .i64 (row : Int), .int .i64 (col : Int)] 148)).cell? ⟨W1.heap.size, a * 2, none⟩ = some (.int .i64 (((corner i j row col a).1 : Nat) : Int)) ∧ (W1.alloc (.cells #[.int .i64 (i : Int), .int .i64 (j : Int), .int .i64 (i : Int), .int .i64 (col : Int), .int .i64 (row : Int), .int .i64 (j : Int), .int .i64 (row : Int), .int .i64 (col : Int)] 148)).cell? ⟨W1.heap.size, a * 2 + 1, none⟩ = some (.int .i64 (((corner i j row col a).2 : Nat) : Int)) := fun a ha => by
        have h4 : a = 0 ∨ a = 1 ∨ a = 2 ∨ a = 3 := by omega
        rcases h4 with rfl | rfl | rfl | rfl <;> exact ⟨alloc_cell _ _ _ _ _ rfl, alloc_cell _ _ _ _ _ rfl⟩
      obtain ⟨qb, hqb⟩ : ∃ qb, W1.heap.size = qb := ⟨_, rfl⟩
      obtain ⟨W2, hW2⟩ : ∃ W2, W1.alloc (.cells #[.int .i64 (i : Int), .int .i64 (j : Int), .int .i64 (i : Int), .int .i64 (col : Int), .int .i64 (row : Int), .int .i64 (j : Int), .int .i64 (row : Int), .int .i64 (col : Int)] 148) = W2 := ⟨_, rfl⟩
      rw [hW2] at hbq hcor ⊢
      have hgq : ∀ u, u < T.length → g u < qb := fun u hu => by rw [← hqb]; exact HM1.out.lt (by rw [(fitM_of HV.out).1]; exact hu)
      have HGQ := Lib.hid hgq
      have HM2 := Lib.hid (HM1.out.below hbq)
      have HB2 := Lib.hid (HB1.out.trans (hbq.mono HB1.out.size))
      have hq2 : qb < W2.heap.size := by rw [← hqb, ← hW2]; simp
      have hWq : W.heap.size ≤ qb := by rw [← hqb]; exact HB1.out.size
      rw [hqb] at hcor ⊢
      have HCOR := Lib.hid hcor
      have HQ2 := Lib.hid hq2
      obtain ⟨ob, hob⟩ : ∃ ob, W.heap.size = ob := ⟨_, rfl⟩
      have HOB := Lib.hid hob
      rw [hob] at HM2 hWq ⊢
      have HWQ := Lib.hid hWq
      have HDL := Lib.hid hDl
      clear hW2 hqb hbq hcor hgq hq2 k2 k3 k5 k6 hob hWq hDl HCP
      go_loopw [105] (fun ix wr => ∃ a : Nat, a ≤ 4 ∧ ix = .int .i64 (a : Int) ∧ Below W.heap.size W wr ∧ qb < wr.heap.size ∧ MtB wr ob (.slice (some ⟨ob, 0, none⟩) T.length T.length) (setA M i j row col a) g ∧
        ∀ b, b < 4 → wr.cell? ⟨qb, b * 2, none⟩ = some (.int .i64 (((corner i j row col b).1 : Nat) : Int)) ∧ wr.cell? ⟨qb, b * 2 + 1, none⟩ = some (.int .i64 (((corner i j row col b).2 : Nat) : Int))) (fun ix _ => 4 - (intOf ix).toNat)
      case atStart => exact ⟨0, Nat.zero_le _, rfl, HB2.out, HQ2.out, HM2.out, HCOR.out⟩
      case round =>
        obtain ⟨a, ha, rfl, hbw, hqw, hmw, hcw⟩ := hrel
        have HBW := Lib.hid hbw
        have HQW := Lib.hid hqw
        have HMW := Lib.hid hmw
        have HCW := Lib.hid hcw
        by_cases hlt : a < 4
        · have h4 : (a : Int) < 4 := by omega
          obtain ⟨q0', q1'⟩ := hcw a hlt
          obtain ⟨⟨cx, cy⟩, -, -⟩ := costA_b (M := M) (mv_t.1 HV.out).1 HI.out HJ.out HRC.out.1 HRC.out.2 a
          clear hbw hqw hmw hcw
          obtain ⟨x, hx⟩ : ∃ x, (corner i j row col a).1 = x := ⟨_, rfl⟩
          obtain ⟨y, hy⟩ : ∃ y, (corner i j row col a).2 = y := ⟨_, rfl⟩
          have HSA := Lib.hid (show setA M i j row col (a + 1) = putC (setA M i j row col a) x y true from by
            rw [← hx, ← hy]
            have h5 : a = 0 ∨ a = 1 ∨ a = 2 ∨ a = 3 := by omega
            rcases h5 with rfl | rfl | rfl | rfl <;> rfl)
          rw [hx] at q0' cx
          rw [hy] at q1' cy
          have hfa := setA_fit (j := j) (l := col) (fitM_of HV.out) HI.out HRC.out.1 a
          obtain ⟨A, hA⟩ : ∃ A, setA M i j row col a = A := ⟨_, rfl⟩
          rw [hA] at hfa HMW HSA
          have hxl : x < A.length := by rw [hfa.1]; exact cx
          have hyl : y < (A.getD x []).length := by rw [hfa.2 x cx]; exact cy
          obtain ⟨c2, hrx, -, hqc, -, -, -, -⟩ := HMW.out.at_ hxl
          obtain ⟨he, hf⟩ := HMW.out.elt hxl (get_of (d := false) hyl)
          have hne : ob ≠ g x := HMW.out.tb_ne (by decide) hxl
          have hgx := HGQ.out x cx
          have hlow := HMW.out.low x hxl
          have HPUT := Lib.hid (HMW.out.put (by decide) hxl hyl true)
          rw [hfa.2 x cx] at hrx hqc
          obtain ⟨bo, hbo⟩ : ∃ bo, (A.getD x []).getD y false = bo := ⟨_, rfl⟩
          rw [hbo] at he
          obtain ⟨q, hq⟩ : ∃ q, (T.getD 0 []).length = q := ⟨_, rfl⟩
          rw [hq] at hrx hqc cy
          have hwq := HWQ.out
          clear hx hy hA hq hbo hfa
          have hxi : (x : Int) < (T.length : Int) := by omega
          have hyi : (y : Int) < (q : Int) := by omega
          go_wp2_with fail
          have hb3 := (Below.refl wr.heap.size wr).alloc (Nat.le_refl _) (.cells #[.int .i64 (x : Int), .int .i64 (y : Int)] 148)
          have c0 := alloc_cell wr #[.int .i64 (x : Int), .int .i64 (y : Int)] 148 0 _ rfl
          have c1 := alloc_cell wr #[.int .i64 (x : Int), .int .i64 (y : Int)] 148 1 _ rfl
          have hoblt : ob < wr.heap.size := World.block_lt_of_cell? _ _ hrx
          have hgl : g x < wr.heap.size := World.block_lt_of_cell? _ _ he
          have hrx3 := (hb3.cell (p := ⟨ob, x, none⟩) hoblt).trans hrx
          have he3 := (hb3.cell (p := ⟨g x, y, none⟩) hgl).trans he
          have hf3 : (wr.alloc (.cells #[.int .i64 (x : Int), .int .i64 (y : Int)] 148)).frozen? ⟨g x, y, none⟩ = false := (World.frozen?_of_block (hb3.block _ hgl)).trans hf
          have hs3 : (wr.alloc (.cells #[.int .i64 (x : Int), .int .i64 (y : Int)] 148)).heap.size = wr.heap.size + 1 := World.size_alloc _ _
          have HPUT3 := Lib.hid ((HMW.out.below hb3).put (by decide) hxl hyl true)
          have HB3 := Lib.hid (HBW.out.trans (hb3.mono HBW.out.size))
          have HCW3 := Lib.hid (fun (b : Nat) (hb : b < 4) => And.intro ((hb3.cell (p := ⟨qb, b * 2, none⟩) HQW.out).trans (HCW.out b hb).1) ((hb3.cell (p := ⟨qb, b * 2 + 1, none⟩) HQW.out).trans (HCW.out b hb).2))
          obtain ⟨wb, hwb⟩ : ∃ wb, wr.heap.size = wb := ⟨_, rfl⟩
          obtain ⟨W3, hW3⟩ : ∃ W3, wr.alloc (.cells #[.int .i64 (x : Int), .int .i64 (y : Int)] 148) = W3 := ⟨_, rfl⟩
          have hqs : qb < W3.heap.size := by rw [← hW3, hs3]; have := HQW.out; omega
          have hgb : g x ≠ wb := by omega
          rw [hW3] at c0 c1 hrx3 he3 hf3 HPUT3 HB3 HCW3 ⊢
          rw [hwb] at c0 c1 ⊢
          obtain ⟨gx, hgx2⟩ : ∃ gx, g x = gx := ⟨_, rfl⟩
          have HPS := Lib.hid (show Below W.heap.size W ((W3.setCell ⟨g x, y, none⟩ (.bool true))) from HB3.out.setCell (p := ⟨g x, y, none⟩) (by rw [HOB.out]; exact hlow) _)
          rw [hgx2] at hrx3 he3 hf3 hne hgx hgb HPUT3 HPS
          have HNE := Lib.hid (And.intro hne hgb)
          have HGX := Lib.hid hgx
          have HQS := Lib.hid hqs
          clear hb3 hrx he hf hne hgx hlow HPUT hwq hoblt hgl hs3 hwb hW3 hqs hgb hgx2 q0' q1'
          refine wp_calm2 ?_
          refine wp_region_held (S := (fun V => V.cell? ⟨ob, x, none⟩ = some (.slice (some ⟨gx, 0, none⟩) q c2) ∧ V.cell? ⟨wb, 0, none⟩ = some (.int .i64 (x : Int)) ∧ V.cell? ⟨wb, 1, none⟩ = some (.int .i64 (y : Int)))) (by kernel_rfl) ?_
          change wpAnyH _ _ _ _ _ _ _ _ W3.drew
          have hS0 : W3.drew.cell? ⟨ob, x, none⟩ = some (.slice (some ⟨gx, 0, none⟩) q c2) ∧ W3.drew.cell? ⟨wb, 0, none⟩ = some (.int .i64 (x : Int)) ∧ W3.drew.cell? ⟨wb, 1, none⟩ = some (.int .i64 (y : Int)) := ⟨hrx3, c0, c1⟩
          have e1' : W3.drew.cell? ⟨gx, y, none⟩ = some (.bool bo) := he3
          have e2' : W3.drew.frozen? ⟨gx, y, none⟩ = false := hf3
          have hbk : ∀ z, z ≠ gx → ((W3.setCell ⟨gx, y, none⟩ (.bool true)).drew).heap[z]? = W3.heap[z]? := fun z h1 => Below.heap_setCell W3 ⟨gx, y, none⟩ _ z h1
          have hS1 : (W3.setCell ⟨gx, y, none⟩ (.bool true)).drew.cell? ⟨ob, x, none⟩ = some (.slice (some ⟨gx, 0, none⟩) q c2) ∧ (W3.setCell ⟨gx, y, none⟩ (.bool true)).drew.cell? ⟨wb, 0, none⟩ = some (.int .i64 (x : Int)) ∧ (W3.setCell ⟨gx, y, none⟩ (.bool true)).drew.cell? ⟨wb, 1, none⟩ = some (.int .i64 (y : Int)) := ⟨(World.cell?_of_block (hbk ob HNE.out.1)).trans hrx3, (World.cell?_of_block (hbk wb (fun e => HNE.out.2 e.symm))).trans c0, (World.cell?_of_block (hbk wb (fun e => HNE.out.2 e.symm))).trans c1⟩
          refine wpAnyH_take (i := 0) (oi := ⟨some 109, _, _, _, _, _⟩) (v := .slice (some ⟨ob, 0, none⟩) T.length T.length) rfl (by kernel_rfl) (by kernel_rfl) (by kernel_rfl) (fun _ _ _ h => h) (Or.inl ⟨by kernel_rfl, fun V hV => ?_⟩) hS0 ?_
          · obtain ⟨q0, q1, q2⟩ := hV
            go_simp
          simp only [Act.put, List.setIfInBounds_toArray, List.set_cons_zero, List.set_cons_succ]
          refine wpAnyH_take (i := 1) (oi := ⟨some 110, _, _, _, _, _⟩) (v := .pointer (some ⟨wb, 0, none⟩)) rfl (by kernel_rfl) (by kernel_rfl) (by kernel_rfl) (fun _ _ _ h => h) (Or.inl ⟨by kernel_rfl, fun V hV => ?_⟩) hS0 ?_
          · obtain ⟨q0, q1, q2⟩ := hV
            go_simp
          simp only [Act.put, List.setIfInBounds_toArray, List.set_cons_zero, List.set_cons_succ]
          refine wpAnyH_take (i := 2) (oi := ⟨some 111, _, _, _, _, _⟩) (v := .int .i64 (x : Int)) rfl (by kernel_rfl) (by kernel_rfl) (by kernel_rfl) (fun _ _ _ h => h) (Or.inl ⟨by kernel_rfl, fun V hV => ?_⟩) hS0 ?_
          · obtain ⟨q0, q1, q2⟩ := hV
            go_simp
          simp only [Act.put, List.setIfInBounds_toArray, List.set_cons_zero, List.set_cons_succ]
          refine wpAnyH_take (i := 3) (oi := ⟨some 112, _, _, _, _, _⟩) (v := .pointer (some ⟨ob, x, none⟩)) rfl (by kernel_rfl) (by kernel_rfl) (by kernel_rfl) (fun _ _ _ h => h) (Or.inl ⟨by kernel_rfl, fun V hV => ?_⟩) hS0 ?_
          · obtain ⟨q0, q1, q2⟩ := hV
            go_simp
          simp only [Act.put, List.setIfInBounds_toArray, List.set_cons_zero, List.set_cons_succ]
          refine wpAnyH_take (i := 4) (oi := ⟨some 113, _, _, _, _, _⟩) (v := .slice (some ⟨gx, 0, none⟩) q c2) rfl (by kernel_rfl) (by kernel_rfl) (by kernel_rfl) (fun _ _ _ h => h) (Or.inl ⟨by kernel_rfl, fun V hV => ?_⟩) hS0 ?_
          · obtain ⟨q0, q1, q2⟩ := hV
            go_simp
          simp only [Act.put, List.setIfInBounds_toArray, List.set_cons_zero, List.set_cons_succ]
          refine wpAnyH_take (i := 5) (oi := ⟨some 114, _, _, _, _, _⟩) (v := .pointer (some ⟨wb, 1, none⟩)) rfl (by kernel_rfl) (by kernel_rfl) (by kernel_rfl) (fun _ _ _ h => h) (Or.inl ⟨by kernel_rfl, fun V hV => ?_⟩) hS0 ?_
          · obtain ⟨q0, q1, q2⟩ := hV
            go_simp
          simp only [Act.put, List.setIfInBounds_toArray, List.set_cons_zero, List.set_cons_succ]
          refine wpAnyH_take (i := 6) (oi := ⟨some 115, _, _, _, _, _⟩) (v := .int .i64 (y : Int)) rfl (by kernel_rfl) (by kernel_rfl) (by kernel_rfl) (fun _ _ _ h => h) (Or.inl ⟨by kernel_rfl, fun V hV => ?_⟩) hS0 ?_
          · obtain ⟨q0, q1, q2⟩ := hV
            go_simp
          simp only [Act.put, List.setIfInBounds_toArray, List.set_cons_zero, List.set_cons_succ]
          refine wpAnyH_take (i := 7) (oi := ⟨some 116, _, _, _, _, _⟩) (v := .pointer (some ⟨gx, y, none⟩)) rfl (by kernel_rfl) (by kernel_rfl) (by kernel_rfl) (fun _ _ _ h => h) (Or.inl ⟨by kernel_rfl, fun V hV => ?_⟩) hS0 ?_
          · obtain ⟨q0, q1, q2⟩ := hV
            go_simp
          simp only [Act.put, List.setIfInBounds_toArray, List.set_cons_zero, List.set_cons_succ]
          refine wpAnyH_ready (rs := [8]) (by kernel_rfl) (by simp) ?_
          refine AllReadyH.cons rfl (fun K hK => ?_) AllReadyH.nil
          go_simp
          refine hK.out _ _ hS1 (fun _ => ?_)
          try simp only [Act.put, List.setIfInBounds_toArray, List.set_cons_zero, List.set_cons_succ]
          clear hK K hbk
          refine wpAnyH_done (by kernel_rfl) ?_ _
          have hblk : ∀ z, z ≠ gx → (W3.setCell ⟨gx, y, none⟩ (.bool true)).drew.heap[z]? = W3.heap[z]? := fun z h1 => Below.heap_setCell W3 ⟨gx, y, none⟩ _ z h1
          have hsz4 : (W3.setCell ⟨gx, y, none⟩ (.bool true)).drew.heap.size = W3.heap.size := World.size_setCell _ _ _
          clear hS0 hS1 e1' e2' c0 c1 hrx3 he3 hf3
          go_wp2_with fail
          go_roundw
          case rel =>
            refine ⟨a + 1, by omega, by go_num, HPS.out.drew, by rw [hsz4]; exact HQS.out, ?_, fun b hb => ?_⟩
            · rw [HSA.out]
              exact HPUT3.out.below (Below.refl _ _).drew
            · have hqg : qb ≠ gx := by have := HGX.out; omega
              exact ⟨(World.cell?_of_block (hblk qb hqg)).trans (HCW3.out b hb).1, (World.cell?_of_block (hblk qb hqg)).trans (HCW3.out b hb).2⟩
          case measure => simp [intOf]; omega
        · obtain rfl : a = 4 := by omega
          have hKr := (HBW.out.block D HDL.out).trans HKW.out
          have HKR := Lib.hid hKr
          clear hbw hqw hmw hcw hKr
          go_wp2_with fail
          refine ⟨by simp, .inl ⟨_, _, rfl, run_takeDeferred HKR.out, ?_⟩⟩
          refine ⟨.tuple #[.slice (some ⟨ob, 0, none⟩) T.length T.length, .bool true], by simp [results, Tryz.results117, go_sem], ?_⟩
          refine sqP_yes (g := g) HE.out ((HBL.out.trans (HBW.out.mono HBL.out.size)).trans (belowK_b (w := w) (Nat.le_refl _) wr D _ _ HDX.out HKR.out rfl rfl)) ?_
          have hm := HMW.out
          rw [setA_4] at hm
          exact (hm.keptO (grownBy_putObj' _ D (Obj.deferred none)) (fun r e => by cases e; exact ⟨_, HKR.out, rfl⟩)).mono (by rw [← HOB.out]; exact HBL.out.size)
  case stop =>
    rintro D c pre W _ _ h _
    exact h.elim
end Go.Proofs.YtlmlchkolcmhpaaGreatDoor
