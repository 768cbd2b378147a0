/-
  Contract: impl.PatternStep.
-/
import Derived.Test.YtlmlchkolcmhpaaGreatDoorYSquare
namespace Go.Proofs.YtlmlchkolcmhpaaGreatDoor
open Go.RowKit Go.Shelf
open Go.TextMath (tvB mvB text word)
attribute [local go_sem] Oper.semAt_some

/-- What PatternStep answers. -/
def StepP (T : List (List Int)) (F M : List (List Bool)) (n : Int) (w : World) (e : Ending) (w' : World) : Prop :=
  Below w.heap.size w w' ∧ match nextM T F M n with
    | none => e = .returned (.tuple #[.slice none 0 0, .bool false])
    | some M' => ∃ ob g, e = .returned (.tuple #[.slice (some ⟨ob, 0, none⟩) T.length T.length, .bool true]) ∧ MtB w' w.heap.size (.slice (some ⟨ob, 0, none⟩) T.length T.length) M' g
theorem stepP_none {T : List (List Int)} {F M : List (List Bool)} {n : Int} {w : World} {e : Ending} {w' : World} (hn : nextM T F M n = none) (h : StepP T F M n w e w') : e = .returned (.tuple #[.slice none 0 0, .bool false]) ∧ Below w.heap.size w w' := by
  unfold StepP at h
  rw [hn] at h
  exact ⟨h.2, h.1⟩
theorem stepP_some {T : List (List Int)} {F M M' : List (List Bool)} {n : Int} {w : World} {e : Ending} {w' : World} (hn : nextM T F M n = some M') (h : StepP T F M n w e w') : ∃ ob g, e = .returned (.tuple #[.slice (some ⟨ob, 0, none⟩) T.length T.length, .bool true]) ∧ MtB w' w.heap.size (.slice (some ⟨ob, 0, none⟩) T.length T.length) M' g ∧ Below w.heap.size w w' := by
  unfold StepP at h
  rw [hn] at h
  obtain ⟨hb, ob, g, h1, h2⟩ := h
  exact ⟨ob, g, h1, h2, hb⟩
/-- The two results' boxes. -/
def StepR (w : World) (v : Value) (b : Bool) (W : World) : Prop := Boxed W (w.heap.size + 1 + 1 + 1 + 1) 75 v ∧ Boxed W (w.heap.size + 1 + 1 + 1 + 1 + 1) 4 (.bool b)
/-- Between two rounds. -/
def StepI (T : List (List Int)) (F M : List (List Bool)) (n : Int) (w : World) (tv fv mv : Value) (pre : List (Nat × Nat)) (W : World) : Prop :=
  NeedB w tv fv mv n W ∧ StepR w (.slice none 0 0) false W ∧ pre.filter (badM T F M n) = [] ∧ Below w.heap.size w W
/-- A round has returned. -/
def StepX (T : List (List Int)) (F M : List (List Bool)) (n : Int) (w : World) (pre : List (Nat × Nat)) (W : World) : Prop :=
  Below w.heap.size w W ∧ ∃ p x, pre = p ++ [x] ∧ p.filter (badM T F M n) = [] ∧ badM T F M n x = true ∧
    ((squareM T M x.1 x.2 = none ∧ StepR w (.slice none 0 0) false W) ∨ ∃ M' ob g, squareM T M x.1 x.2 = some M' ∧ StepR w (.slice (some ⟨ob, 0, none⟩) T.length T.length) true W ∧ MtB W w.heap.size (.slice (some ⟨ob, 0, none⟩) T.length T.length) M' g)
theorem stepX_next {T : List (List Int)} {F M : List (List Bool)} {n : Int} {pre : List (Nat × Nat)} {p : List (Nat × Nat)} {x : Nat × Nat} (hp : pre <+: poss (lensT T)) (he : pre = p ++ [x]) (h1 : p.filter (badM T F M n) = []) (h2 : badM T F M n x = true) : nextM T F M n = squareM T M x.1 x.2 := by
  obtain ⟨r, hr⟩ := hp
  have hb : badsM T F M n = x :: r.filter (badM T F M n) := by
    unfold badsM
    rw [← hr, he, List.filter_append, List.filter_append, h1, List.filter_cons, if_pos h2]
    rfl
  unfold nextM
  rw [hb]
theorem stepR_keptO {w W W' : World} {v : Value} {b : Bool} {row : Option Nat} (h : StepR w v b W) (hg : W.grownBy W' row) (hr : ∀ r, row = some r → ∃ o : Obj, W.heap[r]? = some o ∧ o.isCells = false) : StepR w v b W' :=
  ⟨boxed_keptO h.1 hg hr, boxed_keptO h.2 hg hr⟩
theorem stepX_keptO {T : List (List Int)} {F M : List (List Bool)} {n : Int} {w W W' : World} {pre : List (Nat × Nat)} {row : Option Nat} (h : StepX T F M n w pre W) (hg : W.grownBy W' row) (hr : ∀ r, row = some r → ∃ o : Obj, W.heap[r]? = some o ∧ o.isCells = false) (hb : Below w.heap.size w W') : StepX T F M n w pre W' := by
  obtain ⟨-, p, x, h1, h2, h3, h4⟩ := h
  refine ⟨hb, p, x, h1, h2, h3, ?_⟩
  rcases h4 with ⟨h4, h5⟩ | ⟨M', ob, g, h4, h5, h6⟩
  · exact .inl ⟨h4, stepR_keptO h5 hg hr⟩
  · exact .inr ⟨M', ob, g, h4, stepR_keptO h5 hg hr, h6.keptO hg hr⟩
theorem stepR_set {w V : World} {v0 : Value} {b0 : Bool} (h : StepR w v0 b0 V) (v : Value) (b : Bool) : StepR w v b ((V.setCell ⟨w.heap.size + 1 + 1 + 1 + 1, 0, none⟩ v).setCell ⟨w.heap.size + 1 + 1 + 1 + 1 + 1, 0, none⟩ (.bool b)) :=
  ⟨(h.1.set v).other (by omega) _, Boxed.set _ (h.2.other (by omega) v)⟩
theorem two_set {w V : World} (hb : Below w.heap.size w V) (v : Value) (b : Bool) : Below w.heap.size w ((V.setCell ⟨w.heap.size + 1 + 1 + 1 + 1, 0, none⟩ v).setCell ⟨w.heap.size + 1 + 1 + 1 + 1 + 1, 0, none⟩ (.bool b)) :=
  (hb.setCell (p := ⟨w.heap.size + 1 + 1 + 1 + 1, 0, none⟩) (by show w.heap.size ≤ w.heap.size + 1 + 1 + 1 + 1; omega) _).setCell (p := ⟨w.heap.size + 1 + 1 + 1 + 1 + 1, 0, none⟩) (by show w.heap.size ≤ w.heap.size + 1 + 1 + 1 + 1 + 1; omega) _

set_option maxRecDepth 100000 in
set_option maxHeartbeats 8000000 in
theorem patStepI (tb ct : Nat) (T : List (List Int)) (fb cf : Nat) (F : List (List Bool)) (mb cm : Nat) (M : List (List Bool)) (n : Int) (w : World) (hr : Tab .i64 w (some ⟨tb, 0, none⟩) tb 0 T) (hfm : TabB w (some ⟨fb, 0, none⟩) fb 0 F) (hm : TabB w (some ⟨mb, 0, none⟩) mb 0 M) (hvf : mvB T F = true) (hv : mvB T M = true) (hn : cellB n = true) (hbad : badsM T F M n ≠ []) :
    Calls Tryz.prog 81 #[.slice (some ⟨tb, 0, none⟩) T.length ct, .slice (some ⟨fb, 0, none⟩) T.length cf, .slice (some ⟨mb, 0, none⟩) T.length cm, .int .i64 n] w (StepP T F M n w) := by
  have HV := Lib.hid hv
  have HVF := Lib.hid hvf
  have HR := Lib.hid hr
  have HFK := Lib.hid hfm
  have HMK := Lib.hid hm
  have HBN := Lib.hid hbad
  have htv := (mv_t.1 hv).1
  obtain ⟨hT1, hT4, hC1, hC4, -⟩ := tv_t.1 htv
  have HNEED := Lib.hid (fun (W : World) (hb : Below w.heap.size w W) => needI tb ct T fb cf F mb cm M n W (hr.keep hb (Nat.le_refl _)) (hfm.keep hb (Nat.le_refl _)) (hm.keep hb (Nat.le_refl _)) hvf hv hn)
  have HN := Lib.hid hn
  obtain ⟨q, hq⟩ : ∃ q, (badsM T F M n).length = q := ⟨_, rfl⟩
  have hq1 : decide ((q : Int) < 1) = false := by
    have : 0 < q := by rw [← hq]; exact List.length_pos_iff.2 hbad
    simp
    omega
  rw [hq] at HNEED
  obtain ⟨a0, b0, o0, cc0, hrow0, -, -, -⟩ := hr.2 0 (by omega)
  have hbt : tb < w.heap.size := World.block_lt_of_cell? _ _ hrow0
  clear hr hfm hm hv hvf htv hn hrow0 hq hbad
  refine (callsIn_wide (n := 10)).1 ?_
  refine callsIn_of_wp_marks Tryz.func81 rfl trivial (wpIn_wide.2 ?_) rfl
  simp only [Tryz.ntmps81, List.size_toArray, List.length_cons, List.length_nil, Nat.reduceAdd, Nat.reduceSub, Array.replicate_succ, Array.replicate_zero, List.push_toArray, List.append_toArray, List.nil_append, List.cons_append]
  go_wp2_with fail
  have key : ∀ (V : World) (n : Nat) (v : Value) (t : TypeId), V.heap.size = n → Boxed (V.alloc (.cells #[v] t)) n t v := fun V n v t e => by subst e; exact Boxed.new V t v
  obtain ⟨X4, hX4⟩ : ∃ X4, ((((((w.alloc (.cells #[.slice (some ⟨tb, 0, none⟩) T.length ct] 64)).alloc (.cells #[.slice (some ⟨fb, 0, none⟩) T.length cf] 75)).alloc (.cells #[.slice (some ⟨mb, 0, none⟩) T.length cm] 75)).alloc (.cells #[.int .i64 n] 3)).alloc (.cells #[.slice none 0 0] 75)).alloc (.cells #[.bool false] 4)) = X4 := ⟨_, rfl⟩
  have hB4 : NeedB w (.slice (some ⟨tb, 0, none⟩) T.length ct) (.slice (some ⟨fb, 0, none⟩) T.length cf) (.slice (some ⟨mb, 0, none⟩) T.length cm) n X4 := by rw [← hX4]; exact ⟨(((((key _ _ _ _ rfl).alloc _).alloc _).alloc _).alloc _).alloc _, ((((key _ _ _ _ (by simp)).alloc _).alloc _).alloc _).alloc _, (((key _ _ _ _ (by simp)).alloc _).alloc _).alloc _, ((key _ _ _ _ (by simp)).alloc _).alloc _⟩
  have hR4 : StepR w (.slice none 0 0) false X4 := by rw [← hX4]; exact ⟨(key _ _ _ _ (by simp)).alloc _, key _ _ _ _ (by simp)⟩
  have hb4 : Below w.heap.size w X4 := by rw [← hX4]; exact (((((((Below.refl _ _).alloc (Nat.le_refl _) _).alloc (by simp) _).alloc (by simp; omega) _).alloc (by simp; omega) _).alloc (by simp; omega) _).alloc (by simp; omega) _)
  have hs4 : X4.heap.size = w.heap.size + 6 := by rw [← hX4]; simp
  rw [hX4]
  have HB4 := Lib.hid hB4
  have HR4 := Lib.hid hR4
  have HW4 := Lib.hid hb4
  have HS4 := Lib.hid hs4
  have c0 := hB4.1.cell
  have c1 := hB4.2.1.cell
  have c2 := hB4.2.2.1.cell
  have c3 := hB4.2.2.2.cell
  clear hX4 hB4 hR4 hb4 hs4 key
  refine (HNEED.out X4 HW4.out).mono ?_
  rintro e X5 ⟨rfl, hb5⟩
  have hb45 := HW4.out.trans (hb5.mono HW4.out.size)
  have HW5 := Lib.hid hb45
  have HB5 := Lib.hid (HB4.out.below hb5 (by rw [HS4.out]; omega))
  have HR5 := Lib.hid (show StepR w (.slice none 0 0) false X5 from ⟨boxed_below hb5 HR4.out.1, boxed_below hb5 HR4.out.2⟩)
  have d0 := HB5.out.1.cell
  have hsz5 : w.heap.size + 6 ≤ X5.heap.size := by have := hb5.size; rw [HS4.out] at this; exact this
  have HSZ5 := Lib.hid hsz5
  clear c0 c1 c2 c3 hb5 hb45
  go_wp2_with (go_at_call 83; refine (callsIn_wide.1 (cells_in Fence.wide 9 trivial rfl _ _ _ _)).mono ?_; rintro e w' ⟨rfl, rfl⟩)
  obtain ⟨nb, hnb⟩ : ∃ nb, X5.heap.size = nb := ⟨_, rfl⟩
  obtain ⟨X6, hX6⟩ : ∃ X6, X5.alloc (.cells #[.slice (some ⟨tb, 0, none⟩) T.length ct] 64) = X6 := ⟨_, rfl⟩
  have hb6 : Below X5.heap.size X5 X6 := by rw [← hX6]; exact (Below.refl _ _).alloc (Nat.le_refl _) _
  have hx6 : Boxed X6 X5.heap.size 64 (.slice (some ⟨tb, 0, none⟩) (lensT T).length ct) := by
    rw [← hX6, lensT_len]
    exact Boxed.new X5 _ _
  have hs6 : X6.heap.size = X5.heap.size + 1 := by rw [← hX6]; simp
  have HI6 := Lib.hid (show StepI T F M n w (.slice (some ⟨tb, 0, none⟩) T.length ct) (.slice (some ⟨fb, 0, none⟩) T.length cf) (.slice (some ⟨mb, 0, none⟩) T.length cm) [] X6 from ⟨HB5.out.below hb6 (by omega), ⟨boxed_below hb6 HR5.out.1, boxed_below hb6 HR5.out.2⟩, rfl, HW5.out.trans (hb6.mono (by omega))⟩)
  have hH := tab_headsT (HR.out.keep HI6.out.2.2.2 (Nat.le_refl _))
  rw [hX6]
  rw [hnb] at hx6 hs6 hsz5 ⊢
  have HNB := Lib.hid hsz5
  clear hX6 hb6 d0 hnb
  refine (wpIn_wide (n := 10)).1 ?_
  refine wpIn_rangeFunc_ownG (F := Fence.wide) (n := 10) rfl (by omega) (gf := 118) (lb := #[.pointer (some ⟨nb, 0, none⟩)]) rfl trivial (enters_of Tryz.func118 (by kernel_rfl) rfl)
    (cells_stops Fence.wide 9 trivial rfl (by omega) nb (some ⟨tb, 0, none⟩) tb 0 ct (lensT T) (by rw [lensT_len]; omega) (Below w.heap.size) (fun A B k o _ => k.cell (p := ⟨tb, o, none⟩) hbt) (fun A => Below.refl _ A) (fun A B C k k' => k.trans k') X6 (by omega) (fun _ => by have := HI6.out.2.2.2.size; omega) hx6.cell hH) belowK_t (belowK_b (by have := HI6.out.2.2.2.size; omega)) (Below.refl _ _) (fun _ => rfl)
    (fun pre W => StepI T F M n w (.slice (some ⟨tb, 0, none⟩) T.length ct) (.slice (some ⟨fb, 0, none⟩) T.length cf) (.slice (some ⟨mb, 0, none⟩) T.length cm) (Pos.vals pre) W) (fun c pre W => c = .ret ∧ StepX T F M n w (Pos.vals pre) W) ?own ?ownx ?start
    (fun x => { tmps := #[.slice (some ⟨tb, 0, none⟩) T.length ct, .slice (some ⟨fb, 0, none⟩) T.length cf, .slice (some ⟨mb, 0, none⟩) T.length cm, .int .i64 n, .pointer (some ⟨w.heap.size, 0, none⟩), .pointer (some ⟨w.heap.size + 1, 0, none⟩), .pointer (some ⟨w.heap.size + 1 + 1, 0, none⟩), .pointer (some ⟨w.heap.size + 1 + 1 + 1, 0, none⟩), .pointer (some ⟨w.heap.size + 1 + 1 + 1 + 1, 0, none⟩), .pointer (some ⟨w.heap.size + 1 + 1 + 1 + 1 + 1, 0, none⟩), .int .i64 (x.1.1 : Int), .int .i64 (x.1.2 : Int), .slice (some ⟨tb, 0, none⟩) T.length ct, .slice (some ⟨fb, 0, none⟩) T.length cf, .slice (some ⟨mb, 0, none⟩) T.length cm, .int .i64 n, .int .i64 (q : Int), .bool false, .slice (some ⟨tb, 0, none⟩) T.length ct, .func (.func 118) #[] #[.pointer (some ⟨nb, 0, none⟩)], .int .i64 (x.1.1 : Int), .int .i64 (x.1.2 : Int), undef, undef, undef, undef, undef, undef, undef, undef, undef, undef, undef, undef, undef, undef, undef, undef, undef, undef, undef, undef, undef, undef, undef], defers := [] }) ?assign ?body ?done ?stop
  case own =>
    rintro s A C row ⟨⟨q1, q2, q3, q4⟩, hr, hf, hbl⟩ hgr hrw
    have hr' : ∀ r, row = some r → ∃ o : Obj, A.heap[r]? = some o ∧ o.isCells = false := fun r e => (hrw r e).2
    exact ⟨⟨boxed_keptO q1 hgr hr', boxed_keptO q2 hgr hr', boxed_keptO q3 hgr hr', boxed_keptO q4 hgr hr'⟩, stepR_keptO hr hgr hr', hf, ownFrom_below (β := Unit) (Nat.le_refl _) (by have := HI6.out.2.2.2.size; omega) () A C row hbl hgr hrw⟩
  case ownx =>
    rintro c s A C row ⟨hc, hx⟩ hgr hrw
    have hr' : ∀ r, row = some r → ∃ o : Obj, A.heap[r]? = some o ∧ o.isCells = false := fun r e => (hrw r e).2
    exact ⟨hc, stepX_keptO hx hgr hr' (ownFrom_below (β := Unit) (Nat.le_refl _) (by have := HI6.out.2.2.2.size; omega) () A C row hx.1 hgr hrw)⟩
  case start => exact HI6.out
  case assign =>
    intro l x W K hK
    gi_wp2
    exact hK
  case body =>
    rintro lp pre ⟨⟨i, j⟩, hi, hj⟩ W ⟨hbx, hrs, hfl, hbl⟩ hpl
    have htv := (mv_t.1 HV.out).1
    have hpos := pos_lens htv ⟨(i, j), hi, hj⟩
    simp only at hpos
    obtain ⟨hi', hj'⟩ := hpos
    obtain ⟨f1, f2, f3, m1, m2, m3, -, -⟩ := at_M (HFK.out.keep hbl (Nat.le_refl _)) (fitM_of HVF.out) hi' hj'
    have HPS := Lib.hid (patSafeI tb ct T mb cm M i j n W (HR.out.keep hbl (Nat.le_refl _)) (HMK.out.keep hbl (Nat.le_refl _)) HV.out HN.out hi' hj')
    have HSQ := Lib.hid (fun (V : World) (hb : Below W.heap.size W V) => squareI tb ct T mb cm M i j V (HR.out.keep (hbl.trans (hb.mono hbl.size)) (Nat.le_refl _)) (HMK.out.keep (hbl.trans (hb.mono hbl.size)) (Nat.le_refl _)) HV.out hi' hj')
    have HBE := Lib.hid (show badM T F M n (i, j) = (flagM F i j && !(flagM M i j && safeM T M n i j)) from rfl)
    obtain ⟨s, hs⟩ : ∃ s, (flagM M i j && safeM T M n i j) = s := ⟨_, rfl⟩
    obtain ⟨fl, hflg⟩ : ∃ fl, flagM F i j = fl := ⟨_, rfl⟩
    rw [hs] at HPS HBE
    rw [hflg] at m2 HBE
    obtain ⟨u, hu⟩ : ∃ u, (T.getD 0 []).length = u := ⟨_, rfl⟩
    rw [hu] at m1 m3 hj'
    have hii : (i : Int) < (T.length : Int) := by omega
    have hjj : (j : Int) < (u : Int) := by omega
    have HBX := Lib.hid hbx
    have HRS := Lib.hid hrs
    have HFL := Lib.hid hfl
    have HBL := Lib.hid hbl
    have k0 := hbx.1.cell
    have k1 := hbx.2.1.cell
    have k2 := hbx.2.2.1.cell
    have k3 := hbx.2.2.2.cell
    have SAME : Hid (∀ V : World, Below W.heap.size W V → badM T F M n (i, j) = false → KeepsFrom X6.heap.size W V ∧ Below w.heap.size W V ∧ StepI T F M n w (.slice (some ⟨tb, 0, none⟩) T.length ct) (.slice (some ⟨fb, 0, none⟩) T.length cf) (.slice (some ⟨mb, 0, none⟩) T.length cm) (Pos.vals (pre ++ [⟨(i, j), hi, hj⟩])) V) := Lib.hid fun V hV hb => by
      have hcl := HRS.out.2.lt
      refine ⟨(below_others hV).from _, hV.mono HBL.out.size, HBX.out.below hV (by omega), ⟨boxed_below hV HRS.out.1, boxed_below hV HRS.out.2⟩, ?_, HBL.out.trans (hV.mono HBL.out.size)⟩
      rw [Pos.vals_snoc, List.filter_append, HFL.out]
      simp [hb]
    have STOP : Hid (∀ (V : World) (v : Value) (b : Bool), Below W.heap.size W V → badM T F M n (i, j) = true → ((squareM T M i j = none ∧ v = .slice none 0 0 ∧ b = false) ∨ ∃ M' ob g, squareM T M i j = some M' ∧ v = .slice (some ⟨ob, 0, none⟩) T.length T.length ∧ b = true ∧ MtB V W.heap.size v M' g) →
        KeepsFrom X6.heap.size W ((V.setCell ⟨w.heap.size + 1 + 1 + 1 + 1, 0, none⟩ v).setCell ⟨w.heap.size + 1 + 1 + 1 + 1 + 1, 0, none⟩ (.bool b)) ∧ (Code.ret = Code.ret ∧ StepX T F M n w (Pos.vals (pre ++ [⟨(i, j), hi, hj⟩])) ((V.setCell ⟨w.heap.size + 1 + 1 + 1 + 1, 0, none⟩ v).setCell ⟨w.heap.size + 1 + 1 + 1 + 1 + 1, 0, none⟩ (.bool b)))) := Lib.hid fun V v b hV hb hor => by
      have hcl := HRS.out.2.lt
      have hr2 : StepR w (.slice none 0 0) false V := ⟨boxed_below hV HRS.out.1, boxed_below hV HRS.out.2⟩
      refine ⟨(((below_others hV).trans (KeepsOthers.setCell _ _ _)).trans (KeepsOthers.setCell _ _ _)).from _, rfl, two_set (HBL.out.trans (hV.mono HBL.out.size)) v b, Pos.vals pre, (i, j), Pos.vals_snoc _ _, HFL.out, hb, ?_⟩
      rcases hor with ⟨h1, rfl, rfl⟩ | ⟨M', ob, g, h1, rfl, rfl, h2⟩
      · exact .inl ⟨h1, stepR_set hr2 _ _⟩
      · refine .inr ⟨M', ob, g, h1, stepR_set hr2 _ _, ?_⟩
        have h3 := (h2.kept (grownBy_setCell' V (w.heap.size + 1 + 1 + 1 + 1) (.slice (some ⟨ob, 0, none⟩) T.length T.length)) (fun k e => by injection e with e; omega)).kept (grownBy_setCell' _ (w.heap.size + 1 + 1 + 1 + 1 + 1) (.bool true)) (fun k e => by injection e with e; omega)
        exact h3.mono HBL.out.size
    clear hbx hrs hfl hbl hs hflg hu htv hpl hH hx6 hs6 hsz5
    cases fl with
    | false =>
      gi_wp2
      refine ⟨trivial, ?_⟩
      gi_wp2
      exact SAME.out W (Below.refl _ _) (by rw [HBE.out]; rfl)
    | true =>
      gi_wp2
      refine ⟨trivial, (CallsIn.inRound lp (callsIn_wide.2 HPS.out)).mono ?_⟩
      rintro e W2 ⟨rfl, hb2⟩
      have HB2 := Lib.hid hb2
      have hbx2 := HBX.out.below hb2 (by have := HRS.out.2.lt; omega)
      have j0 := hbx2.1.cell
      have j2 := hbx2.2.2.1.cell
      clear hb2 hbx2
      cases s with
      | true =>
        gi_wp2
        exact SAME.out W2 HB2.out (by rw [HBE.out]; rfl)
      | false =>
        have HBT := Lib.hid (show badM T F M n (i, j) = true by rw [HBE.out]; rfl)
        gi_wp2
        refine ⟨trivial, (CallsIn.inRound lp (callsIn_wide.2 (HSQ.out W2 HB2.out))).mono ?_⟩
        rintro e W3 ⟨hb3, hsq⟩
        have hb23 := HB2.out.trans (hb3.mono HB2.out.size)
        have HB3 := Lib.hid hb23
        have r1 := (boxed_below hb23 HRS.out.1).cell
        have r2 := (boxed_below hb23 HRS.out.2).cell
        have g1 := (boxed_below hb23 HRS.out.1).frozen
        have g2 := (boxed_below hb23 HRS.out.2).frozen
        clear hb3 hb23
        cases hsm : squareM T M i j with
        | none =>
          rw [hsm] at hsq
          subst hsq
          have HSM := Lib.hid hsm
          clear hsm
          gi_wp2
          obtain ⟨z1, -, z2⟩ := STOP.out W3 _ _ HB3.out HBT.out (.inl ⟨HSM.out, rfl, rfl⟩)
          exact ⟨z1, rfl, z2⟩
        | some M' =>
          rw [hsm] at hsq
          obtain ⟨ob, g, rfl, hmt⟩ := hsq
          have HMT := Lib.hid (hmt.mono HB2.out.size)
          have HSM := Lib.hid hsm
          clear hsm hmt
          gi_wp2
          obtain ⟨z1, -, z2⟩ := STOP.out W3 _ _ HB3.out HBT.out (.inr ⟨M', ob, g, HSM.out, rfl, rfl, HMT.out⟩)
          exact ⟨z1, rfl, z2⟩
  case done =>
    rintro D ys W hD hys ⟨hbx, hrs, hfl, hbl⟩ hK
    rw [hys] at hfl
    exact absurd hfl HBN.out
  case stop =>
    rintro D c pre W hD hpre ⟨rfl, hbl, p, x, he, h1, h2, h3⟩ hK
    have hnx := stepX_next hpre he h1 h2
    refine wpIn_ret ?_
    refine ⟨by simp, .inl ⟨_, _, rfl, run_takeDeferred hK, ?_⟩⟩
    have hDlt : w.heap.size + 6 ≤ D := by have := HSZ5.out; omega
    rcases h3 with ⟨h3, h4⟩ | ⟨M', ob, g, h3, h4, h5⟩
    · have c1 := (boxed_put (D := D) (o := .deferred none) h4.1 (by omega)).cell
      have c2 := (boxed_put (D := D) (o := .deferred none) h4.2 (by omega)).cell
      refine ⟨.tuple #[.slice none 0 0, .bool false], by simp [results, Tryz.results81, go_sem, c1, c2], hbl.trans (belowK_b (w := w) (Nat.le_refl _) _ D _ _ (by omega) hK rfl rfl), ?_⟩
      rw [hnx, h3]
    · have c1 := (boxed_put (D := D) (o := .deferred none) h4.1 (by omega)).cell
      have c2 := (boxed_put (D := D) (o := .deferred none) h4.2 (by omega)).cell
      refine ⟨.tuple #[.slice (some ⟨ob, 0, none⟩) T.length T.length, .bool true], by simp [results, Tryz.results81, go_sem, c1, c2], hbl.trans (belowK_b (w := w) (Nat.le_refl _) _ D _ _ (by omega) hK rfl rfl), ?_⟩
      rw [hnx, h3]
      exact ⟨ob, g, rfl, h5.keptO (grownBy_putObj' _ D (.deferred none)) (fun r e => by cases e; exact ⟨_, hK, rfl⟩)⟩
end Go.Proofs.YtlmlchkolcmhpaaGreatDoor
