/-
  Contracts: impl.isBase, RoundDown, RoundNear; impl.roundText.
-/
import Derived.Test.YtlmlchkolcmhpaaGreatDoorJ5
import Derived.Test.YtlmlchkolcmhpaaGreatDoorJ1
import Derived.Test.YtlmlchkolcmhpaaGreatDoorJ3
import Derived.IntWalk
import Derived.Carry
import Derived.OrdersHeld
import Derived.Deep.RegionHeld
namespace Go.Proofs.YtlmlchkolcmhpaaGreatDoor
open Go.RowKit Go.Shelf
open Go.TextMath (tvB mvB text word)
attribute [local go_sem] Oper.semAt_some

theorem isBase_any (n : Int) (w : World) : Calls Tryz.prog 82 #[.int .i64 n] w fun e w' => e = .returned (.bool (baseB n)) ∧ w = w' := by
  by_cases h1 : 2 ≤ n
  all_goals by_cases h2 : n ≤ 20
  all_goals
    go_enter Tryz.func82, Tryz.ntmps82
    go_wp2_with fail
    go_ret
    exact ⟨ret_bool (by symm; unfold baseB; first | (simp; omega) | (simp; done)), rfl⟩
theorem downI (x b : Int) (w : World) (h0 : 0 ≤ x) (h1 : x ≤ 10000) (hb : baseB b = true) : Calls Tryz.prog 119 #[.int .i64 x, .int .i64 b] w fun e w' => e = .returned (.int .i64 (x - x % b)) ∧ w = w' := by
  have HB := Lib.hid hb
  have hbb : 2 ≤ b ∧ b ≤ 20 := of_decide_eq_true hb
  have hm0 := Int.emod_nonneg x (b := b) (by omega)
  have hm1 := Int.emod_lt_of_pos x (b := b) (by omega)
  have e1 : Int.tmod x b = x % b := Int.tmod_eq_emod_of_nonneg h0
  obtain ⟨m, hm⟩ : ∃ m, x % b = m := ⟨_, rfl⟩
  rw [hm] at e1 hm0 hm1 ⊢
  have hnb : ¬ b = 0 := by omega
  have hnbq : (b == 0) = false := by simp [hnb]
  have hx0 : ¬ x < 0 := by omega
  have hx1 : ¬ 10000 < x := by omega
  have hm20 : m ≤ 20 := by omega
  have hwr : IntKind.i64.wrap m = m := IntWalk.i64_in _ ⟨by omega, by omega⟩
  have hwr2 : IntKind.i64.wrap (x - m) = x - m := IntWalk.i64_in _ ⟨by omega, by omega⟩
  clear hb hbb hm hm1
  go_enter Tryz.func119, Tryz.ntmps119
  go_wp2_with fail
  refine (isBase_any b _).mono ?_
  rintro e w' ⟨rfl, rfl⟩
  rw [HB.out]
  go_wp2_with fail
  go_ret
  exact ⟨rfl, rfl⟩
theorem nearI (x b : Int) (w : World) (h0 : 0 ≤ x) (h1 : x ≤ 10000) (hb : baseB b = true) : Calls Tryz.prog 84 #[.int .i64 x, .int .i64 b] w fun e w' => e = .returned (.int .i64 (near x b)) ∧ w = w' := by
  have hbb : 2 ≤ b ∧ b ≤ 20 := of_decide_eq_true hb
  have hm0 := Int.emod_nonneg x (b := b) (by omega)
  have hm1 := Int.emod_lt_of_pos x (b := b) (by omega)
  have hmx : x % b ≤ x := by
    have := Int.emod_add_mul_ediv x b
    have h4 : 0 ≤ b * (x / b) := Int.mul_nonneg (by omega) (Int.ediv_nonneg h0 (by omega))
    omega
  have HD := Lib.hid (fun W => downI x b W h0 h1 hb)
  have HN := Lib.hid (show near x b = if b ≤ 2 * (x % b) then x - x % b + b else x - x % b from rfl)
  obtain ⟨m, hm⟩ : ∃ m, x % b = m := ⟨_, rfl⟩
  rw [hm] at hm0 hm1 HD HN hmx
  obtain ⟨d, hd⟩ : ∃ d, x - m = d := ⟨_, rfl⟩
  rw [hd] at HD HN
  have hd0 : 0 ≤ d := by omega
  have hd1 : d ≤ 10000 := by omega
  have hxd : x - d = m := by omega
  have w1 : IntKind.i64.wrap (x - d) = m := by rw [hxd]; exact IntWalk.i64_in _ ⟨by omega, by omega⟩
  have w2 : IntKind.i64.wrap (2 * m) = 2 * m := IntWalk.i64_in _ ⟨by omega, by omega⟩
  have w3 : IntKind.i64.wrap (d + b) = d + b := IntWalk.i64_in _ ⟨by omega, by omega⟩
  clear hb hbb hm hd hxd hmx
  by_cases hc : b ≤ 2 * m
  · have HC := Lib.hid hc
    go_enter Tryz.func84, Tryz.ntmps84
    go_wp2_with fail
    refine (HD.out _).mono ?_
    rintro e w' ⟨rfl, rfl⟩
    go_wp2_with fail
    go_ret
    exact ⟨by rw [HN.out, if_pos HC.out]; rfl, rfl⟩
  · have HC := Lib.hid hc
    go_enter Tryz.func84, Tryz.ntmps84
    go_wp2_with fail
    refine (HD.out _).mono ?_
    rintro e w' ⟨rfl, rfl⟩
    go_wp2_with fail
    go_ret
    exact ⟨by rw [HN.out, if_neg (by have := HC.out; omega)]; rfl, rfl⟩

theorem near_twice (x : Int) {b : Int} (hb : baseB b = true) : near (near x b) b = near x b := by
  have hbb : 2 ≤ b ∧ b ≤ 20 := of_decide_eq_true hb
  have key : ∀ y : Int, y % b = 0 → near y b = y := fun y hy => by
    unfold near
    rw [hy, if_neg (by omega)]
    omega
  apply key
  have h1 : (x - x % b) % b = 0 := Int.emod_eq_zero_of_dvd (Int.dvd_self_sub_emod)
  unfold near
  split
  · rw [Int.add_emod_right]; exact h1
  · exact h1
/-- The table with some cells rounded. -/
def rndT (T : List (List Int)) (b : Int) (pre : List (Nat × Nat)) : List (List Int) := T.mapIdx fun i r => r.mapIdx fun j x => if (i, j) ∈ pre then near x b else x
theorem rndT_len (T : List (List Int)) (b : Int) (pre : List (Nat × Nat)) : (rndT T b pre).length = T.length := List.length_mapIdx
theorem rndT_row (T : List (List Int)) (b : Int) (pre : List (Nat × Nat)) (i : Nat) : ((rndT T b pre).getD i []).length = (T.getD i []).length := by
  unfold rndT
  simp only [List.getD_eq_getElem?_getD, List.getElem?_mapIdx]
  cases T[i]? <;> simp
theorem rndT_at {T : List (List Int)} (b : Int) (pre : List (Nat × Nat)) {i j : Nat} (hi : i < T.length) (hj : j < (T.getD i []).length) : cellT (rndT T b pre) i j = if (i, j) ∈ pre then near (cellT T i j) b else cellT T i j := by
  unfold cellT rndT
  rw [List.getD_eq_getElem?_getD (l := T), List.getElem?_eq_getElem hi, Option.getD_some] at hj
  simp only [List.getD_eq_getElem?_getD, List.getElem?_mapIdx, List.getElem?_eq_getElem hi, Option.map_some, Option.getD_some, List.getElem?_eq_getElem hj]
theorem rndT_nil (T : List (List Int)) (b : Int) : rndT T b [] = T := by
  refine grid_ext (rndT_len _ _ _) (fun i _ => rndT_row _ _ _ _) fun i hi j hj => ?_
  rw [rndT_len] at hi
  rw [rndT_row] at hj
  rw [rndT_at b [] hi hj, if_neg (by simp)]
theorem rndT_snoc {T : List (List Int)} {b : Int} (hb : baseB b = true) (pre : List (Nat × Nat)) {i j : Nat} (hi : i < T.length) (hj : j < (T.getD i []).length) : rndT T b (pre ++ [(i, j)]) = putC (rndT T b pre) i j (near (cellT (rndT T b pre) i j) b) := by
  refine grid_ext (by rw [rndT_len, putC_len, rndT_len]) (fun k hk => ?_) fun k hk l hl => ?_
  · rw [rndT_row, putC_row _ _ _ _ _ (by rw [rndT_len]; exact hi), rndT_row]
  · rw [rndT_len] at hk
    rw [rndT_row] at hl
    rw [rndT_at b _ hk hl]
    have h1 := putC_at (rndT T b pre) (a := i) (b := j) k l (near (cellT (rndT T b pre) i j) b) 0 (by rw [rndT_len]; exact hi) (by rw [rndT_row]; exact hj)
    show _ = ((putC (rndT T b pre) i j (near (cellT (rndT T b pre) i j) b)).getD k []).getD l 0
    rw [h1]
    have h2 := rndT_at b pre hk hl
    have h3 := rndT_at b pre hi hj
    by_cases e : k = i ∧ l = j
    · obtain ⟨rfl, rfl⟩ := e
      rw [if_pos (by simp), if_pos ⟨rfl, rfl⟩, h3]
      split
      · rw [near_twice _ hb]
      · rfl
    · rw [if_neg e]
      unfold cellT at h2 ⊢
      rw [h2]
      have hm : (k, l) ∈ pre ++ [(i, j)] ↔ (k, l) ∈ pre := by
        rw [List.mem_append, List.mem_singleton]
        refine ⟨fun h => h.elim id fun h => ?_, .inl⟩
        injection h with h1 h2
        exact absurd ⟨h1, h2⟩ e
      by_cases hp : (k, l) ∈ pre
      · rw [if_pos hp, if_pos (hm.2 hp)]
      · rw [if_neg hp, if_neg fun h => hp (hm.1 h)]
theorem rndT_all {T : List (List Int)} (hv : tvB T = true) (b : Int) : rndT T b (poss (lensT T)) = nearT T b := by
  refine grid_ext (by rw [rndT_len, nearT_len]) (fun i hi => ?_) fun i hi j hj => ?_
  · rw [rndT_len] at hi
    rw [rndT_row, nearT_row hi, List.length_map]
  · rw [rndT_len] at hi
    rw [rndT_row] at hj
    rw [rndT_at b _ hi hj, if_pos ((poss_tv hv).2 ⟨hi, by rw [← ((tv_t.1 hv).2.2.2.2 i hi).1]; exact hj⟩)]
    unfold cellT
    rw [nearT_row hi]
    simp [List.getD_eq_getElem?_getD, List.getElem?_eq_getElem (show j < ((T[i]?).getD []).length by rw [← List.getD_eq_getElem?_getD]; exact hj)]
/-- The cells stay numbers that can be rounded. -/
theorem rndT_in {T : List (List Int)} (hv : tvB T = true) {b : Int} (hb : baseB b = true) (pre : List (Nat × Nat)) {i j : Nat} (hi : i < T.length) (hj : j < (T.getD i []).length) : 0 ≤ cellT (rndT T b pre) i j ∧ cellT (rndT T b pre) i j ≤ 200 := by
  have hbb : 2 ≤ b ∧ b ≤ 20 := of_decide_eq_true hb
  rw [rndT_at b pre hi hj]
  have h1 := ((tv_t.1 hv).2.2.2.2 i hi).2 j hj
  have h2 := near_le (x := cellT T i j) (b := b) h1.1 hbb.1
  unfold cellT at h2 ⊢
  split <;> omega

/-- What the loop keeps. -/
def RndI (T : List (List Int)) (bs : Int) (w : World) (base tb cap : Nat) (g : Nat → Nat) (pre : List (Nat × Nat)) (W : World) : Prop :=
  MtI W base (.slice (some ⟨tb, 0, none⟩) T.length cap) (rndT T bs pre) g ∧ Boxed W w.heap.size 64 (.slice (some ⟨tb, 0, none⟩) T.length cap) ∧ Boxed W (w.heap.size + 1) 3 (.int .i64 bs) ∧ Below base w W

set_option maxHeartbeats 2000000 in
set_option maxRecDepth 100000 in
theorem roundI_f (v : Value) (bs : Int) (w : World) (hv : ∃ a n c, v = .slice a n c) (hb : baseB bs = false) :
    Calls Tryz.prog 47 #[v, .int .i64 bs] w fun e w' => e = .returned (.tuple #[.string ⟨#[]⟩, .bool false]) ∧ Below w.heap.size w w' := by
  obtain ⟨a, n, c, rfl⟩ := hv
  have HB := Lib.hid hb
  clear hb
  refine (callsIn_wide (n := 10)).1 ?_
  refine callsIn_of_wp_marks Tryz.func47 rfl trivial (wpIn_wide.2 ?_) rfl
  simp only [Tryz.ntmps47, List.size_toArray, List.length_cons, List.length_nil, Nat.reduceAdd, Nat.reduceSub, Array.replicate_succ, Array.replicate_zero, List.push_toArray, List.append_toArray, List.nil_append, List.cons_append]
  go_wp2_with fail
  refine (isBase_any bs _).mono ?_
  rintro e w' ⟨rfl, rfl⟩
  rw [HB.out]
  go_wp2_with fail
  exact postF_ret (v := .tuple #[.string ⟨#[]⟩, .bool false]) (by simp [results, Tryz.results47, go_sem]) rfl ⟨rfl, ((Below.refl _ _).alloc (Nat.le_refl _) _).alloc (by simp) _⟩

set_option maxHeartbeats 2000000 in
set_option maxRecDepth 100000 in
theorem roundI (base tb cap : Nat) (T : List (List Int)) (g : Nat → Nat) (bs : Int) (w : World) (hm : MtI w base (.slice (some ⟨tb, 0, none⟩) T.length cap) T g) (hv : tvB T = true) (hb : baseB bs = true) (w0 : World) (hp : PowTab w0) (hw0 : Below base w0 w) (hbs : w0.heap.size ≤ base) (hbase : base ≤ w.heap.size) :
    Calls Tryz.prog 47 #[.slice (some ⟨tb, 0, none⟩) T.length cap, .int .i64 bs] w fun e w' => e = .returned (.tuple #[.string ⟨(text (nearT T bs) []).toArray⟩, .bool true]) ∧ Below base w w' := by
  have HB := Lib.hid hb
  have HV := Lib.hid hv
  have HM := Lib.hid hm
  have HP := Lib.hid hp
  have HW0 := Lib.hid hw0
  obtain ⟨hT1, hT4, hC1, hC4, -⟩ := tv_t.1 hv
  clear hb hv hp hw0
  refine (callsIn_wide (n := 10)).1 ?_
  refine callsIn_of_wp_marks Tryz.func47 rfl trivial (wpIn_wide.2 ?_) rfl
  simp only [Tryz.ntmps47, List.size_toArray, List.length_cons, List.length_nil, Nat.reduceAdd, Nat.reduceSub, Array.replicate_succ, Array.replicate_zero, List.push_toArray, List.append_toArray, List.nil_append, List.cons_append]
  go_wp2_with fail
  refine (isBase_any bs _).mono ?_
  rintro e w' ⟨rfl, rfl⟩
  rw [HB.out]
  go_wp2_with (go_at_call 83; refine (callsIn_wide.1 (cells_in Fence.wide 9 trivial rfl _ _ _ _)).mono ?_; rintro e w' ⟨rfl, rfl⟩)
  obtain ⟨W1, hW1⟩ : ∃ W1, ((w.alloc (.cells #[.slice (some ⟨tb, 0, none⟩) T.length cap] 64)).alloc (.cells #[.int .i64 bs] 3)).alloc (.cells #[.slice (some ⟨tb, 0, none⟩) T.length cap] 64) = W1 := ⟨_, rfl⟩
  have hb1 : Below w.heap.size w W1 := by rw [← hW1]; exact (((Below.refl _ _).alloc (Nat.le_refl _) _).alloc (by simp) _).alloc (by simp; omega) _
  have hx0 : Boxed W1 w.heap.size 64 (.slice (some ⟨tb, 0, none⟩) T.length cap) := by rw [← hW1]; exact ((Boxed.new w _ _).alloc _).alloc _
  have hx1 : Boxed W1 (w.heap.size + 1) 3 (.int .i64 bs) := by
    rw [← hW1]
    have := Boxed.new (w.alloc (.cells #[.slice (some ⟨tb, 0, none⟩) T.length cap] 64)) 3 (.int .i64 bs)
    rw [World.size_alloc] at this
    exact this.alloc _
  have hx2 : Boxed W1 (w.heap.size + 1 + 1) 64 (.slice (some ⟨tb, 0, none⟩) (lensT T).length cap) := by
    rw [← hW1, lensT_len]
    have := Boxed.new ((w.alloc (.cells #[.slice (some ⟨tb, 0, none⟩) T.length cap] 64)).alloc (.cells #[.int .i64 bs] 3)) 64 (.slice (some ⟨tb, 0, none⟩) T.length cap)
    rw [World.size_alloc, World.size_alloc] at this
    exact this
  have hs1 : W1.heap.size = w.heap.size + 3 := by rw [← hW1]; simp
  have hm1 : MtI W1 base (.slice (some ⟨tb, 0, none⟩) T.length cap) T g := HM.out.below hb1
  have hlt : ∀ i, i < T.length → g i < w.heap.size := fun i hi => hm.lt hi
  have htb : tb < w.heap.size := by obtain ⟨_, _, _, _, _, _, h, _⟩ := hm.at_ (i := 0) (by omega); exact h
  have HLT := Lib.hid hlt
  have hcap : T.length ≤ cap := by obtain ⟨ao, b, cap', e, h1, -⟩ := hm.cells; injection e with _ _ e3; rw [e3]; exact h1
  have hH := tab_headsT hm1.tabT.int
  have HX0 := Lib.hid hx0
  have HX1 := Lib.hid hx1
  have HM1 := Lib.hid hm1
  rw [hW1]
  clear hW1 hm hlt hx0 hx1 hm1
  refine (wpIn_wide (n := 10)).1 ?_
  refine wpIn_rangeFunc_ownG (F := Fence.wide) (n := 10) rfl (by omega) (gf := 118) (lb := #[.pointer (some ⟨w.heap.size + 1 + 1, 0, none⟩)]) rfl trivial (enters_of Tryz.func118 (by kernel_rfl) rfl)
    (cells_stops Fence.wide 9 trivial rfl (by omega) (w.heap.size + 1 + 1) (some ⟨tb, 0, none⟩) tb 0 cap (lensT T) (by rw [lensT_len]; omega) (KpT tb) (fun A B h o _ => h.cell o) (fun A => rfl) (fun A B C h k => h.t k) W1 (by omega) (fun _ => by omega) hx2.cell hH) (fun h k => h.t k) (KpT.b (by omega)) (Below.refl _ _) (fun _ => rfl)
    (fun pre W => RndI T bs w base tb cap g (Pos.vals pre) W) (fun _ _ _ => False) ?own (fun _ _ _ _ _ hs _ _ => hs) ?start
    (fun x => { tmps := #[.slice (some ⟨tb, 0, none⟩) T.length cap, .int .i64 bs, .pointer (some ⟨w.heap.size, 0, none⟩), .pointer (some ⟨w.heap.size + 1, 0, none⟩), .string ⟨#[]⟩, .bool false, .int .i64 (x.1.1 : Int), .int .i64 (x.1.2 : Int), .int .i64 bs, .bool true, .bool false, .slice (some ⟨tb, 0, none⟩) T.length cap,
      .func (.func 118) #[] #[.pointer (some ⟨w.heap.size + 1 + 1, 0, none⟩)], .int .i64 (x.1.1 : Int), .int .i64 (x.1.2 : Int), undef, undef, undef, undef, undef, undef, undef, undef, undef, undef, undef, undef, undef, undef, undef, undef, undef], defers := [] }) ?assign ?body ?done ?stop
  case own =>
    rintro s A C row ⟨hm, hbo, hb2, hbl⟩ hgr hr
    have hr' : ∀ r, row = some r → ∃ o : Obj, A.heap[r]? = some o ∧ o.isCells = false := fun r e => (hr r e).2
    have hk : ∀ (b : Nat) (t : TypeId) (v : Value), Boxed A b t v → some b ≠ row := fun b t v hb e' => by
      obtain ⟨o, ho, hc⟩ := hr' b e'.symm
      rw [show A.heap[b]? = _ from hb] at ho; cases ho; cases hc
    exact ⟨hm.keptO hgr hr', hbo.kept hgr (hk _ _ _ hbo), hb2.kept hgr (hk _ _ _ hb2), ownFrom_below (β := Unit) hbase (by omega) () A C row hbl hgr hr⟩
  case start =>
    refine ⟨?_, HX0.out, HX1.out, hb1.mono hbase⟩
    rw [show Pos.vals ([] : List (Pos (lensT T))) = [] from rfl, rndT_nil]
    exact HM1.out
  case assign =>
    intro l x W K hK
    gi_wp2
    exact hK
  case body =>
    rintro l pre ⟨⟨i, j⟩, hi, hj⟩ W ⟨hm, hbo, hb2, hbl⟩ -
    have hpos := pos_lens HV.out ⟨(i, j), hi, hj⟩
    simp only at hpos
    obtain ⟨hi', hj0⟩ := hpos
    have hrl : (T.getD i []).length = (T.getD 0 []).length := ((tv_t.1 HV.out).2.2.2.2 i hi').1
    have hj' : j < (T.getD i []).length := by omega
    have HMW := Lib.hid hm
    have HBL := Lib.hid hbl
    have HBO := Lib.hid hbo
    have HB2 := Lib.hid hb2
    obtain ⟨c, hth, -, hqc, -, -, -, -⟩ := hm.at_ (i := i) (by rw [rndT_len]; exact hi')
    rw [rndT_row] at hth hqc
    obtain ⟨old, hold⟩ : ∃ old, ((rndT T bs (Pos.vals pre)).getD i [])[j]? = some old := ⟨_, get_of (d := 0) (by rw [rndT_row]; exact hj')⟩
    obtain ⟨hst, hsf⟩ := hm.elt (by rw [rndT_len]; exact hi') hold
    have hold2 : cellT (rndT T bs (Pos.vals pre)) i j = old := by unfold cellT; rw [List.getD_eq_getElem?_getD, hold]; rfl
    have hin := rndT_in HV.out HB.out (Pos.vals pre) hi' hj'
    rw [hold2] at hin
    have HSN := Lib.hid (rndT_snoc HB.out (Pos.vals pre) hi' hj')
    rw [hold2] at HSN
    have HNE := Lib.hid (hm.tb_ne (by decide) (i := i) (by rw [rndT_len]; exact hi'))
    have hlow := hm.low i (by rw [rndT_len]; exact hi')
    have hgl := HLT.out i hi'
    have HPUT := Lib.hid (hm.put (by decide) (i := i) (j := j) (by rw [rndT_len]; exact hi') (by rw [rndT_row]; exact hj'))
    obtain ⟨gi, hgi⟩ : ∃ gi, g i = gi := ⟨_, rfl⟩
    rw [hgi] at hth hst hsf hlow hgl HNE HPUT
    obtain ⟨m, hmm⟩ : ∃ m, (T.getD i []).length = m := ⟨_, rfl⟩
    rw [hmm] at hth hqc hj'
    have hct := hbo.cell
    have hcb := hb2.cell
    have hii : (i : Int) < (T.length : Int) := by omega
    have hji : (j : Int) < (m : Int) := by omega
    have HLOW := Lib.hid hlow
    clear hm hbo hb2 hbl hold hold2 hrl hgi hmm hlow hH
    gi_wp2
    refine region_round (by kernel_rfl) (by kernel_rfl) (wpAny_of_held (S := (fun V => V.cell? ⟨w.heap.size, 0, none⟩ = some (.slice (some ⟨tb, 0, none⟩) T.length cap) ∧ V.cell? ⟨w.heap.size + 1, 0, none⟩ = some (.int .i64 bs) ∧ V.cell? ⟨tb, i, none⟩ = some (.slice (some ⟨gi, 0, none⟩) m c))) _ _ _ _ ?_)
    change wpAnyH _ _ _ _ _ _ _ _ W.drew
    have hS0 : W.drew.cell? ⟨w.heap.size, 0, none⟩ = some (.slice (some ⟨tb, 0, none⟩) T.length cap) ∧ W.drew.cell? ⟨w.heap.size + 1, 0, none⟩ = some (.int .i64 bs) ∧ W.drew.cell? ⟨tb, i, none⟩ = some (.slice (some ⟨gi, 0, none⟩) m c) := ⟨hct, hcb, hth⟩
    refine wpAnyH_take (i := 0) (v := .slice (some ⟨tb, 0, none⟩) T.length cap) rfl (by kernel_rfl) (by kernel_rfl) (by kernel_rfl) (fun _ _ _ h => h) (Or.inl ⟨by kernel_rfl, fun V hV => ?_⟩) hS0 ?_
    · obtain ⟨q0, q1, q2⟩ := hV
      go_simp
    simp only [Act.put, List.setIfInBounds_toArray, List.set_cons_zero, List.set_cons_succ]
    refine wpAnyH_take (i := 1) (v := .int .i64 (i : Int)) rfl (by kernel_rfl) (by kernel_rfl) (by kernel_rfl) (fun _ _ _ h => h) (Or.inl ⟨by kernel_rfl, fun V hV => ?_⟩) hS0 ?_
    · obtain ⟨q0, q1, q2⟩ := hV
      go_simp
    simp only [Act.put, List.setIfInBounds_toArray, List.set_cons_zero, List.set_cons_succ]
    refine wpAnyH_take (i := 2) (v := .pointer (some ⟨tb, i, none⟩)) rfl (by kernel_rfl) (by kernel_rfl) (by kernel_rfl) (fun _ _ _ h => h) (Or.inl ⟨by kernel_rfl, fun V hV => ?_⟩) hS0 ?_
    · obtain ⟨q0, q1, q2⟩ := hV
      go_simp
    simp only [Act.put, List.setIfInBounds_toArray, List.set_cons_zero, List.set_cons_succ]
    refine wpAnyH_take (i := 3) (v := .slice (some ⟨gi, 0, none⟩) m c) rfl (by kernel_rfl) (by kernel_rfl) (by kernel_rfl) (fun _ _ _ h => h) (Or.inl ⟨by kernel_rfl, fun V hV => ?_⟩) hS0 ?_
    · obtain ⟨q0, q1, q2⟩ := hV
      go_simp
    simp only [Act.put, List.setIfInBounds_toArray, List.set_cons_zero, List.set_cons_succ]
    refine wpAnyH_take (i := 4) (v := .int .i64 (j : Int)) rfl (by kernel_rfl) (by kernel_rfl) (by kernel_rfl) (fun _ _ _ h => h) (Or.inl ⟨by kernel_rfl, fun V hV => ?_⟩) hS0 ?_
    · obtain ⟨q0, q1, q2⟩ := hV
      go_simp
    simp only [Act.put, List.setIfInBounds_toArray, List.set_cons_zero, List.set_cons_succ]
    refine wpAnyH_take (i := 5) (v := .slice (some ⟨tb, 0, none⟩) T.length cap) rfl (by kernel_rfl) (by kernel_rfl) (by kernel_rfl) (fun _ _ _ h => h) (Or.inl ⟨by kernel_rfl, fun V hV => ?_⟩) hS0 ?_
    · obtain ⟨q0, q1, q2⟩ := hV
      go_simp
    simp only [Act.put, List.setIfInBounds_toArray, List.set_cons_zero, List.set_cons_succ]
    refine wpAnyH_take (i := 6) (v := .int .i64 (i : Int)) rfl (by kernel_rfl) (by kernel_rfl) (by kernel_rfl) (fun _ _ _ h => h) (Or.inl ⟨by kernel_rfl, fun V hV => ?_⟩) hS0 ?_
    · obtain ⟨q0, q1, q2⟩ := hV
      go_simp
    simp only [Act.put, List.setIfInBounds_toArray, List.set_cons_zero, List.set_cons_succ]
    refine wpAnyH_take (i := 7) (v := .pointer (some ⟨tb, i, none⟩)) rfl (by kernel_rfl) (by kernel_rfl) (by kernel_rfl) (fun _ _ _ h => h) (Or.inl ⟨by kernel_rfl, fun V hV => ?_⟩) hS0 ?_
    · obtain ⟨q0, q1, q2⟩ := hV
      go_simp
    simp only [Act.put, List.setIfInBounds_toArray, List.set_cons_zero, List.set_cons_succ]
    refine wpAnyH_take (i := 8) (v := .slice (some ⟨gi, 0, none⟩) m c) rfl (by kernel_rfl) (by kernel_rfl) (by kernel_rfl) (fun _ _ _ h => h) (Or.inl ⟨by kernel_rfl, fun V hV => ?_⟩) hS0 ?_
    · obtain ⟨q0, q1, q2⟩ := hV
      go_simp
    simp only [Act.put, List.setIfInBounds_toArray, List.set_cons_zero, List.set_cons_succ]
    refine wpAnyH_take (i := 9) (v := .int .i64 (j : Int)) rfl (by kernel_rfl) (by kernel_rfl) (by kernel_rfl) (fun _ _ _ h => h) (Or.inl ⟨by kernel_rfl, fun V hV => ?_⟩) hS0 ?_
    · obtain ⟨q0, q1, q2⟩ := hV
      go_simp
    simp only [Act.put, List.setIfInBounds_toArray, List.set_cons_zero, List.set_cons_succ]
    refine wpAnyH_take (i := 10) (v := .pointer (some ⟨gi, j, none⟩)) rfl (by kernel_rfl) (by kernel_rfl) (by kernel_rfl) (fun _ _ _ h => h) (Or.inl ⟨by kernel_rfl, fun V hV => ?_⟩) hS0 ?_
    · obtain ⟨q0, q1, q2⟩ := hV
      go_simp
    simp only [Act.put, List.setIfInBounds_toArray, List.set_cons_zero, List.set_cons_succ]
    refine wpAnyH_take (i := 12) (v := .int .i64 bs) rfl (by kernel_rfl) (by kernel_rfl) (by kernel_rfl) (fun _ _ _ h => h) (Or.inl ⟨by kernel_rfl, fun V hV => ?_⟩) hS0 ?_
    · obtain ⟨q0, q1, q2⟩ := hV
      go_simp
    simp only [Act.put, List.setIfInBounds_toArray, List.set_cons_zero, List.set_cons_succ]
    have hst' : W.drew.cell? ⟨gi, j, none⟩ = some (.int .i64 old) := hst
    have hsf' : W.drew.frozen? ⟨gi, j, none⟩ = false := hsf
    refine wpAnyH_ready (rs := [11]) (by kernel_rfl) (by simp) ?_
    refine AllReadyH.cons rfl (fun K hK => ?_) AllReadyH.nil
    go_simp
    refine hK.out _ _ hS0 (fun _ => ?_)
    try simp only [Act.put, List.setIfInBounds_toArray, List.set_cons_zero, List.set_cons_succ]
    clear hK K
    refine wpAnyH_ready (rs := [13]) (by kernel_rfl) (by simp) ?_
    refine AllReadyH.cons rfl (fun K hK => ?_) AllReadyH.nil
    rw [if_pos (by kernel_rfl)]
    go_simp
    refine (nearI old bs _ hin.1 (by omega) HB.out).mono ?_
    rintro e w' ⟨rfl, rfl⟩
    refine hK.out _ _ hS0 (fun _ => ?_)
    try simp only [Act.put, List.setIfInBounds_toArray, List.set_cons_zero, List.set_cons_succ]
    clear hK K
    refine wpAnyH_take (i := 14) (v := .pointer (some ⟨gi, j, none⟩)) rfl (by kernel_rfl) (by kernel_rfl) (by kernel_rfl) (fun _ _ _ h => h) (Or.inl ⟨by kernel_rfl, fun V hV => ?_⟩) hS0 ?_
    · obtain ⟨q0, q1, q2⟩ := hV
      go_simp
    simp only [Act.put, List.setIfInBounds_toArray, List.set_cons_zero, List.set_cons_succ]
    refine wpAnyH_ready (rs := [15]) (by kernel_rfl) (by simp) ?_
    refine AllReadyH.cons rfl (fun K hK => ?_) AllReadyH.nil
    go_simp
    have hne := HNE.out
    have hSN : (W.drew.setCell ⟨gi, j, none⟩ (.int .i64 (near old bs))).cell? ⟨w.heap.size, 0, none⟩ = some (.slice (some ⟨tb, 0, none⟩) T.length cap) ∧ (W.drew.setCell ⟨gi, j, none⟩ (.int .i64 (near old bs))).cell? ⟨w.heap.size + 1, 0, none⟩ = some (.int .i64 bs) ∧ (W.drew.setCell ⟨gi, j, none⟩ (.int .i64 (near old bs))).cell? ⟨tb, i, none⟩ = some (.slice (some ⟨gi, 0, none⟩) m c) :=
      ⟨(World.cell?_of_block (Below.heap_setCell W.drew ⟨gi, j, none⟩ _ w.heap.size (by simp only; omega))).trans hct, (World.cell?_of_block (Below.heap_setCell W.drew ⟨gi, j, none⟩ _ (w.heap.size + 1) (by simp only; omega))).trans hcb, (World.cell?_of_block (Below.heap_setCell W.drew ⟨gi, j, none⟩ _ tb hne)).trans hth⟩
    refine hK.out _ _ hSN (fun _ => ?_)
    try simp only [Act.put, List.setIfInBounds_toArray, List.set_cons_zero, List.set_cons_succ]
    clear hK K
    refine wpAnyH_done (by kernel_rfl) ?_ _
    refine ⟨((KeepsOthers.setCell W ⟨gi, j, none⟩ (.int .i64 (near old bs))).trans (KeepsOthers.drew _)).from _, Below.heap_setCell W.drew ⟨gi, j, none⟩ _ tb hne, ?_, ?_, ?_, ?_⟩
    · rw [Pos.vals_snoc, HSN.out]
      exact (HPUT.out (near old bs)).below (Below.refl _ _).drew
    · exact (Below.heap_setCell W.drew ⟨gi, j, none⟩ _ w.heap.size (by simp only; omega)).trans HBO.out
    · exact (Below.heap_setCell W.drew ⟨gi, j, none⟩ _ (w.heap.size + 1) (by simp only; omega)).trans HB2.out
    · exact (HBL.out.setCell (p := ⟨gi, j, none⟩) HLOW.out _).drew
  case done =>
    rintro D ys W hD hys ⟨hm, hbo, hb2, hbl⟩ hK
    rw [hys, rndT_all HV.out] at hm
    have HMW := Lib.hid hm
    have HBL := Lib.hid hbl
    have HKW := Lib.hid hK
    have hct := hbo.cell
    have hDl : D < W.heap.size := (Array.getElem?_eq_some_iff.1 hK).1
    have HFT := Lib.hid (fit_near HV.out HB.out)
    have HPW := Lib.hid (HP.out.keep (HW0.out.trans hbl) hbs)
    have hcl := cellsI (some ⟨tb, 0, none⟩) tb 0 cap (nearT T bs) (.slice none 0 0) [] W hm.tabT.int HFT.out (.inl ⟨rfl, rfl⟩) HPW.out
    rw [nearT_len] at hcl
    have HCL := Lib.hid hcl
    have hs := hbl.size
    clear hm hbo hb2 hbl hK hcl
    go_wp2_with fail
    refine (HCL.out).mono ?_
    rintro e w2 ⟨rfl, hb2⟩
    obtain ⟨X, hX⟩ : ∃ X : ByteArray, ⟨(text (nearT T bs) []).toArray⟩ = X := ⟨_, rfl⟩
    rw [hX]
    have HXX := Lib.hid hX
    have HB3 := Lib.hid (HBL.out.trans (hb2.mono (by omega)))
    have HK2 := Lib.hid ((hb2.block D hDl).trans HKW.out)
    have hs2 := hb2.size
    clear hb2 hX
    go_wp2_with fail
    refine ⟨by simp, .inl ⟨_, _, rfl, run_takeDeferred HK2.out, ?_⟩⟩
    refine ⟨.tuple #[.string X, .bool true], by simp [results, Tryz.results47, go_sem], by rw [HXX.out], ?_⟩
    exact HB3.out.trans ((belowK_b (w := w) (Nat.le_refl _) w2 D _ _ (by omega) HK2.out rfl rfl).mono hbase)
  case stop =>
    rintro D c pre W _ _ h _
    exact h.elim
end Go.Proofs.YtlmlchkolcmhpaaGreatDoor
