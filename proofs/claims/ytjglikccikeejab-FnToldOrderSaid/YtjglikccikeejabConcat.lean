/-
  Contracts: slices.Grow of nil, slices.Concat of two slices of integers.
-/
import Derived.Test.YtjglikccikeejabOwn
import Derived.Lib.AppendZerosOnto
import Derived.Lib.AppendZeros
import Derived.Lib.SliceRun
namespace Go.Proofs.Ytjglikccikeejab
open Go.RowKit

set_option maxHeartbeats 2000000 in
theorem growI (n : Nat) (w : World) (h1 : 1 ≤ n) (h2 : n ≤ 100000000) :
    Calls Try.prog 47 #[.slice none 0 0, .int .i64 n] w fun e w' => ∃ v, e = .returned v ∧ Own w' w.heap.size v [] ∧ Below w.heap.size w w' := by
  obtain ⟨i0, hi, hz0, hz1, hz2⟩ := info_parts Try.info3
  have hold : (Builtin.firstCells i0.size 0 (.slice none 0 0)).run Try.prog w.drew = .ok ([] : List Value).toArray w.drew := run_firstCells_none w.drew i0.size 0 0 0
  have hrz : ∀ ty, (Builtin.append_ #[23, 3] ty #[.slice none 0 0, .int .i64 (n : Int)]).run Try.prog w =
      .ok (.slice (some ⟨w.heap.size, 0, none⟩) n (grownCap w n 0 3)) (w.drew.alloc (.cells (([] : List Value).toArray ++ Builtin.zeroCells (Value.int .i64 0).cells n ++ Builtin.zeroCells (Value.int .i64 0).cells (grownCap w n 0 3 - n)) 3)) := fun ty => by
    have h := Lib.run_append_grow_zeros w 23 3 ty 3 i0 (.int .i64 0) .i64 .i64 Try.underlying23 Try.underlying3 hi hz0 none 0 0 [] hold n (by omega) (by omega) (by omega) (by omega)
      (by rw [hz2]; omega) (growslice_fits (by omega) (by rw [hz2]; omega))
    rw [Nat.zero_add] at h
    exact h
  have hGn : n ≤ grownCap w n 0 3 := grownCap_ge w _ _ _
  have hGm := grownCap_le_maxLen w n 0 3 (by unfold maxLen; omega)
  obtain ⟨G, hG⟩ : ∃ G, G = grownCap w n 0 3 := ⟨_, rfl⟩
  rw [← hG] at hrz hGn hGm
  unfold maxLen at hGm
  have hown : Own (w.drew.alloc (.cells (([] : List Value).toArray ++ Builtin.zeroCells (Value.int .i64 0).cells n ++ Builtin.zeroCells (Value.int .i64 0).cells (G - n)) 3)) w.heap.size (.slice (some ⟨w.heap.size, 0, none⟩) 0 G) [] := by
    refine ⟨rfl, .inr ⟨_, G, _, rfl, Nat.le_refl _, heap_alloc_new w.drew _, Nat.zero_le _, by unfold maxLen; omega, ?_, by simp⟩⟩
    simp only [Array.size_append, List.size_toArray, List.length_nil, size_zeroCells]
    have : (Value.int .i64 0).cells.size = 1 := rfl
    rw [this]; omega
  have HOWN := Lib.hid hown
  have HB := Lib.hid (((below_drewN (Below.refl w.heap.size w) 1)).alloc (Nat.le_refl _) (.cells (([] : List Value).toArray ++ Builtin.zeroCells (Value.int .i64 0).cells n ++ Builtin.zeroCells (Value.int .i64 0).cells (G - n)) 3))
  have HRZ := Lib.hid hrz
  obtain ⟨wx, hwx⟩ : ∃ wx, (w.drew.alloc (.cells (([] : List Value).toArray ++ Builtin.zeroCells (Value.int .i64 0).cells n ++ Builtin.zeroCells (Value.int .i64 0).cells (G - n)) 3)) = wx := ⟨_, rfl⟩
  change Hid (Below w.heap.size w (w.drew.alloc (.cells (([] : List Value).toArray ++ Builtin.zeroCells (Value.int .i64 0).cells n ++ Builtin.zeroCells (Value.int .i64 0).cells (G - n)) 3))) at HB
  rw [hwx] at HOWN HB HRZ
  clear hown hG hold hrz hwx hi hz0 hz1 hz2
  go_enter Try.func47, Try.ntmps47
  go_wp2_with (at_builtin; refine Lib.wpList_append_run _ rfl _ _ _ _ rfl _ _ rfl rfl _ _ (HRZ.out _) ?_)
  all_goals
    go_ret
    exact ⟨_, rfl, HOWN.out, HB.out⟩

def Sum2 (p q : Nat) (s i : Value) : Prop := (i = .int .i64 0 ∧ s = .int .i64 0) ∨ (i = .int .i64 1 ∧ s = .int .i64 p) ∨ (i = .int .i64 2 ∧ s = .int .i64 ((p + q : Nat) : Int))
def Cat2 (B : Nat) (xs ys : List Int) (w : World) (v i : Value) (wr : World) : Prop := ((i = .int .i64 0 ∧ Own wr B v []) ∨ (i = .int .i64 1 ∧ Own wr B v xs) ∨ (i = .int .i64 2 ∧ Own wr B v (xs ++ ys))) ∧ Below B w wr

set_option maxHeartbeats 2000000 in
/-- Two slices, one behind the other: the outer slice lies in block tb. -/
theorem concatI (tb : Nat) (a1 a2 : Option Addr) (b1 o1 c1 b2 o2 c2 : Nat) (xs ys : List Int) (w : World) (h0 : w.cell? ⟨tb, 0, none⟩ = some (.slice a1 xs.length c1)) (h1 : w.cell? ⟨tb, 1, none⟩ = some (.slice a2 ys.length c2))
    (hr1 : Row .i64 w a1 b1 o1 xs) (hn1 : a1 = none → c1 = 0) (hr2 : Row .i64 w a2 b2 o2 ys) (hn2 : a2 = none → c2 = 0) (hl1 : xs.length ≤ 10000000) (hl2 : ys.length ≤ 10000000) (hy : 1 ≤ ys.length) :
    Calls Try.prog 41 #[.slice (some ⟨tb, 0, none⟩) 2 2] w fun e w' => ∃ v, e = .returned v ∧ Own w' w.heap.size v (xs ++ ys) ∧ Below w.heap.size w w' := by
  have htb := World.block_lt_of_cell? _ _ h0
  have HR1 := Lib.hid hr1
  have HR2 := Lib.hid hr2
  have HN1 := Lib.hid hn1
  have HN2 := Lib.hid hn2
  obtain ⟨p, hp⟩ : ∃ p, xs.length = p := ⟨_, rfl⟩
  obtain ⟨q, hq⟩ : ∃ q, ys.length = q := ⟨_, rfl⟩
  rw [hp] at h0 hl1
  rw [hq] at h1 hl2 hy
  have HP := Lib.hid hp
  have HQ := Lib.hid hq
  have H0 := Lib.hid h0
  have H1 := Lib.hid h1
  clear hr1 hr2 hn1 hn2 hp hq
  go_enter Try.func41, Try.ntmps41
  go_wp2_with fail
  go_loop [3, 11] (fun s i => Sum2 p q s i) (fun _ i => 2 - (intOf i).toNat)
  case atStart => exact .inl ⟨rfl, rfl⟩
  case round =>
    rcases hrel with ⟨rfl, rfl⟩ | ⟨rfl, rfl⟩ | ⟨rfl, rfl⟩
    · have hneg : decide ((p : Int) < 0) = false := by simp
      go_wp2_with fail
      go_round
      case rel => exact .inr (.inl ⟨rfl, rfl⟩)
      case measure => simp [intOf]
    · have hneg : decide ((p : Int) + (q : Int) < 0) = false := by simp; omega
      go_wp2_with fail
      go_round
      case rel => exact .inr (.inr ⟨rfl, by simp⟩)
      case measure => simp [intOf]
    · clear h0 h1
      go_wp2_with fail
      refine (growI (p + q) _ (by omega) (by omega)).mono ?_
      rintro e w1 ⟨v, rfl, hO, hB⟩
      have HO := Lib.hid hO
      have HB := Lib.hid hB
      clear hO hB
      go_wp2_with fail
      go_loopw [6, 27] (fun v i wr => Cat2 w.heap.size xs ys w v i wr) (fun _ i _ => 2 - (intOf i).toNat)
      case atStart => exact ⟨.inl ⟨rfl, HO.out⟩, HB.out⟩
      case round =>
        clear HO HB
        obtain ⟨⟨rfl, hO⟩ | ⟨rfl, hO⟩ | ⟨rfl, hO⟩, hB⟩ := hrel
        · have HO := Lib.hid hO
          have HB := Lib.hid hB
          have hc : wr.cell? ⟨tb, 0, none⟩ = some (.slice a1 p c1) := (hB.cell (p := ⟨tb, 0, none⟩) htb).trans H0.out
          have HRX := Lib.hid (HR1.out.keep hB (Nat.le_refl _))
          have hs := hB.size
          clear hO hB
          go_wp2_with (at_builtin; refine wpList_appL rfl (.tmp 31) (.tmp 32) rfl w.heap.size _ [] rfl HO.out a1 b1 o1 c1 xs (by rw [HP.out]; rfl) HN1.out HRX.out ?k3 ?k4 ?k5 ?_)
          case k3 => simp
          case k4 => rw [HP.out]; omega
          case k5 => omega
          intro v1 w1 hO1 hB1 _
          have HO1 := Lib.hid hO1
          have HB1 := Lib.hid (HB.out.trans hB1)
          clear hO1 hB1
          go_wp2_with fail
          go_roundw
          case rel => exact ⟨.inr (.inl ⟨rfl, HO1.out⟩), HB1.out⟩
          case measure => simp [intOf]
        · have HO := Lib.hid hO
          have HB := Lib.hid hB
          have hc : wr.cell? ⟨tb, 1, none⟩ = some (.slice a2 q c2) := (hB.cell (p := ⟨tb, 1, none⟩) htb).trans H1.out
          have HRX := Lib.hid (HR2.out.keep hB (Nat.le_refl _))
          have hs := hB.size
          clear hO hB
          go_wp2_with (at_builtin; refine wpList_appL rfl (.tmp 31) (.tmp 32) rfl w.heap.size _ xs rfl HO.out a2 b2 o2 c2 ys (by rw [HQ.out]; rfl) HN2.out HRX.out ?m3 ?m4 ?m5 ?_)
          case m3 => rw [HP.out]; omega
          case m4 => rw [HQ.out]; omega
          case m5 => omega
          intro v1 w1 hO1 hB1 _
          have HO1 := Lib.hid hO1
          have HB1 := Lib.hid (HB.out.trans hB1)
          clear hO1 hB1
          go_wp2_with fail
          go_roundw
          case rel => exact ⟨.inr (.inr ⟨rfl, HO1.out⟩), HB1.out⟩
          case measure => simp [intOf]
        · have HO := Lib.hid hO
          have HB := Lib.hid hB
          clear hO hB
          go_wp2_with fail
          go_ret
          exact ⟨_, rfl, HO.out, HB.out⟩
end Go.Proofs.Ytjglikccikeejab
