/-
  Contracts: laws.szBoolSS, laws.toBoolSS, laws.eqBoolSS.
-/
import Derived.Test.YtgnmfbgoacfjeaaDoorBools
import Derived.Test.YtgnmfbgoacfjeaaDoorIntss
namespace Go.Proofs.YtgnmfbgoacfjeaaDoor
open Go.RowKit

/-- What is left of a size: not below 0 where all fits. -/
def SzB (T : List (List Bool)) (w : World) (e : Ending) (w' : World) : Prop :=
  w = w' ∧ ∃ z : Int, e = .returned (.int .i64 z) ∧ -1 ≤ z ∧ z ≤ 1048576 ∧ (0 ≤ z → T.length ≤ 1048576 ∧ ∀ i, i < T.length → (T.getD i []).length ≤ 1048576)

set_option maxHeartbeats 400000 in
theorem szSB_any (n : Nat) (ao : Option Addr) (cap : Nat) (z : Int) (w : World) (hz0 : 0 ≤ z) (hz : z ≤ 1048576) (hn : n ≤ 9223372036854775807) :
    Calls Tryd.prog 54 #[.slice ao n cap, .int .i64 z] w fun e w' => e = .returned (.int .i64 (szL z n)) ∧ w = w' := by
  by_cases h : z < n
  · have h1 : z - (n : Int) < 0 := by omega
    go_enter Tryd.func54, Tryd.ntmps54
    go_wp2_with fail
    go_ret
    exact ⟨ret_int (by unfold szL; rw [if_pos (by assumption)]), rfl⟩
  · have h1 : 0 ≤ z - (n : Int) := by omega
    go_enter Tryd.func54, Tryd.ntmps54
    go_wp2_with fail
    go_ret
    exact ⟨ret_int (by unfold szL; rw [if_neg (by omega)]), rfl⟩

set_option maxHeartbeats 400000 in
theorem szB_any (ao : Option Addr) (b off cap : Nat) (T : List (List Bool)) (z0 : Int) (w : World) (hr : TabB w ao b off T) (hz0 : 0 ≤ z0) (hz1 : z0 ≤ 1048576) (hl : T.length ≤ 9223372036854775807) :
    Calls Tryd.prog 30 #[.slice ao T.length cap, .int .i64 z0] w (SzB T w) := by
  have HR := Lib.hid hr
  clear hr
  by_cases h : z0 < (T.length : Int)
  · have h1 : z0 - (T.length : Int) < 0 := by omega
    go_enter Tryd.func30, Tryd.ntmps30
    go_wp2_with fail
    go_ret
    exact ⟨rfl, -1, rfl, by omega, by omega, fun h => by omega⟩
  · have h1 : 0 ≤ z0 - (T.length : Int) := by omega
    go_enter Tryd.func30, Tryd.ntmps30
    go_wp2_with fail
    go_loop [1, 5] (fun s i => ∃ (k : Nat) (z : Int), k ≤ T.length ∧ i = .int .i64 k ∧ s = .int .i64 z ∧ 0 ≤ z ∧ z ≤ 1048576 ∧ ∀ j, j < k → (T.getD j []).length ≤ 1048576) (fun _ i => T.length - (intOf i).toNat)
    case atStart => exact ⟨0, _, Nat.zero_le _, rfl, rfl, h1, by omega, fun i hi => absurd hi (Nat.not_lt_zero _)⟩
    case round =>
      obtain ⟨k, z, hk, rfl, rfl, hz2, hz3, hold⟩ := hrel
      have HO := Lib.hid hold
      clear hold
      by_cases hlt : k < T.length
      · obtain ⟨a', b', o', c', h2, h3, h4, h5⟩ := HR.out.2 k hlt
        obtain rfl := HR.out.1 (by omega)
        obtain ⟨n, hn⟩ : ∃ n, (T.getD k []).length = n := ⟨_, rfl⟩
        rw [hn] at h2 h4
        have HN := Lib.hid hn
        clear h3 hn
        by_cases hq : z < (n : Int)
        · have hres : Hid (szL z n = -1) := if_pos hq
          go_wp2_with fail
          refine (szSB_any n a' c' z w hz2 hz3 (by omega)).mono ?_
          rintro e w' ⟨rfl, rfl⟩
          rw [hres.out]
          go_wp2_with fail
          go_ret
          exact ⟨rfl, -1, rfl, by omega, by omega, fun h => by omega⟩
        · have hres : Hid (szL z n = z - n) := if_neg hq
          have hg : 0 ≤ z - (n : Int) := by omega
          go_wp2_with fail
          refine (szSB_any n a' c' z w hz2 hz3 (by omega)).mono ?_
          rintro e w' ⟨rfl, rfl⟩
          rw [hres.out]
          go_wp2_with fail
          go_round
          case rel =>
            refine ⟨k + 1, _, by omega, by go_num, rfl, hg, by omega, fun j hj => ?_⟩
            by_cases e : j = k
            · subst e; rw [HN.out]; omega
            · exact HO.out j (by omega)
          case measure => simp [intOf]; omega
      · go_wp2_with fail
        go_ret
        exact ⟨rfl, z, rfl, by omega, hz3, fun _ => ⟨by omega, fun i hi => HO.out i (by omega)⟩⟩

theorem RowB.store {w : World} {ao : Option Addr} {b off : Nat} {xs : List Bool} (h : RowB w ao b off xs) {p : Addr} (hp : b ≠ p.block) (u : Value) : RowB (w.setCell p u) ao b off xs :=
  ⟨h.1, fun i hi => by rw [World.cell?_setCell_other _ _ _ _ (fun e => hp (by have := congrArg Addr.block e; first | exact this | exact this.symm))]; exact h.2 i hi⟩
theorem RowB.of_rowIs {w : World} {b t : Nat} {xs : List Bool} (h : w.rowIs b t xs.length (fun i => .bool (xs.getD i false))) : RowB w (some ⟨b, 0, none⟩) b 0 xs :=
  ⟨fun _ => rfl, fun i hi => by rw [Nat.zero_add]; exact h.cell hi⟩
theorem RowB.drewN {w : World} {ao : Option Addr} {b off : Nat} {xs : List Bool} (h : RowB w ao b off xs) (q : Nat) : RowB (w.drewN q) ao b off xs := h
/-- The first m rows are laid. -/
def PartB (w : World) (tb n m : Nat) (T : List (List Bool)) : Prop :=
  ∃ f, w.rowIs tb 47 n f ∧ ∀ i, i < m → ∃ a' b' o' c', f i = .slice a' (T.getD i []).length c' ∧ RowB w a' b' o' (T.getD i []) ∧ (T.getD i []).length ≤ c' ∧ c' ≤ 9223372036854775807 ∧ b' ≠ tb
theorem PartB.put {w w1 : World} {tb n m : Nat} {T : List (List Bool)} (h : PartB w tb n m T) (hb : Below w.heap.size w w1) {a' : Option Addr} {b' o' c' : Nat} (hr : RowB w1 a' b' o' (T.getD m [])) (h1 : (T.getD m []).length ≤ c') (h2 : c' ≤ 9223372036854775807) (hne : b' ≠ tb) :
    PartB (w1.setCell ⟨tb, m, none⟩ (.slice a' (T.getD m []).length c')) tb n (m + 1) T := by
  obtain ⟨f, hf, hh⟩ := h
  refine ⟨_, (hf.of_block (hb.block _ hf.lt)).set m _, fun i hi => ?_⟩
  by_cases e : i = m
  · subst e
    exact ⟨a', b', o', c', if_pos rfl, hr.store hne _, h1, h2, hne⟩
  · obtain ⟨a2, b2, o2, c2, g1, g2, g3, g4, g5⟩ := hh i (by omega)
    exact ⟨a2, b2, o2, c2, by simp only [if_neg e]; exact g1, (g2.keep hb (Nat.le_refl _)).store g5 _, g3, g4, g5⟩
theorem PartB.tab {w : World} {tb : Nat} {T : List (List Bool)} (h : PartB w tb T.length T.length T) : TabB w (some ⟨tb, 0, none⟩) tb 0 T := by
  obtain ⟨f, hf, hh⟩ := h
  refine ⟨fun _ => rfl, fun i hi => ?_⟩
  obtain ⟨a', b', o', c', g1, g2, g3, g4, _⟩ := hh i hi
  exact ⟨a', b', o', c', by rw [Nat.zero_add, hf.cell hi, g1], g2, g3, g4⟩
theorem Tryd.infoRB : (Tryd.prog.info? 47).map (fun i => (i.zero, i.size, i.bytes)) = some (some (.slice none 0 0), 1, 24) := by kernel_rfl

set_option maxHeartbeats 1000000 in
theorem toBoolss (ao : Option Addr) (b off cap : Nat) (T : List (List Bool)) (w : World) (hr : TabB w ao b off T) (hl : T.length ≤ 1048576) (hl2 : ∀ i, i < T.length → (T.getD i []).length ≤ 1048576) :
    Calls Tryd.prog 31 #[.slice ao T.length cap] w fun e w' => e = .returned (.slice (some ⟨w.heap.size, 0, none⟩) T.length T.length) ∧ Below w.heap.size w w' ∧ TabB w' (some ⟨w.heap.size, 0, none⟩) w.heap.size 0 T := by
  have HR := Lib.hid hr
  have HL := Lib.hid hl2
  have hmk := run_make_row' (P := Tryd.prog) 42 47 (.slice none 0 0) 24 Tryd.underlying42 Tryd.infoRB rfl .i64 .i64 T.length (by omega) (by omega)
  clear hr hl2
  go_enter Tryd.func31, Tryd.ntmps31
  go_wp2_with fail
  clear hmk
  go_loopw [4] (fun t wr => ∃ k : Nat, k ≤ T.length ∧ t = .int .i64 k ∧ Below w.heap.size w wr ∧ PartB wr w.heap.size T.length k T) (fun t _ => T.length - (intOf t).toNat)
  case atStart => exact ⟨0, Nat.zero_le _, rfl, (Below.refl _ _).alloc (Nat.le_refl _) _, _, World.rowIs_made w _ _ _, fun i hi => absurd hi (Nat.not_lt_zero _)⟩
  case round =>
    obtain ⟨k, hk, rfl, hb, hp⟩ := hrel
    have HB := Lib.hid hb
    have HP := Lib.hid hp
    clear hb hp
    by_cases hlt : k < T.length
    · have HRW := Lib.hid (HR.out.keep HB.out (Nat.le_refl _))
      obtain ⟨a', b', o', c', h1, h2, h3, h4⟩ := HRW.out.2 k hlt
      obtain rfl := HR.out.1 (by omega)
      obtain ⟨r, hrr⟩ : ∃ r, T.getD k [] = r := ⟨_, rfl⟩
      have hrl := HL.out k hlt
      rw [hrr] at h1 h2 h3 hrl
      have HRR := Lib.hid hrr
      have HR2 := Lib.hid h2
      clear hrr h2
      have hsz := HB.out.size
      have htb : w.heap.size < wr.heap.size := by obtain ⟨f, hf, _⟩ := HP.out; exact hf.lt
      go_wp2_with fail
      refine (toBools_any a' b' o' c' r wr HR2.out (by omega)).mono ?_
      rintro e w1 ⟨rfl, hb1, hrow, hs1⟩
      have HB1 := Lib.hid hb1
      have hrw1 := RowB.of_rowIs hrow
      have HP2 := Lib.hid (fun u => PartB.put HP.out HB1.out (a' := some ⟨wr.heap.size, 0, none⟩) (b' := wr.heap.size) (o' := 0) (c' := r.length) (by rw [HRR.out]; exact hrw1) (by rw [HRR.out]; exact Nat.le_refl _) (u) (by omega))
      have hc1 : ∃ v, w1.cell? ⟨w.heap.size, k, none⟩ = some v := by
        obtain ⟨f, hf, _⟩ := HP.out
        exact ⟨_, (hf.of_block (hb1.block _ hf.lt)).cell hlt⟩
      have hf1 : w1.frozen? ⟨w.heap.size, k, none⟩ = false := by
        obtain ⟨f, hf, _⟩ := HP.out
        exact (hf.of_block (hb1.block _ hf.lt)).frozen k
      obtain ⟨v1, hc1⟩ := hc1
      clear hb1 hrow hs1 hrw1
      go_wp2_with fail
      go_roundw
      case rel =>
        refine ⟨k + 1, by omega, by go_num, (HB.out.trans (HB1.out.mono hsz)).setCell (Nat.le_refl _) _, ?_⟩
        have := HP2.out (by omega)
        rw [HRR.out] at this
        exact this
      case measure => simp [intOf]; omega
    · obtain rfl : k = T.length := by omega
      go_wp2_with fail
      go_ret
      exact ⟨rfl, HB.out, HP.out.tab⟩

set_option maxHeartbeats 400000 in
theorem eqBoolss (ao bo : Option Addr) (b off cap c off2 cap2 : Nat) (T : List (List Bool)) (w : World) (hr1 : TabB w ao b off T) (hr2 : TabB w bo c off2 T) (hl : T.length ≤ 9223372036854775807) :
    Calls Tryd.prog 32 #[.slice ao T.length cap, .slice bo T.length cap2] w fun e w' => e = .returned (.bool true) ∧ ∃ q, w' = w.drewN q := by
  have H1 := Lib.hid hr1
  have H2 := Lib.hid hr2
  clear hr1 hr2
  go_enter Tryd.func32, Tryd.ntmps32
  go_wp2_with fail
  go_loopw [5] (fun t wr => (∃ k : Nat, k ≤ T.length ∧ t = .int .i64 k) ∧ ∃ q, wr = w.drewN q) (fun t _ => T.length - (intOf t).toNat)
  case atStart => exact ⟨⟨0, Nat.zero_le _, rfl⟩, 0, rfl⟩
  case round =>
    obtain ⟨⟨k, hk, rfl⟩, q, rfl⟩ := hrel
    by_cases hlt : k < T.length
    · obtain rfl := H1.out.1 (by omega)
      obtain rfl := H2.out.1 (by omega)
      obtain ⟨a1, b1, o1, c1, g1, g2, g3, g4⟩ := H1.out.2 k hlt
      obtain ⟨a2, b2, o2, c2, k1, k2, k3, k4⟩ := H2.out.2 k hlt
      obtain ⟨r, hrr⟩ : ∃ r, T.getD k [] = r := ⟨_, rfl⟩
      rw [hrr] at g1 g2 g3 k1 k2 k3
      have HG := Lib.hid g2
      have HK := Lib.hid k2
      have hrl : r.length ≤ 9223372036854775807 := by omega
      clear hrr g2 k2
      go_wp2_with fail
      go_quiet ((go_at_call 56; exact quiet_add (eqBools_yes _ _ b1 o1 _ b2 o2 _ r _ (RowB.drewN HG.out _) (RowB.drewN HK.out _) hrl)))
      go_wp2_with fail
      go_roundw
      case rel => exact ⟨⟨k + 1, by omega, by go_num⟩, _, rfl⟩
      case measure => simp [intOf]; omega
    · go_wp2_with fail
      go_ret
      exact ⟨rfl, _, rfl⟩
end Go.Proofs.YtgnmfbgoacfjeaaDoor
