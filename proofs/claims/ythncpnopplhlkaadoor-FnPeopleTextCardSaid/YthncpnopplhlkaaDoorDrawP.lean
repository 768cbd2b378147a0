/-
  Contracts: spec.l6Open, spec.l6Rd.pick: a code that is read byte by byte.
-/
import Derived.Test.YthncpnopplhlkaaDoorBase
namespace Go.Proofs.YthncpnopplhlkaaDoor
open Go.RowKit

/-- A reader of a code lies in block rb: its place is p. -/
def IsRd (w : World) (rb : Nat) (p : Int) : Prop :=
  ∃ (ao : Option Addr) (b off cap : Nat) (cs : List Int), w.heap[rb]? = some (.cells #[.slice ao cs.length cap, .int .i64 p] 68 (0, 0)) ∧ Row .u8 w ao b off cs ∧ (0 < cs.length → b < rb) ∧
    cs.length ≤ 2000 ∧ (∀ i, i < cs.length → 0 ≤ cs.getD i 0 ∧ cs.getD i 0 ≤ 255) ∧ 0 ≤ p

theorem IsRd.lt {w : World} {rb : Nat} {p : Int} (h : IsRd w rb p) : rb < w.heap.size := by
  obtain ⟨ao, b, off, cap, cs, hh, _⟩ := h
  exact (Array.getElem?_eq_some_iff.1 hh).1

/-- It is kept where its block and what lies below it are kept. -/
theorem IsRd.keep {w w' : World} {rb : Nat} {p : Int} (h : IsRd w rb p) {B : Nat} (hb : Below B w w') (hB : rb < B) : IsRd w' rb p := by
  obtain ⟨ao, b, off, cap, cs, hh, hr, hlt, h1, h2, h3⟩ := h
  refine ⟨ao, b, off, cap, cs, (hb.block rb hB).trans hh, ⟨hr.1, fun i hi => ?_⟩, hlt, h1, h2, h3⟩
  have := hlt (by omega)
  rw [hb.cell (p := ⟨b, off + i, none⟩) (show b < B by omega)]
  exact hr.2 i hi

/-- Only block rb has turned. -/
def Only (rb : Nat) (w w' : World) : Prop := w'.os = w.os ∧ w'.tape = w.tape ∧ w'.output = w.output ∧ w'.heap.size = w.heap.size ∧ ∀ k, k ≠ rb → w'.heap[k]? = w.heap[k]?

theorem Only.below {rb : Nat} {w w' : World} (h : Only rb w w') {B : Nat} (hB : B ≤ rb) : Below B w w' :=
  ⟨h.1, h.2.1, h.2.2.1, Nat.le_of_eq h.2.2.2.1.symm, fun k hk => h.2.2.2.2 k (by omega)⟩

theorem i64_xor (a b : Int) (ha : 0 ≤ a) (hb : 0 ≤ b) (ha2 : a ≤ 9223372036854775807) (hb2 : b ≤ 9223372036854775807) : ∃ y : Nat, bits .xor .i64 a b = (y : Int) ∧ (y : Int) ≤ 9223372036854775807 := by
  obtain ⟨m, rfl⟩ := Int.eq_ofNat_of_zero_le ha
  obtain ⟨n, rfl⟩ := Int.eq_ofNat_of_zero_le hb
  have hx : m ^^^ n < 2 ^ 63 := Nat.xor_lt_two_pow (by omega) (by omega)
  have h1 : (BitVec.ofInt 64 (m : Int)).toNat = m := by
    rw [BitVec.ofInt_natCast, BitVec.toNat_ofNat]; exact Nat.mod_eq_of_lt (by omega)
  have h2 : (BitVec.ofInt 64 (n : Int)).toNat = n := by
    rw [BitVec.ofInt_natCast, BitVec.toNat_ofNat]; exact Nat.mod_eq_of_lt (by omega)
  refine ⟨m ^^^ n, ?_, by omega⟩
  show IntKind.i64.wrap ((BitVec.ofInt 64 (m : Int) ^^^ BitVec.ofInt 64 (n : Int)).toNat : Int) = _
  rw [BitVec.toNat_xor, h1, h2]
  exact IntWalk.i64_in _ ⟨by omega, by omega⟩

theorem tmod_nat (a b : Nat) : Int.tmod (a : Int) (b : Int) = ((a % b : Nat) : Int) := by rw [Int.tmod_eq_emod_of_nonneg (by omega)]; rfl
theorem tdiv_nat (a b : Nat) : Int.tdiv (a : Int) (b : Int) = ((a / b : Nat) : Int) := by rw [Int.tdiv_eq_ediv_of_nonneg (by omega)]; rfl

set_option maxHeartbeats 400000 in
theorem open_any (ao : Option Addr) (b off cap : Nat) (cs : List Int) (w : World) (hr : Row .u8 w ao b off cs) (hl : cs.length ≤ cap) (hw : ∀ i, i < cs.length → (Lit.int .u8 (cs.getD i 0)).wf = true) (hl2 : cap ≤ 9223372036854775807) :
    Calls Tryd.prog 32 #[.slice ao cs.length cap] w fun e w' => e = .returned (.pointer (some ⟨w.heap.size, 0, none⟩)) ∧ Below w.heap.size w w' ∧ IsRd w' w.heap.size 0 ∧ w'.heap.size = w.heap.size + 1 := by
  have hb : ∀ i, i < cs.length → 0 ≤ cs.getD i 0 ∧ cs.getD i 0 ≤ 255 := fun i hi => by
    have := hw i hi
    simpa [Lit.wf, IntKind.min, IntKind.max, IntKind.signed, IntKind.bits] using this
  have hlt : ∀ i, i < cs.length → b < w.heap.size := fun i hi => World.block_lt_of_cell? _ _ (hr.2 i hi)
  by_cases h2 : cs.length ≤ 2000
  · go_enter Tryd.func32, Tryd.ntmps32
    go_wp2_with fail
    go_ret
    refine ⟨rfl, (Below.refl _ _).alloc (Nat.le_refl _) _, ⟨ao, b, off, cap, cs, heap_alloc_new w _, hr.keep ((Below.refl _ _).alloc (Nat.le_refl _) _) (Nat.le_refl _), fun h => hlt 0 h, h2, hb, Int.le_refl _⟩, by simp⟩
  · have htl : (cs.take 2000).length = 2000 := by rw [List.length_take]; omega
    have hget : ∀ i, i < 2000 → (cs.take 2000).getD i 0 = cs.getD i 0 := fun i hi => by
      simp only [List.getD_eq_getElem?_getD]; rw [List.getElem?_take_of_lt hi]
    have hr2 : Row .u8 w ao b off (cs.take 2000) := ⟨fun _ => hr.1 (by omega), fun i hi => by rw [htl] at hi; rw [hget i hi]; exact hr.2 i (by omega)⟩
    obtain rfl := hr.1 (by omega)
    have Hr := Lib.hid hr
    have Hr2 := Lib.hid hr2
    have Hb := Lib.hid hb
    have Hg := Lib.hid hget
    have Hl := Lib.hid hlt
    have Ht := Lib.hid htl
    clear hr hr2 hb hget hlt hw htl
    go_enter Tryd.func32, Tryd.ntmps32
    go_wp2_with fail
    go_ret
    have hlt := Hl.out
    have hb := Hb.out
    refine ⟨rfl, (Below.refl _ _).alloc (Nat.le_refl _) _, ⟨some ⟨b, off, none⟩, b, off, cap, cs.take 2000, by rw [Ht.out]; exact heap_alloc_new w _, Hr2.out.keep ((Below.refl _ _).alloc (Nat.le_refl _) _) (Nat.le_refl _), fun h => hlt 0 (by omega), by rw [Ht.out]; exact Nat.le_refl _, fun i hi => by rw [Ht.out] at hi; rw [Hg.out i hi]; exact hb i (by omega), Int.le_refl _⟩, by simp⟩

/-- A number from 0 to n-1. -/
def Picked (n p : Int) (rb : Nat) (w : World) (e : Ending) (w' : World) : Prop := ∃ k : Int, e = .returned (.int .i64 k) ∧ 0 ≤ k ∧ (k < n ∨ k = 0) ∧ IsRd w' rb (p + 1) ∧ Only rb w w'

set_option maxHeartbeats 1000000 in
theorem pick_any (rb : Nat) (n p : Int) (w : World) (h : IsRd w rb p) (hp : p ≤ 1000000000) (hn : n ≤ 9223372036854775807) :
    Calls Tryd.prog 47 #[.pointer (some ⟨rb, 0, none⟩), .int .i64 n] w (Picked n p rb w) := by
  obtain ⟨ao, b, off, cap, cs, hh, hr, hlt, hl, hby, hp0⟩ := h
  have c0 : w.cell? ⟨rb, 0, none⟩ = some (.slice ao cs.length cap) := by simp [World.cell?, hh]
  have c1 : w.cell? ⟨rb, 1, none⟩ = some (.int .i64 p) := by simp [World.cell?, hh]
  have f1 : w.frozen? ⟨rb, 1, none⟩ = false := by simp [World.frozen?, hh]
  have fin : ∀ q : Nat, IsRd ((w.setCell ⟨rb, 1, none⟩ (.int .i64 (p + 1))).drewN q) rb (p + 1) ∧ Only rb w ((w.setCell ⟨rb, 1, none⟩ (.int .i64 (p + 1))).drewN q) := by
    intro q
    have ho : Only rb w ((w.setCell ⟨rb, 1, none⟩ (.int .i64 (p + 1))).drewN q) := ⟨rfl, rfl, rfl, by simp [World.setCell], fun k hk => Below.heap_setCell _ _ _ _ hk⟩
    refine ⟨⟨ao, b, off, cap, cs, ?_, ⟨hr.1, fun i hi => ?_⟩, hlt, hl, hby, by omega⟩, ho⟩
    · show (w.setCell ⟨rb, 1, none⟩ (.int .i64 (p + 1))).heap[rb]? = _
      simp [World.setCell, Array.getElem?_modify, hh]
    · have := hlt (by omega)
      rw [World.cell?_of_block (w := w) (ho.2.2.2.2 b (by omega))]; exact hr.2 i hi
  have Fin := Lib.hid fin
  clear fin
  by_cases hn1 : n < 1
  · clear hr hby hh
    go_enter Tryd.func47, Tryd.ntmps47
    go_wp2_with fail
    go_ret
    exact ⟨0, rfl, Int.le_refl _, .inr rfl, Fin.out 0⟩
  by_cases hz : cs.length = 0
  · have h0 : ((cs.length : Int) == 0) = true := by simp [hz]
    have Hz := Lib.hid hz
    clear hr hby hh hz
    go_enter Tryd.func47, Tryd.ntmps47
    go_wp2_with fail
    go_ret
    exact ⟨0, rfl, Int.le_refl _, .inr rfl, Fin.out 0⟩
  have h0 : ((cs.length : Int) == 0) = false := by rw [beq_eq_false_iff_ne]; omega
  obtain ⟨kp, rfl⟩ := Int.eq_ofNat_of_zero_le hp0
  have hbr := hlt (by omega)
  obtain rfl := hr.1 (by omega)
  by_cases hk : kp < cs.length
  · obtain ⟨x, hx⟩ : ∃ x, cs.getD kp 0 = x := ⟨_, rfl⟩
    have hcx : ∀ v, (w.setCell ⟨rb, 1, none⟩ v).cell? ⟨b, off + kp, none⟩ = some (.int .u8 x) := fun v => by
      rw [World.cell?_setCell_other _ _ _ _ (fun e => by have := congrArg Addr.block e; simp at this; omega), ← hx]; exact hr.2 kp hk
    have hxb := hby kp hk
    rw [hx] at hxb
    obtain ⟨hx0, hx1⟩ := hxb
    clear hr hby hh hx
    go_enter Tryd.func47, Tryd.ntmps47
    go_wp2_with fail
    go_ret
    exact ⟨x % n, rfl, Int.emod_nonneg _ (by omega), .inl (Int.emod_lt_of_pos _ (by omega)), Fin.out 0⟩
  · have hL : 0 < cs.length := by omega
    obtain ⟨L, hLe⟩ : ∃ L, cs.length = L := ⟨_, rfl⟩
    obtain ⟨i1, hi1⟩ : ∃ i1, kp % L = i1 := ⟨_, rfl⟩
    obtain ⟨i2, hi2⟩ : ∃ i2, (kp * 7 + 3) % L = i2 := ⟨_, rfl⟩
    obtain ⟨d, hd⟩ : ∃ d, kp / L = d := ⟨_, rfl⟩
    have hl1 : i1 < L := by rw [← hi1]; exact Nat.mod_lt _ (by omega)
    have hl2 : i2 < L := by rw [← hi2]; exact Nat.mod_lt _ (by omega)
    have hd1 : d ≤ kp := by rw [← hd]; exact Nat.div_le_self _ _
    obtain ⟨x1, hx1⟩ : ∃ x, cs.getD i1 0 = x := ⟨_, rfl⟩
    obtain ⟨x2, hx2⟩ : ∃ x, cs.getD i2 0 = x := ⟨_, rfl⟩
    have hb1 := hby i1 (by omega)
    have hb2 := hby i2 (by omega)
    rw [hx1] at hb1
    rw [hx2] at hb2
    obtain ⟨hb10, hb11⟩ := hb1
    obtain ⟨hb20, hb21⟩ := hb2
    have far : ∀ (i : Nat), i < cs.length → ∀ v, (w.setCell ⟨rb, 1, none⟩ v).cell? ⟨b, off + i, none⟩ = some (.int .u8 (cs.getD i 0)) := fun i hi v => by
      rw [World.cell?_setCell_other _ _ _ _ (fun e => by have := congrArg Addr.block e; simp at this; omega)]; exact hr.2 i hi
    have hc1 := far i1 (by omega)
    have hc2 := far i2 (by omega)
    rw [hx1] at hc1
    rw [hx2] at hc2
    have e1 : Int.tmod (kp : Int) (L : Int) = (i1 : Int) := by rw [← hi1]; exact tmod_nat kp L
    have w7 : IntKind.i64.wrap ((kp : Int) * 7) = (kp : Int) * 7 := IntWalk.i64_in _ ⟨by omega, by omega⟩
    have w73 : IntKind.i64.wrap ((kp : Int) * 7 + 3) = (kp : Int) * 7 + 3 := IntWalk.i64_in _ ⟨by omega, by omega⟩
    have e2 : Int.tmod ((kp : Int) * 7 + 3) (L : Int) = (i2 : Int) := by rw [← hi2]; exact tmod_nat (kp * 7 + 3) L
    have e3 : Int.tdiv (kp : Int) (L : Int) = (d : Int) := by rw [← hd]; exact tdiv_nat kp L
    have a1 : IntKind.i64.wrap (x1 * 131) = x1 * 131 := IntWalk.i64_in _ ⟨by omega, by omega⟩
    have a2 : IntKind.i64.wrap (x2 * 1117) = x2 * 1117 := IntWalk.i64_in _ ⟨by omega, by omega⟩
    have a3 : IntKind.i64.wrap (x1 * 131 + x2 * 1117) = x1 * 131 + x2 * 1117 := IntWalk.i64_in _ ⟨by omega, by omega⟩
    have a4 : IntKind.i64.wrap ((kp : Int) * 29) = (kp : Int) * 29 := IntWalk.i64_in _ ⟨by omega, by omega⟩
    have a5 : IntKind.i64.wrap (x1 * 131 + x2 * 1117 + (kp : Int) * 29) = x1 * 131 + x2 * 1117 + (kp : Int) * 29 := IntWalk.i64_in _ ⟨by omega, by omega⟩
    have a6 : IntKind.i64.wrap ((d : Int) * 53) = (d : Int) * 53 := IntWalk.i64_in _ ⟨by omega, by omega⟩
    have a7 : IntKind.i64.wrap (x1 * 131 + x2 * 1117 + (kp : Int) * 29 + (d : Int) * 53) = x1 * 131 + x2 * 1117 + (kp : Int) * 29 + (d : Int) * 53 := IntWalk.i64_in _ ⟨by omega, by omega⟩
    have hLp : (0 : Int) < (L : Int) := by omega
    have hkL : (L : Int) ≤ (kp : Int) := by omega
    have hl1z : (i1 : Int) < (L : Int) := by omega
    have hl2z : (i2 : Int) < (L : Int) := by omega
    rw [hLe] at h0 c0
    have X0 : 0 ≤ x1 * 131 + x2 * 1117 + (kp : Int) * 29 + (d : Int) * 53 := by omega
    have X1 : x1 * 131 + x2 * 1117 + (kp : Int) * 29 + (d : Int) * 53 ≤ 9223372036854775807 := by omega
    have HL := Lib.hid hLe
    obtain ⟨y, hy, hy1⟩ := i64_xor (x1 * 131 + x2 * 1117 + (kp : Int) * 29 + (d : Int) * 53) ((x1 * 131 + x2 * 1117 + (kp : Int) * 29 + (d : Int) * 53) / 64) X0 (by omega) X1 (by omega)
    have HY := Lib.hid hy
    rw [hLe] at hk
    clear far hr hby hh hx1 hx2 hi1 hi2 hd hLe hlt hl hL hy hz
    go_enter Tryd.func47, Tryd.ntmps47
    go_wp2_with fail
    go_quiet (fail)
    have hy := HY.out
    clear e1 e2 e3 w7 w73 a1 a2 a3 a4 a5 a6 a7
    go_wp2_with fail
    go_ret
    exact ⟨(y : Int) % n, rfl, Int.emod_nonneg _ (by omega), .inl (Int.emod_lt_of_pos _ (by omega)), Fin.out _⟩
end Go.Proofs.YthncpnopplhlkaaDoor
