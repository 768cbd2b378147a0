/-
  Contract: (*spec.l6Rd).pick, the number that is picked being known ahead of the call.
-/
import Derived.Test.YthncpnopplhlkaaDoorDrawP
namespace Go.Proofs.YthncpnopplhlkaaDoor
open Go.RowKit

def PickedK (k p : Int) (rb : Nat) (w : World) (e : Ending) (w' : World) : Prop := e = .returned (.int .i64 k) ∧ IsRd w' rb (p + 1) ∧ Only rb w w'

/-- The reader's memory is as it was. -/
def Ag (rb : Nat) (w W : World) : Prop := ∀ k, k ≤ rb → W.heap[k]? = w.heap[k]?
set_option maxHeartbeats 1000000 in
theorem pick_ag (rb : Nat) (n p : Int) (w : World) (h : IsRd w rb p) (hp : p ≤ 1000000000) (hn : n ≤ 9223372036854775807) :
    ∃ k : Int, (0 ≤ k ∧ (k < n ∨ k = 0)) ∧ ∀ W : World, Ag rb w W → Calls Tryd.prog 47 #[.pointer (some ⟨rb, 0, none⟩), .int .i64 n] W (PickedK k p rb W) := by
  obtain ⟨ao, b, off, cap, cs, hh, hr, hlt, hl, hby, hp0⟩ := h
  have ec : ∀ W : World, Ag rb w W → ∀ a : Addr, a.block ≤ rb → W.cell? a = w.cell? a := fun W hW a ha => World.cell?_of_block (hW _ ha)
  have c0' : ∀ W : World, Ag rb w W → W.cell? ⟨rb, 0, none⟩ = some (.slice ao cs.length cap) := fun W hW => by simp [World.cell?, hW rb (Nat.le_refl _), hh]
  have c1' : ∀ W : World, Ag rb w W → W.cell? ⟨rb, 1, none⟩ = some (.int .i64 p) := fun W hW => by simp [World.cell?, hW rb (Nat.le_refl _), hh]
  have f1' : ∀ W : World, Ag rb w W → W.frozen? ⟨rb, 1, none⟩ = false := fun W hW => by simp [World.frozen?, hW rb (Nat.le_refl _), hh]
  have fin' : ∀ W : World, Ag rb w W → ∀ q : Nat, IsRd ((W.setCell ⟨rb, 1, none⟩ (.int .i64 (p + 1))).drewN q) rb (p + 1) ∧ Only rb W ((W.setCell ⟨rb, 1, none⟩ (.int .i64 (p + 1))).drewN q) := by
    intro W hW q
    have hh : W.heap[rb]? = some (.cells #[.slice ao cs.length cap, .int .i64 p] 68 (0, 0)) := by rw [hW rb (Nat.le_refl _)]; exact hh
    have ho : Only rb W ((W.setCell ⟨rb, 1, none⟩ (.int .i64 (p + 1))).drewN q) := ⟨rfl, rfl, rfl, by simp [World.setCell], fun k hk => Below.heap_setCell _ _ _ _ hk⟩
    refine ⟨⟨ao, b, off, cap, cs, ?_, ⟨hr.1, fun i hi => ?_⟩, hlt, hl, hby, by omega⟩, ho⟩
    · show (W.setCell ⟨rb, 1, none⟩ (.int .i64 (p + 1))).heap[rb]? = _
      simp [World.setCell, Array.getElem?_modify, hh]
    · have := hlt (by omega)
      rw [World.cell?_of_block (w := W) (ho.2.2.2.2 b (by omega))]; rw [ec W hW _ (show b ≤ rb by omega)]; exact hr.2 i hi
  have C0 := Lib.hid c0'
  have C1 := Lib.hid c1'
  have F1 := Lib.hid f1'
  have Fin' := Lib.hid fin'
  have EC := Lib.hid ec
  clear fin' c0' c1' f1' ec
  by_cases hn1 : n < 1
  · refine ⟨0, ⟨Int.le_refl _, .inr rfl⟩, fun W hW => ?_⟩
    have c0 := C0.out W hW
    have c1 := C1.out W hW
    have f1 := F1.out W hW
    have Fin := Lib.hid (Fin'.out W hW)
    clear hr hby hh hW
    go_enter Tryd.func47, Tryd.ntmps47
    go_wp2_with fail
    go_ret
    exact ⟨rfl, Fin.out 0⟩
  by_cases hz : cs.length = 0
  · have h0 : ((cs.length : Int) == 0) = true := by simp [hz]
    have Hz := Lib.hid hz
    refine ⟨0, ⟨Int.le_refl _, .inr rfl⟩, fun W hW => ?_⟩
    have c0 := C0.out W hW
    have c1 := C1.out W hW
    have f1 := F1.out W hW
    have Fin := Lib.hid (Fin'.out W hW)
    clear hr hby hh hz hW
    go_enter Tryd.func47, Tryd.ntmps47
    go_wp2_with fail
    go_ret
    exact ⟨rfl, Fin.out 0⟩
  have h0 : ((cs.length : Int) == 0) = false := by rw [beq_eq_false_iff_ne]; omega
  obtain ⟨kp, rfl⟩ := Int.eq_ofNat_of_zero_le hp0
  have hbr := hlt (by omega)
  obtain rfl := hr.1 (by omega)
  by_cases hk : kp < cs.length
  · obtain ⟨x, hx⟩ : ∃ x, cs.getD kp 0 = x := ⟨_, rfl⟩
    refine ⟨x % n, ⟨Int.emod_nonneg _ (by omega), .inl (Int.emod_lt_of_pos _ (by omega))⟩, fun W hW => ?_⟩
    have c0 := C0.out W hW
    have c1 := C1.out W hW
    have f1 := F1.out W hW
    have Fin := Lib.hid (Fin'.out W hW)
    have hcx : ∀ v, (W.setCell ⟨rb, 1, none⟩ v).cell? ⟨b, off + kp, none⟩ = some (.int .u8 x) := fun v => by
      rw [World.cell?_setCell_other _ _ _ _ (fun e => by have := congrArg Addr.block e; simp at this; omega), ← hx, EC.out W hW _ (show b ≤ rb by have := hlt (by omega); omega)]; exact hr.2 kp hk
    have hxb := hby kp hk
    rw [hx] at hxb
    obtain ⟨hx0, hx1⟩ := hxb
    clear hr hby hh hx hW
    go_enter Tryd.func47, Tryd.ntmps47
    go_wp2_with fail
    go_ret
    exact ⟨rfl, Fin.out 0⟩
  · have hL : 0 < cs.length := by omega
    obtain ⟨L, hLe⟩ : ∃ L, cs.length = L := ⟨_, rfl⟩
    obtain ⟨i1, hi1⟩ : ∃ i1, kp % L = i1 := ⟨_, rfl⟩
    obtain ⟨i2, hi2⟩ : ∃ i2, (kp * 7 + 3) % L = i2 := ⟨_, rfl⟩
    obtain ⟨d, hd⟩ : ∃ d, kp / L = d := ⟨_, rfl⟩
    have hl1 : i1 < L := by rw [← hi1]; exact Nat.mod_lt _ (by omega)
    have hl2 : i2 < L := by rw [← hi2]; exact Nat.mod_lt _ (by omega)
    have hd1 : d ≤ kp := by rw [← hd]; exact Nat.div_le_self _ _
    obtain ⟨x1, hx1⟩ : ∃ x, cs.getD i1 0 = x := ⟨_, rfl⟩
    obtain ⟨x2, hx2⟩ : ∃ x, cs.getD i2 0 = x := ⟨_, rfl⟩
    have hb1 := hby i1 (by omega)
    have hb2 := hby i2 (by omega)
    rw [hx1] at hb1
    rw [hx2] at hb2
    obtain ⟨hb10, hb11⟩ := hb1
    obtain ⟨hb20, hb21⟩ := hb2
    have far : ∀ W : World, Ag rb w W → ∀ (i : Nat), i < cs.length → ∀ v, (W.setCell ⟨rb, 1, none⟩ v).cell? ⟨b, off + i, none⟩ = some (.int .u8 (cs.getD i 0)) := fun W hW i hi v => by
      rw [World.cell?_setCell_other _ _ _ _ (fun e => by have := congrArg Addr.block e; simp at this; omega), EC.out W hW _ (show b ≤ rb by have := hlt (by omega); omega)]; exact hr.2 i hi
    have e1 : Int.tmod (kp : Int) (L : Int) = (i1 : Int) := by rw [← hi1]; exact tmod_nat kp L
    have w7 : IntKind.i64.wrap ((kp : Int) * 7) = (kp : Int) * 7 := IntWalk.i64_in _ ⟨by omega, by omega⟩
    have w73 : IntKind.i64.wrap ((kp : Int) * 7 + 3) = (kp : Int) * 7 + 3 := IntWalk.i64_in _ ⟨by omega, by omega⟩
    have e2 : Int.tmod ((kp : Int) * 7 + 3) (L : Int) = (i2 : Int) := by rw [← hi2]; exact tmod_nat (kp * 7 + 3) L
    have e3 : Int.tdiv (kp : Int) (L : Int) = (d : Int) := by rw [← hd]; exact tdiv_nat kp L
    have a1 : IntKind.i64.wrap (x1 * 131) = x1 * 131 := IntWalk.i64_in _ ⟨by omega, by omega⟩
    have a2 : IntKind.i64.wrap (x2 * 1117) = x2 * 1117 := IntWalk.i64_in _ ⟨by omega, by omega⟩
    have a3 : IntKind.i64.wrap (x1 * 131 + x2 * 1117) = x1 * 131 + x2 * 1117 := IntWalk.i64_in _ ⟨by omega, by omega⟩
    have a4 : IntKind.i64.wrap ((kp : Int) * 29) = (kp : Int) * 29 := IntWalk.i64_in _ ⟨by omega, by omega⟩
    have a5 : IntKind.i64.wrap (x1 * 131 + x2 * 1117 + (kp : Int) * 29) = x1 * 131 + x2 * 1117 + (kp : Int) * 29 := IntWalk.i64_in _ ⟨by omega, by omega⟩
    have a6 : IntKind.i64.wrap ((d : Int) * 53) = (d : Int) * 53 := IntWalk.i64_in _ ⟨by omega, by omega⟩
    have a7 : IntKind.i64.wrap (x1 * 131 + x2 * 1117 + (kp : Int) * 29 + (d : Int) * 53) = x1 * 131 + x2 * 1117 + (kp : Int) * 29 + (d : Int) * 53 := IntWalk.i64_in _ ⟨by omega, by omega⟩
    have hLp : (0 : Int) < (L : Int) := by omega
    have hkL : (L : Int) ≤ (kp : Int) := by omega
    have hl1z : (i1 : Int) < (L : Int) := by omega
    have hl2z : (i2 : Int) < (L : Int) := by omega
    rw [hLe] at h0
    have X0 : 0 ≤ x1 * 131 + x2 * 1117 + (kp : Int) * 29 + (d : Int) * 53 := by omega
    have X1 : x1 * 131 + x2 * 1117 + (kp : Int) * 29 + (d : Int) * 53 ≤ 9223372036854775807 := by omega
    have HL := Lib.hid hLe
    obtain ⟨y, hy, hy1⟩ := i64_xor (x1 * 131 + x2 * 1117 + (kp : Int) * 29 + (d : Int) * 53) ((x1 * 131 + x2 * 1117 + (kp : Int) * 29 + (d : Int) * 53) / 64) X0 (by omega) X1 (by omega)
    have HY := Lib.hid hy
    refine ⟨(y : Int) % n, ⟨Int.emod_nonneg _ (by omega), .inl (Int.emod_lt_of_pos _ (by omega))⟩, fun W hW => ?_⟩
    have c0 := C0.out W hW
    have c1 := C1.out W hW
    have f1 := F1.out W hW
    have Fin := Lib.hid (Fin'.out W hW)
    have hc1 := far W hW i1 (by omega)
    have hc2 := far W hW i2 (by omega)
    rw [hx1] at hc1
    rw [hx2] at hc2
    rw [hLe] at c0
    rw [hLe] at hk
    clear hW far hr hby hh hx1 hx2 hi1 hi2 hd hLe hlt hl hL hy hz
    go_enter Tryd.func47, Tryd.ntmps47
    go_wp2_with fail
    go_quiet (fail)
    have hy := HY.out
    clear e1 e2 e3 w7 w73 a1 a2 a3 a4 a5 a6 a7
    go_wp2_with fail
    go_ret
    exact ⟨rfl, Fin.out _⟩
end Go.Proofs.YthncpnopplhlkaaDoor
