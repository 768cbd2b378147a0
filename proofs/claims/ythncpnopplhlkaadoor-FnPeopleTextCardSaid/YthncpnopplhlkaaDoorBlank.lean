/-
  Contract: spec.l11Blank.
-/
import Derived.Test.YthncpnopplhlkaaDoorMt
namespace Go.Proofs.YthncpnopplhlkaaDoor
open Go.RowKit

/-- Rows of zeros. -/
def blank (h n : Nat) : List (List Int) := List.replicate h (List.replicate n 0)
theorem blank_len (h n : Nat) : (blank h n).length = h := List.length_replicate
theorem blank_row {h n i : Nat} (hi : i < h) : ((blank h n).getD i []).length = n := by
  simp [blank, List.getD_eq_getElem?_getD, List.getElem?_replicate, hi]
theorem blank_succ (k n : Nat) : blank (k + 1) n = blank k n ++ [List.replicate n 0] := by
  unfold blank
  rw [List.replicate_succ']

set_option maxHeartbeats 1000000 in
theorem blankS (h n : Nat) (w : World) (hh : h ≤ 100) (hn : n ≤ 100) :
    Calls Tryd.prog 61 #[.int .i64 h, .int .i64 n] w fun e w' => ∃ v g, e = .returned v ∧ MtI w' w.heap.size v (blank h n) g ∧ Below w.heap.size w w' := by
  have hmk : ∀ W : World, (Instr.makeSlice 48 (.int .i64 (n : Int)) (.int .i64 (n : Int))).run Tryd.prog W = .ok (.slice (some ⟨W.heap.size, 0, none⟩) n n) (W.alloc (.cells (madeCells #[.int .i64 0] n) 3)) :=
    fun W => run_make_row' 48 3 _ 8 Tryd.underlying48 eltI.info rfl .i64 .i64 n (by omega) (by omega) W
  go_enter Tryd.func61, Tryd.ntmps61
  go_wp2_with fail
  go_loopw [5, 6] (fun v i wr => ∃ (k : Nat) (g : Nat → Nat), k ≤ h ∧ i = .int .i64 k ∧ MtI wr w.heap.size v (blank k n) g ∧ Below w.heap.size w wr) (fun _ i _ => h - (intOf i).toNat)
  case atStart => exact ⟨0, fun _ => 0, Nat.zero_le _, rfl, MtG.lit _ _ _ (Nat.le_refl _) rfl, (Below.refl _ _).alloc (Nat.le_refl _) _⟩
  case round =>
    obtain ⟨k, g, hk, rfl, hm, hb⟩ := hrel
    have HM := Lib.hid hm
    have HB := Lib.hid hb
    have hsz := hb.size
    clear hm hb
    by_cases hlt : k < h
    · obtain ⟨W0, hW0⟩ : ∃ W0, wr.alloc (.cells (madeCells #[.int .i64 0] n) 3) = W0 := ⟨_, rfl⟩
      have hb0 : Below wr.heap.size wr W0 := by rw [← hW0]; exact (Below.refl _ _).alloc (Nat.le_refl _) _
      have hrow : W0.rowIs wr.heap.size 3 n (fun _ => .int .i64 0) := by rw [← hW0]; exact World.rowIs_made wr _ _ _
      have hm0 := HM.out.below hb0
      obtain ⟨cs, hown, hcs⟩ := hm0.top
      have hL : Hid ((blank k n).length = k) := blank_len k n
      have HOWN := Lib.hid hown
      have hsw : w.heap.size ≤ W0.heap.size := Nat.le_trans hsz hb0.size
      have HSN := Lib.hid (fun (v' : Value) (w2 : World) => hm0.snoc (v' := v') (w2 := w2) (by decide) hown hcs (r := List.replicate n 0) (c := n) (fun i hi => by have := HM.out.lt hi; omega) hsz hrow (fun j x hx => by
        have := List.getElem?_eq_some_iff.1 hx
        obtain ⟨h1, h2⟩ := this
        simp at h2
        rw [← h2]) (by simp) (by omega))
      have HBW := Lib.hid (HB.out.trans (hb0.mono hsz))
      have hlr : (List.replicate n (0 : Int)).length = n := List.length_replicate
      rw [hlr] at HSN
      clear hown hcs hrow hb0 hm0 hlr
      rw [← hW0] at HOWN HSN HBW hsw
      clear hW0
      have HSW := Lib.hid hsw
      clear hsw
      go_wp2_with (at_builtin; refine wpList_appH eltR rfl (.tmp 13) (.tmp 16) rfl w.heap.size _ _ _ rfl HOWN.out [.slice (some ⟨wr.heap.size, 0, none⟩) n n] rfl (by intro u hu; simp at hu; subst hu; rfl) rfl (wr.heap.size + 1) (by simp) rfl ?c1 HSW.out ?_)
      case c1 => rw [hL.out]; omega
      intro v' w2 ho2 hb2 hg2
      have HM2 := Lib.hid (HSN.out v' w2 ho2 hg2)
      have HB2 := Lib.hid (HBW.out.trans hb2)
      clear ho2 hb2 hg2
      go_wp2_with fail
      go_roundw
      case rel =>
        have hm2 := HM2.out
        rw [← blank_succ] at hm2
        exact ⟨k + 1, _, by omega, by go_num, hm2, HB2.out⟩
      case measure => simp [intOf]; omega
    · obtain rfl : k = h := by omega
      go_wp2_with fail
      go_ret
      exact ⟨_, g, rfl, HM.out, HB.out⟩
end Go.Proofs.YthncpnopplhlkaaDoor
