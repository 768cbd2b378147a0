/-
  strconv.Atoi at every text: whether it finds a number, and which; where its two errors lie.
-/
import Derived.Test.YthncpnopplhlkaaDoorBase
import Derived.Test.YthncpnopplhlkaaDoorShelf
import Derived.Test.YthncpnopplhlkaaDoorParse
import Derived.Lib.AtoiErrMem
namespace Go.Proofs.YthncpnopplhlkaaDoor
open Go.RowKit
open Go.ParseMath (okI valI)

/-- The library's two errors are laid. -/
def ErrL (w : World) : Prop := (∃ t p, w.cell? ⟨3, 0, none⟩ = some (.iface t p)) ∧ ∃ t p, w.cell? ⟨4, 0, none⟩ = some (.iface t p)
theorem ErrL.keep {w w' : World} (h : ErrL w) {B : Nat} (hb : Below B w w') (hB : w.heap.size ≤ B) : ErrL w' := by
  obtain ⟨⟨t, p, h1⟩, t', p', h2⟩ := h
  exact ⟨⟨t, p, (hb.cell (p := ⟨_, 0, none⟩) (Nat.lt_of_lt_of_le (World.block_lt_of_cell? _ _ h1) hB)).trans h1⟩, t', p', (hb.cell (p := ⟨_, 0, none⟩) (Nat.lt_of_lt_of_le (World.block_lt_of_cell? _ _ h2) hB)).trans h2⟩

theorem atoi_yes (s : ByteArray) (w : World) (hs : s.size ≤ 281474976710656) (h : okI s.data.toList = true) :
    Calls Tryd.prog 60 #[.string s] w fun e w' => e = .returned (.tuple #[.int .i64 (valI s.data.toList), .nilIface]) ∧ Below w.heap.size w w' := by
  unfold okI at h
  unfold valI
  cases ha : Lib.atoiAll s.data.toList
  · rename_i v
    refine (Tryd.strconv_Atoi_ok s (by omega) v ha w).mono ?_
    rintro e w' ⟨he, rfl | ⟨t, rfl⟩⟩
    · exact ⟨he, Below.refl _ _⟩
    · exact ⟨he, Lib.bytesWorld_below _ _ _⟩
  · rw [ha] at h; cases h
  · rw [ha] at h; cases h
/-- Some error. -/
def SomeErr (w : World) (e : Ending) (w' : World) : Prop := ∃ (v : Int) (t : TypeId) (N : Nat), e = .returned (.tuple #[.int .i64 v, .iface t (.pointer (some ⟨N, 0, none⟩))]) ∧ Below w.heap.size w w'
theorem atoi_no (s : ByteArray) (w : World) (hs : s.size ≤ 281474976710656) (he : ErrL w) (h : okI s.data.toList = false) :
    Calls Tryd.prog 60 #[.string s] w (SomeErr w) := by
  unfold okI at h
  obtain ⟨⟨t, p, h1⟩, t', p', h2⟩ := he
  cases ha : Lib.atoiAll s.data.toList
  · rw [ha] at h; cases h
  · refine (Any.strconv_Atoi_syntax Tryd.laysC172 s hs ha _ w h1 (.inr ⟨_, _, rfl⟩)).mono ?_
    rintro e w' ⟨N, he, _, _, hb⟩
    exact ⟨_, _, N, he, hb⟩
  · refine (Tryd.strconv_Atoi_range s hs ha _ w h2 (.inr ⟨_, _, rfl⟩)).mono ?_
    rintro e w' ⟨N, he, _, _, hb⟩
    exact ⟨_, _, N, he, hb⟩
end Go.Proofs.YthncpnopplhlkaaDoor
