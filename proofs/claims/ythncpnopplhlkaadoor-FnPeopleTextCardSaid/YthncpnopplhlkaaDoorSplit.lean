/-
  Contract: strings.SplitSeq at a separator of one byte: its iterator hands over what lies between.
-/
import Derived.RangeFuncNested
import Derived.RangeFuncBound
import Derived.RangeFuncCalls
import Derived.RangeFuncLeaves
import Derived.Shelf.Abstract
import Derived.Shelf.RegionOpen
import Derived.WalkKit
import Derived.OwnWalkIn
import Derived.TacticsInMore
import Derived.LoopNIn
import Derived.LoopIn
import Derived.Lib.IndexLaws
import Derived.Test.YthncpnopplhlkaaDoorBase
import Derived.Test.YthncpnopplhlkaaDoorShelf
import Derived.Test.YthncpnopplhlkaaDoorParse
import Derived.Test.YthncpnopplhlkaaDoorRangeC
namespace Go.Proofs.YthncpnopplhlkaaDoor
open Go.RowKit Go.Shelf
open Go.ParseMath (cutL)
attribute [local go_sem] Oper.semAt_some

/-- The pieces. -/
def cutB (c : UInt8) (s : ByteArray) : List ByteArray := (cutL c s.data.toList).map fun l => ⟨l.toArray⟩

/-- Ahead of the first c, and behind it. -/
theorem cut_first {l : List UInt8} {c : UInt8} {o : Nat} (h : Lib.indexByte l c = o) : o < l.length ∧ cutL c l = l.take o :: cutL c (l.drop (o + 1)) := by
  obtain ⟨h1, h2⟩ := Lib.indexByte_some h
  have hlt : o < l.length := (List.getElem?_eq_some_iff.1 h1).1
  have e : l = l.take o ++ c :: l.drop (o + 1) := by
    have h3 := (List.getElem?_eq_some_iff.1 h1).2
    conv => lhs; rw [← List.take_append_drop o l, List.drop_eq_getElem_cons hlt, h3]
  have hn : c ∉ l.take o := fun hm => by
    obtain ⟨k, hk, e⟩ := List.getElem_of_mem hm
    rw [List.length_take] at hk
    rw [List.getElem_take] at e
    exact h2 k (by omega) (by rw [List.getElem?_eq_getElem (by omega), e])
  refine ⟨hlt, ?_⟩
  conv => lhs; rw [e]
  exact Go.ParseMath.cutL_at hn _
theorem cut_last {l : List UInt8} {c : UInt8} (h : Lib.indexByte l c = -1) : cutL c l = [l] := by
  refine Go.ParseMath.cutL_none fun hm => ?_
  obtain ⟨k, hk, e⟩ := List.getElem_of_mem hm
  exact Lib.indexByte_none h k (by rw [List.getElem?_eq_getElem hk, e])

theorem ex_list (r : ByteArray) (a b : Nat) : (r.extract a b).data.toList = (r.data.toList.take b).drop a := by
  simp only [ByteArray.data_extract, Array.toList_extract, List.extract_eq_take_drop]
  rw [List.take_drop]
  by_cases h : a ≤ b
  · rw [show a + (b - a) = b by omega]
  · rw [show a + (b - a) = a by omega, List.drop_of_length_le (by rw [List.length_take]; omega), List.drop_of_length_le (by rw [List.length_take]; omega)]
theorem ex_size0 {r : ByteArray} {o : Nat} (h : o < r.size) : (r.extract 0 o).size = o := by
  simp [ByteArray.size_extract]; omega
theorem cutB_first {r : ByteArray} {c : UInt8} {o : Nat} (h1 : o < r.data.toList.length) (h2 : cutL c r.data.toList = r.data.toList.take o :: cutL c (r.data.toList.drop (o + 1))) :
    cutB c r = r.extract 0 o :: cutB c (r.extract (o + 1) r.size) := by
  unfold cutB
  rw [h2, List.map_cons]
  congr 1
  · apply ByteArray.ext
    apply Array.toList_inj.1
    rw [ex_list]
    simp
  · rw [ex_list, List.take_of_length_le (by rw [Array.length_toList]; exact Nat.le_refl _)]

/-- What SplitSeq lays: the text, the separator, nothing more. -/
def SplitBoxes (W : World) (lo : Nat) (s : ByteArray) (c : UInt8) : Prop :=
  W.cell? ⟨lo, 0, none⟩ = some (.string s) ∧ W.frozen? ⟨lo, 0, none⟩ = false ∧ W.cell? ⟨lo + 1, 0, none⟩ = some (.string ⟨#[c]⟩) ∧ W.cell? ⟨lo + 2, 0, none⟩ = some (.int .i64 0)
/-- The three blocks are let be. -/
def KeepB (lo : Nat) (A B : World) : Prop := ∀ k, lo ≤ k → k < lo + 3 → B.heap[k]? = A.heap[k]?
theorem KeepB.refl (lo : Nat) (A : World) : KeepB lo A A := fun _ _ _ => rfl
theorem KeepB.trans {lo : Nat} {A B C : World} (h : KeepB lo A B) (k : KeepB lo B C) : KeepB lo A C := fun j h1 h2 => (k j h1 h2).trans (h j h1 h2)
theorem KeepB.boxes {lo : Nat} {A B : World} (h : KeepB lo A B) {s : ByteArray} {c : UInt8} (hb : SplitBoxes A lo s c) : SplitBoxes B lo s c := by
  obtain ⟨h1, h2, h3, h4⟩ := hb
  exact ⟨(World.cell?_of_block (h lo (by omega) (by omega))).trans h1, (World.frozen?_of_block (h lo (by omega) (by omega))).trans h2, (World.cell?_of_block (h (lo + 1) (by omega) (by omega))).trans h3, (World.cell?_of_block (h (lo + 2) (by omega) (by omega))).trans h4⟩

theorem SplitBoxes.set {W : World} {lo : Nat} {r : ByteArray} {c : UInt8} (h : SplitBoxes W lo r c) (r' : ByteArray) : SplitBoxes (W.setCell ⟨lo, 0, none⟩ (.string r')) lo r' c := by
  obtain ⟨h1, h2, h3, h4⟩ := h
  refine ⟨World.cell?_setCell_same' _ _ _ (by rw [h1]; rfl), by rw [World.frozen?_setCell]; exact h2, ?_, ?_⟩
  · exact (World.cell?_of_block (Below.heap_setCell W ⟨lo, 0, none⟩ _ (lo + 1) (by show lo + 1 ≠ lo; omega))).trans h3
  · exact (World.cell?_of_block (Below.heap_setCell W ⟨lo, 0, none⟩ _ (lo + 2) (by show lo + 2 ≠ lo; omega))).trans h4

/-- How much is left. -/
def leftS (lo : Nat) (W : World) : Nat := match W.cell? ⟨lo, 0, none⟩ with
  | some (.string r) => r.size
  | _ => 0
theorem leftS_eq {lo : Nat} {W : World} {r : ByteArray} (h : W.cell? ⟨lo, 0, none⟩ = some (.string r)) : leftS lo W = r.size := by unfold leftS; rw [h]

set_option maxHeartbeats 2000000 in
set_option maxRecDepth 100000 in
theorem split1_in (n l lo : Nat) (s : ByteArray) (c : UInt8) (hs : s.size ≤ 9223372036854775806) (J Jx : List ByteArray → World → Prop) (hJ : ∀ pre V v, J pre V → J pre (V.setCell ⟨lo, 0, none⟩ v))
    (hY : ∀ pre x W, J pre W → x.size ≤ s.size → YieldAt Fence.wide (n - 1) Tryd.prog l #[.string x] W fun e W' =>
      (e = .returned (.bool true) ∧ J (pre ++ [x]) W' ∧ KeepB lo W W') ∨ (e = .returned (.bool false) ∧ Jx (pre ++ [x]) W'))
    (W : World) (hb : SplitBoxes W lo s c) (h0 : J [] W) :
    CallsIn Fence.wide n Tryd.prog 70 #[.func (.yield l) #[] #[], .pointer (some ⟨lo + 1, 0, none⟩), .pointer (some ⟨lo, 0, none⟩), .pointer (some ⟨lo + 2, 0, none⟩)] W fun e W' => (∃ v, e = .returned v) ∧
      ((∃ ys, ys = cutB c s ∧ J ys W') ∨ (∃ pre, pre <+: cutB c s ∧ Jx pre W')) := by
  have HJ := Lib.hid hJ
  have HY := Lib.hid hY
  have HB := Lib.hid hb
  have c1 := hb.1
  have c3 := hb.2.2.1
  clear hJ hY hb
  refine callsIn_of_wp Tryd.func70 rfl trivial ?_ rfl
  simp only [Tryd.ntmps70, List.size_toArray, List.length_cons, List.length_nil, Nat.reduceAdd, Nat.reduceSub, Array.replicate_succ, Array.replicate_zero, List.push_toArray, List.append_toArray, List.nil_append, List.cons_append]
  gi_wp2
  gi_loopw [7] (fun _ wr => ∃ pre r, J pre wr ∧ SplitBoxes wr lo r c ∧ cutB c s = pre ++ cutB c r ∧ r.size ≤ s.size) (fun _ wr => leftS lo wr)
  case atStart => exact ⟨[], s, h0, HB.out, rfl, Nat.le_refl _⟩
  case round =>
    obtain ⟨pre, r, hj, hb, hcut, hrs⟩ := hrel
    have HJP := Lib.hid hj
    have HBX := Lib.hid hb
    have HC := Lib.hid hcut
    have hls := leftS_eq hb.1
    have HLS := Lib.hid hls
    obtain ⟨c1, f1, c3, c4⟩ := hb
    clear hj hcut hls
    by_cases hn : Lib.indexByte r.data.toList c = -1
    · have HIX := Lib.hid (Tryd.strings_Index_one r c wr)
      rw [hn] at HIX
      have hcl := cut_last hn
      have HCL := Lib.hid (show cutB c r = [r] by unfold cutB; rw [hcl]; rfl)
      clear hn hcl
      obtain ⟨fn, tmps, assign, body, hy, hR⟩ := HY.out pre r wr HJP.out hrs
      gi_wp2
      refine ⟨trivial, fun h => (by cases h), (callsIn_wide.2 HIX.out).mono ?_⟩
      rintro e w' ⟨rfl, rfl⟩
      gi_wp2
      refine ⟨fun h => (by cases h), hR.mono ?_⟩
      rintro e W3 (⟨rfl, hJ3, -⟩ | ⟨rfl, hJx3⟩)
      · gi_wp2
        go_end0
        exact ⟨⟨_, rfl⟩, .inl ⟨_, by rw [HC.out, HCL.out], hJ3⟩⟩
      · gi_wp2
        go_end0
        exact ⟨⟨_, rfl⟩, .inr ⟨_, by rw [HC.out, HCL.out]; exact List.prefix_refl _, hJx3⟩⟩
    · obtain ⟨o, ho⟩ : ∃ o : Nat, Lib.indexByte r.data.toList c = o := ⟨(Lib.indexByte r.data.toList c).toNat, by have := Lib.indexByte_ge r.data.toList c; omega⟩
      have HIX := Lib.hid (Tryd.strings_Index_one r c wr)
      rw [ho] at HIX
      obtain ⟨hol, hcf⟩ := cut_first ho
      have holr : o < r.size := hol
      have HCF := Lib.hid (cutB_first hol hcf)
      have hol2 : (o : Int) < (r.size : Int) := by omega
      clear ho hn
      gi_wp2
      refine ⟨trivial, fun h => (by cases h), (callsIn_wide.2 HIX.out).mono ?_⟩
      rintro e w' ⟨rfl, rfl⟩
      obtain ⟨fn, tmps, assign, body, hy, hR⟩ := HY.out pre (r.extract 0 o) w' HJP.out (by rw [ex_size0 holr]; omega)
      gi_wp2
      refine ⟨fun h => (by cases h), hR.mono ?_⟩
      rintro e W3 (⟨rfl, hJ3, hk3⟩ | ⟨rfl, hJx3⟩)
      · obtain ⟨d1, e1, d3, d4⟩ := hk3.boxes HBX.out
        have HD := Lib.hid (hk3.boxes HBX.out)
        have holi : (o : Int) + 1 ≤ (r.size : Int) := by omega
        have holn : o + 1 ≤ r.size := by omega
        clear hk3
        gi_wp2
        go_roundw
        case rel =>
          exact ⟨pre ++ [r.extract 0 o], r.extract (o + 1) r.size, HJ.out _ _ _ hJ3, HD.out.set _, by rw [HC.out, HCF.out, List.append_assoc]; rfl, by rw [ByteArray.size_extract]; omega⟩
        case measure =>
          rw [leftS_eq (HD.out.set _).1, HLS.out, ByteArray.size_extract]
          omega
      · gi_wp2
        refine bodyPost_ret (results_none rfl _ _ _) rfl ?_
        exact ⟨⟨_, rfl⟩, .inr ⟨_, by rw [HC.out, HCF.out]; exact ⟨_, by rw [List.append_assoc]; rfl⟩, hJx3⟩⟩

/-- SplitSeq at a separator of one byte: three boxes, and the iterator. -/
theorem split_in (n : Nat) (s : ByteArray) (c : UInt8) (w : World) :
    CallsIn Fence.wide n Tryd.prog 36 #[.string s, .string ⟨#[c]⟩] w fun e w' =>
      e = .returned (.func (.func 70) #[] #[.pointer (some ⟨w.heap.size + 1, 0, none⟩), .pointer (some ⟨w.heap.size, 0, none⟩), .pointer (some ⟨w.heap.size + 2, 0, none⟩)]) ∧
      SplitBoxes w' w.heap.size s c ∧ Below w.heap.size w w' ∧ w'.heap.size = w.heap.size + 3 := by
  refine (callsIn_wide).2 ?_
  go_enter Tryd.func36, Tryd.ntmps36
  go_wp2_with go_in
  go_ret
  have b0 := Boxed.new w 9 (.string s)
  have b1 := Boxed.new (w.alloc (.cells #[.string s] 9)) 9 (.string ⟨#[c]⟩)
  have b2 := Boxed.new ((w.alloc (.cells #[.string s] 9)).alloc (.cells #[.string ⟨#[c]⟩] 9)) 3 (.int .i64 0)
  rw [World.size_alloc] at b1
  rw [World.size_alloc, World.size_alloc] at b2
  exact ⟨rfl, ⟨((b0.alloc _).alloc _).cell, ((b0.alloc _).alloc _).frozen, (b1.alloc _).cell, b2.cell⟩, (((Below.refl _ _).alloc (Nat.le_refl _) _).alloc (by simp) _).alloc (by simp; omega) _, by simp⟩

/-- A piece. -/
abbrev Piece (M : Nat) : Type := { x : ByteArray // x.size ≤ M }
def Piece.vals {M : Nat} (xs : List (Piece M)) : List ByteArray := xs.map Subtype.val
theorem Piece.vals_snoc {M : Nat} (xs : List (Piece M)) (x : Piece M) : Piece.vals (xs ++ [x]) = Piece.vals xs ++ [x.1] := by
  unfold Piece.vals
  rw [List.map_append]
  rfl
theorem Piece.vals_len {M : Nat} (xs : List (Piece M)) : (Piece.vals xs).length = xs.length := List.length_map _

/-- The iterator's contract. -/
theorem split_iter (n lo : Nat) (s : ByteArray) (c : UInt8) (hs : s.size ≤ 9223372036854775806) (w : World) (hb : SplitBoxes w lo s c) (hlo : lo + 3 ≤ w.heap.size) :
    StateIter n Tryd.prog 70 #[.pointer (some ⟨lo + 1, 0, none⟩), .pointer (some ⟨lo, 0, none⟩), .pointer (some ⟨lo + 2, 0, none⟩)] (fun x : Piece s.size => #[Value.string x.1]) lo (KeepB lo) (fun ys => Piece.vals ys = cutB c s) (fun pre => Piece.vals pre <+: cutB c s) w := by
  intro l J Jx W hW hJ hY h0
  have hkb : KeepB lo w W := fun k _ h2 => hW.block k (by omega)
  refine (split1_in n l lo s c hs (fun pre V => ∃ p, Piece.vals p = pre ∧ J p V) (fun pre V => ∃ p, Piece.vals p = pre ∧ Jx p V) ?_ ?_ W (hkb.boxes hb) ⟨[], rfl, h0⟩).mono ?_
  · rintro pre V v ⟨p, hp, hj⟩
    exact ⟨p, hp, hJ p V v hj⟩
  · rintro pre x V ⟨p, rfl, hj⟩ hx
    obtain ⟨fn, tmps, assign, body, hy, hR⟩ := hY p ⟨x, hx⟩ V hj
    refine ⟨fn, tmps, assign, body, hy, hR.mono ?_⟩
    rintro e V' (⟨he, hj', hk⟩ | ⟨he, hj'⟩)
    · exact .inl ⟨he, ⟨_, Piece.vals_snoc _ _, hj'⟩, hk⟩
    · exact .inr ⟨he, ⟨_, Piece.vals_snoc _ _, hj'⟩⟩
  · rintro e W' ⟨hv, ⟨ys, rfl, p, hp, hj⟩ | ⟨pre, hpre, p, hp, hj⟩⟩
    · exact ⟨hv, .inl ⟨p, hp, hj⟩⟩
    · exact ⟨hv, .inr ⟨p, by show Piece.vals p <+: _; rw [hp]; exact hpre, hj⟩⟩
theorem keepB_put {lo : Nat} {w : World} (hlo : lo + 3 ≤ w.heap.size) (W : World) (o : Obj) : KeepB lo W (W.putObj (w.heap.size + 1) o) := fun k _ h2 => World.putObj_heap_other (by omega)
theorem KeepB.set {lo : Nat} {W : World} {a : Addr} {v : Value} (ha : a.block < lo ∨ lo + 3 ≤ a.block) : KeepB lo W (W.setCell a v) := fun k h1 h2 => Below.heap_setCell W a v k (by omega)
theorem KeepB.of_below {lo n₀ : Nat} {A B : World} (h : Below n₀ A B) (hn : lo + 3 ≤ n₀) (hA : lo + 3 ≤ A.heap.size) : KeepB lo A B := fun k _ h2 => h.block k (by omega)
end Go.Proofs.YthncpnopplhlkaaDoor
