/-
  Contracts: spec.l41Join, spec.l41Numbers.
-/
import Derived.Test.YthncpnopplhlkaaDoorDec
import Derived.Test.YthncpnopplhlkaaDoorGrow
namespace Go.Proofs.YthncpnopplhlkaaDoor
open Go.RowKit
open Go.TextMath (word line)

/-- Words so far, with spaces between. -/
def jk (ss : List ByteArray) (k : Nat) : ByteArray := ⟨(Lib.join ((ss.take k).map (·.data.toList)) [32]).toArray⟩
/-- A line of words. -/
def lnS (ss : List ByteArray) : ByteArray := ⟨(line (ss.map (·.data.toList))).toArray⟩
theorem takeS (ss : List ByteArray) {k : Nat} (h : k < ss.length) : ss.take (k + 1) = ss.take k ++ [ss.getD k ⟨#[]⟩] := by
  rw [List.take_succ_eq_append_getElem h]; simp [List.getD_eq_getElem?_getD, List.getElem?_eq_getElem h]
theorem jk_first (ss : List ByteArray) (h : 0 < ss.length) : jk ss 0 ++ ss.getD 0 ⟨#[]⟩ = jk ss 1 := by
  unfold jk
  rw [takeS ss h]
  apply ByteArray.ext
  apply Array.toList_inj.1
  simp [Lib.join_nil, Lib.join_one]
theorem jk_more (ss : List ByteArray) {k : Nat} (h0 : 0 < k) (h : k < ss.length) : (jk ss k ++ ⟨#[32]⟩) ++ ss.getD k ⟨#[]⟩ = jk ss (k + 1) := by
  unfold jk
  rw [takeS ss h, List.map_append, List.map_singleton, Go.TextMath.join_snoc _ _ (by
    intro hh
    have h2 : ((ss.take k).map (·.data.toList)).length = k := by rw [List.length_map, List.length_take]; omega
    rw [hh] at h2
    simp at h2
    omega)]
  apply ByteArray.ext
  apply Array.toList_inj.1
  simp
theorem jk_end (ss : List ByteArray) : jk ss ss.length ++ ⟨#[10]⟩ = lnS ss := by
  unfold jk lnS line
  rw [List.take_length]
  apply ByteArray.ext
  apply Array.toList_inj.1
  simp
theorem jk_size (ss : List ByteArray) (hs : ∀ i, i < ss.length → (ss.getD i ⟨#[]⟩).size ≤ 7) : ∀ k, k ≤ ss.length → (jk ss k).size ≤ 8 * k := by
  intro k
  induction k with
  | zero => intro _; simp [jk, Lib.join_nil, ByteArray.size]
  | succ k ih =>
    intro hk
    have h1 := ih (by omega)
    have h2 := hs k (by omega)
    rcases Nat.eq_zero_or_pos k with h0 | h0
    · subst h0
      rw [Nat.zero_add, ← jk_first ss (by omega), ByteArray.size_append]; omega
    · have h3 : (⟨#[32]⟩ : ByteArray).size = 1 := rfl
      rw [← jk_more ss h0 (by omega), ByteArray.size_append, ByteArray.size_append]; omega

set_option maxHeartbeats 400000 in
theorem joinS (ao : Option Addr) (b off cap : Nat) (ss : List ByteArray) (w : World) (hr : RowS w ao b off ss) (hl : ss.length ≤ 1000) (hs : ∀ i, i < ss.length → (ss.getD i ⟨#[]⟩).size ≤ 7) :
    Calls Tryd.prog 57 #[.slice ao ss.length cap] w fun e w' => e = .returned (.string (lnS ss)) ∧ w = w' := by
  have HR := Lib.hid hr
  have HS := Lib.hid hs
  clear hr hs
  go_enter Tryd.func57, Tryd.ntmps57
  go_wp2_with fail
  go_loop [3, 4] (fun o i => ∃ k : Nat, k ≤ ss.length ∧ i = .int .i64 k ∧ o = .string (jk ss k)) (fun _ i => ss.length - (intOf i).toNat)
  case atStart => exact ⟨0, Nat.zero_le _, rfl, rfl⟩
  case round =>
    obtain ⟨k, hk, rfl, rfl⟩ := hrel
    have hz := jk_size ss HS.out k hk
    by_cases hlt : k < ss.length
    · obtain rfl := HR.out.1 (by omega)
      obtain ⟨s, hse⟩ : ∃ s, ss.getD k ⟨#[]⟩ = s := ⟨_, rfl⟩
      have hc := HR.out.2 k hlt
      have hsz := HS.out k hlt
      rw [hse] at hc hsz
      have HE := Lib.hid hse
      have hz3 : (jk ss k ++ ⟨#[32]⟩ : ByteArray).size ≤ 8 * k + 1 := by
        have h3 : (⟨#[32]⟩ : ByteArray).size = 1 := rfl
        rw [ByteArray.size_append]; omega
      clear hse
      by_cases h0 : 0 < k
      · go_wp2_with fail
        go_round
        case rel => exact ⟨k + 1, by omega, by go_num, by rw [← jk_more ss h0 hlt, HE.out]⟩
        case measure => simp [intOf]; omega
      · obtain rfl : k = 0 := by omega
        rw [Nat.add_zero] at hc
        go_wp2_with fail
        go_round
        case rel => exact ⟨1, by omega, rfl, by rw [← jk_first ss hlt, HE.out]⟩
        case measure => simp [intOf]; omega
    · obtain rfl : k = ss.length := by omega
      go_wp2_with fail
      go_ret
      exact ⟨by rw [← jk_end]; rfl, rfl⟩

theorem wd_size {n : Int} (h0 : 0 ≤ n) (h1 : n ≤ 1000000) : (wd n).size ≤ 7 := by
  have := Go.TextMath.word_short h0 h1
  simpa [wd, ByteArray.size] using this
theorem lnS_wd (xs : List Int) : lnS (xs.map wd) = ⟨(line (xs.map word)).toArray⟩ := by
  unfold lnS
  congr 3
  rw [List.map_map]
  exact List.map_congr_left fun n _ => wd_list n
theorem mapwd_at {xs : List Int} {i : Nat} (h : i < (xs.map wd).length) : (xs.map wd).getD i ⟨#[]⟩ = wd (xs.getD i 0) := by
  rw [List.length_map] at h
  simp [List.getD_eq_getElem?_getD, List.getElem?_eq_getElem h]

set_option maxHeartbeats 1000000 in
theorem numbersS (ao : Option Addr) (b off cap : Nat) (xs : List Int) (w : World) (hr : Row .i64 w ao b off xs) (hl : xs.length ≤ 1000) (hx : ∀ i, i < xs.length → 0 ≤ xs.getD i 0 ∧ xs.getD i 0 ≤ 1000000) :
    Calls Tryd.prog 35 #[.slice ao xs.length cap] w fun e w' => e = .returned (.string ⟨(line (xs.map word)).toArray⟩) ∧ Below w.heap.size w w' := by
  have HR := Lib.hid hr
  have HX := Lib.hid hx
  clear hr hx
  go_enter Tryd.func35, Tryd.ntmps35
  go_wp2_with fail
  go_loopw [3, 4] (fun v i wr => ∃ k : Nat, k ≤ xs.length ∧ i = .int .i64 k ∧ OwnS wr w.heap.size v ((xs.take k).map wd) ∧ Below w.heap.size w wr) (fun _ i _ => xs.length - (intOf i).toNat)
  case atStart =>
    refine ⟨0, Nat.zero_le _, rfl, ?_, (Below.refl _ _).alloc (Nat.le_refl _) _⟩
    have := World.ownsRow_lit (base := w.heap.size) (e := 9) (size := 1) w #[] 0 (Nat.le_refl _) (by unfold maxLen; omega) (by simp)
    simpa [OwnS] using this
  case round =>
    obtain ⟨k, hk, rfl, ho, hb⟩ := hrel
    have HO := Lib.hid ho
    have HB := Lib.hid hb
    have hsz := hb.size
    clear ho hb
    by_cases hlt : k < xs.length
    · have HC := Lib.hid (HR.out.keep HB.out (Nat.le_refl _))
      obtain rfl := HR.out.1 (by omega)
      obtain ⟨x, hxe⟩ : ∃ x, xs.getD k 0 = x := ⟨_, rfl⟩
      have hc := HC.out.2 k hlt
      have hxx := HX.out k hlt
      rw [hxe] at hc hxx
      have HE := Lib.hid hxe
      obtain ⟨hx0, hx1⟩ := hxx
      have htl : Hid (((xs.take k).map wd).length = k) := by show _ = _; simp; omega
      clear hxe
      go_wp2_with fail
      refine (decS (x.toNat + 1) x _ hx0 (by omega) hx1).mono ?_
      rintro e w1 ⟨rfl, hb1⟩
      have HB1 := Lib.hid hb1
      have HO1 := Lib.hid (HO.out.below hb1)
      have hs1 := hb1.size
      clear hb1
      go_wp2_with (at_builtin; refine wpList_app eltS rfl (.tmp 12) (.tmp 18) rfl w.heap.size _ _ _ rfl HO1.out [.string (wd x)] rfl (by intro u hu; simp at hu; subst hu; rfl) rfl rfl ?c1 ?c2 ?_)
      case c1 => rw [htl.out]; omega
      case c2 => omega
      intro v' w2 ho2 hb2 _
      have HO2 : Hid (OwnS w2 w.heap.size v' ((xs.take (k + 1)).map wd)) := by
        rw [List.take_succ_eq_append_getElem hlt, List.map_append, List.map_singleton, ← getD_at hlt, HE.out]
        have h1 : ((xs.take k).map wd ++ [wd x]).length = k + 1 := by rw [List.length_append, htl.out]; rfl
        show w2.ownsRow _ _ 1 v' _ _
        rw [h1, List.map_append]
        simpa using ho2
      have HB2 := Lib.hid hb2
      clear ho2 hb2
      go_wp2_with fail
      go_roundw
      case rel => exact ⟨k + 1, by omega, by go_num, HO2.out, (HB.out.trans (HB1.out.mono hsz)).trans HB2.out⟩
      case measure => simp [intOf]; omega
    · obtain rfl : k = xs.length := by omega
      have hoe := HO.out
      rw [List.take_length] at hoe
      obtain ⟨ao2, b2, c2, hv, hv1, hv2, hv3⟩ := hoe.row
      subst hv
      have hll : (xs.map wd).length = xs.length := List.length_map _
      have hj := joinS ao2 b2 0 c2 (xs.map wd) wr hv3 (by rw [hll]; exact hl) (fun i hi => by
        rw [mapwd_at hi]
        rw [List.length_map] at hi
        exact wd_size (HX.out i hi).1 (HX.out i hi).2)
      rw [hll] at hj hv1 ⊢
      rw [lnS_wd] at hj
      have HJ := Lib.hid hj
      clear hoe hv3 hll HO hj
      go_wp2_with fail
      refine (HJ.out).mono ?_
      rintro e w1 ⟨rfl, rfl⟩
      go_wp2_with fail
      go_ret
      exact ⟨rfl, HB.out⟩
end Go.Proofs.YthncpnopplhlkaaDoor
