/-
  Contracts: impl.MaskMany, laws.allMask.
-/
import Derived.Test.YtgnmfbgoacfjeaaDoorDrawMask
import Derived.Test.YtgnmfbgoacfjeaaDoorTextMore
namespace Go.Proofs.YtgnmfbgoacfjeaaDoor
open Go.RowKit
open Go.TextMath (sumN flags)

set_option maxHeartbeats 1000000 in
theorem manyI (am : Option Addr) (bm om cm : Nat) (M : List (List Bool)) (w : World) (hm : TabB w am bm om M) (hl : M.length ≤ 1000) (hl2 : ∀ i, i < M.length → (M.getD i []).length ≤ 1000) :
    Calls Tryd.prog 28 #[.slice am M.length cm] w fun e w' => e = .returned (.int .i64 (flags M)) ∧ w' = w := by
  have HM := Lib.hid hm
  have HL := Lib.hid hl2
  clear hm hl2
  obtain ⟨F, hF⟩ : ∃ F : Nat → Nat, (fun i => sumN (M.getD i []).length (fun j => if (M.getD i []).getD j false then 1 else 0)) = F := ⟨_, rfl⟩
  have HF := Lib.hid hF
  clear hF
  go_enter Tryd.func28, Tryd.ntmps28
  go_wp2_with fail
  go_loop [3, 10] (fun c i => ∃ k n : Nat, k ≤ M.length ∧ i = .int .i64 k ∧ c = .int .i64 n ∧ n = sumN k F ∧ n ≤ 1000 * k) (fun _ i => M.length - (intOf i).toNat)
  case atStart => exact ⟨0, 0, Nat.zero_le _, rfl, rfl, rfl, by omega⟩
  case round =>
    obtain ⟨k, n, hk, rfl, rfl, hn, hnk⟩ := hrel
    have HN := Lib.hid hn
    clear hn
    by_cases hlt : k < M.length
    · obtain ⟨a', b', o', c', h1, h2, h3, h4⟩ := HM.out.2 k hlt
      obtain rfl := HM.out.1 (by omega)
      have hL := HL.out k hlt
      have hFk : F k = sumN (M.getD k []).length (fun j => if (M.getD k []).getD j false then 1 else 0) := by rw [← HF.out]
      obtain ⟨r, hr⟩ : ∃ r, M.getD k [] = r := ⟨_, rfl⟩
      rw [hr] at h1 h2 hL hFk
      have HFK := Lib.hid hFk
      have HR := Lib.hid h2
      clear h2 h3 hr hFk
      go_wp2_with fail
      go_loop [3, 16] (fun c i => ∃ j n2 : Nat, j ≤ r.length ∧ i = .int .i64 j ∧ c = .int .i64 n2 ∧ n2 = n + sumN j (fun j => if r.getD j false then 1 else 0) ∧ n2 ≤ n + j) (fun _ i => r.length - (intOf i).toNat)
      case atStart => exact ⟨0, n, Nat.zero_le _, rfl, rfl, rfl, by omega⟩
      case round =>
        obtain ⟨j, n2, hj, rfl, rfl, hn2, hnj⟩ := hrel
        by_cases hjn : j < r.length
        · obtain rfl := HR.out.1 (by omega)
          have hcell := HR.out.2 j hjn
          have hs : sumN (j + 1) (fun j => if r.getD j false then 1 else 0) = sumN j (fun j => if r.getD j false then 1 else 0) + (if r.getD j false then 1 else 0) := rfl
          obtain ⟨x, hx⟩ : ∃ x, r.getD j false = x := ⟨_, rfl⟩
          rw [hx] at hcell
          have HS : Hid (n + sumN (j + 1) (fun j => if r.getD j false then 1 else 0) = n2 + (if x then 1 else 0)) := Lib.hid (by rw [hs, hx, ← Nat.add_assoc, ← hn2])
          clear hs hx hn2
          cases x with
          | true =>
            go_wp2_with fail
            go_round
            case rel => exact ⟨j + 1, n2 + 1, by omega, by go_num, by go_num, HS.out.symm, by omega⟩
            case measure => simp [intOf]; omega
          | false =>
            go_wp2_with fail
            go_round
            case rel => exact ⟨j + 1, n2, by omega, by go_num, by go_num, HS.out.symm, by omega⟩
            case measure => simp [intOf]; omega
        · obtain rfl : j = r.length := by omega
          have HN2 : Hid (n2 = sumN (k + 1) F) := Lib.hid (by
            show n2 = sumN k F + F k
            rw [HFK.out, ← HN.out]; exact hn2)
          clear hn2
          go_wp2_with fail
          go_round
          case rel => exact ⟨k + 1, n2, by omega, by go_num, rfl, HN2.out, by omega⟩
          case measure => simp [intOf]; omega
    · obtain rfl : k = M.length := by omega
      go_wp2_with fail
      go_ret
      exact ⟨ret_int (by rw [HN.out]; unfold flags; rw [HF.out]), rfl⟩

/-- All set, or none. -/
def allM (T : List (List Int)) (x : Bool) : List (List Bool) := T.map fun r => List.replicate r.length x
theorem allM_len (T : List (List Int)) (x : Bool) : (allM T x).length = T.length := List.length_map _
theorem allM_row {T : List (List Int)} {x : Bool} {k : Nat} (hk : k < T.length) : (allM T x).getD k [] = List.replicate (T.getD k []).length x := by
  simp [allM, List.getD_eq_getElem?_getD, List.getElem?_eq_getElem hk]
theorem allM_take {T : List (List Int)} {x : Bool} {k : Nat} (hk : k < T.length) : (allM T x).take k ++ [List.replicate (T.getD k []).length x] = (allM T x).take (k + 1) := by
  rw [List.take_add_one, ← allM_row hk, List.getD_eq_getElem?_getD]
  rw [List.getElem?_eq_getElem (by rw [allM_len]; exact hk)]
  rfl

set_option maxHeartbeats 2000000 in
theorem allMaskI (ao : Option Addr) (b off cap : Nat) (T : List (List Int)) (x : Bool) (w : World) (hr : Tab .i64 w ao b off T) (hl : T.length ≤ 1000) (hl2 : ∀ i, i < T.length → (T.getD i []).length ≤ 1000) :
    Calls Tryd.prog 29 #[.slice ao T.length cap, .bool x] w fun e w' => ∃ v g, e = .returned v ∧ MtB w' w.heap.size v (allM T x) g ∧ Below w.heap.size w w' := by
  have HT := Lib.hid hr
  have HL2 := Lib.hid hl2
  clear hr hl2
  have HM1 := Lib.hid (MtG.lit (α := Bool) (enc := Value.bool) (RT := 47) (ET := 4) w w.heap.size (fun _ => 0) (Nat.le_refl _) rfl)
  have HF1 := Lib.hid ((Below.refl w.heap.size w).alloc (Nat.le_refl _) (.cells #[] 47))
  go_enter Tryd.func29, Tryd.ntmps29
  go_wp2_with fail
  go_loopw [5, 6] (fun s i wr => ∃ (k : Nat) (g : Nat → Nat), k ≤ T.length ∧ i = .int .i64 k ∧ MtB wr w.heap.size s ((allM T x).take k) g ∧ Below w.heap.size w wr) (fun _ i _ => T.length - (intOf i).toNat)
  case atStart => exact ⟨0, _, Nat.zero_le _, rfl, HM1.out, HF1.out⟩
  case round =>
    clear HM1 HF1
    obtain ⟨k, g, hk, rfl, hm, hf⟩ := hrel
    have HM := Lib.hid hm
    have HF := Lib.hid hf
    have hsw := hf.size
    have HTr := Lib.hid (HT.out.keep hf (Nat.le_refl _))
    have hML : Hid (((allM T x).take k).length = k) := Lib.hid (by rw [List.length_take, allM_len]; omega)
    clear hm hf
    by_cases hlt : k < T.length
    · obtain ⟨n, hn⟩ : ∃ n, (T.getD k []).length = n := ⟨_, rfl⟩
      obtain rfl := HT.out.1 (by omega)
      have hn5 := HL2.out k hlt
      have HTK := Lib.hid (allM_take (x := x) hlt)
      rw [hn] at hn5 HTK
      obtain ⟨MT, hMT⟩ : ∃ MT, (allM T x).take k = MT := ⟨_, rfl⟩
      rw [hMT] at HM hML HTK
      have HG := Lib.hid (fun i (hi : i < MT.length) => HM.out.lt hi)
      obtain ⟨B1, hB1⟩ : ∃ B1, wr.heap.size = B1 := ⟨_, rfl⟩
      have HO1 := Lib.hid (own_lit (base := wr.heap.size) wr (Nat.le_refl _) rfl)
      have HBa := Lib.hid ((Below.refl wr.heap.size wr).alloc (Nat.le_refl _) (.cells #[] 4))
      have HN := Lib.hid hn
      have hwB : w.heap.size ≤ B1 := by omega
      rw [hB1] at HG HO1
      have HB1 := Lib.hid hB1
      clear hn hB1 hMT
      go_wp2_with fail
      go_loopw [7, 8] (fun s i wj => ∃ (j : Nat) (gb c : Nat), j ≤ n ∧ i = .int .i64 j ∧ s = .slice (some ⟨gb, 0, none⟩) j c ∧ wj.ownsRow B1 4 1 (.slice (some ⟨gb, 0, none⟩) j c) (List.replicate j x).length ((List.replicate j x).map Value.bool) ∧ Below wr.heap.size wr wj) (fun _ i _ => n - (intOf i).toNat)
      case atStart => exact ⟨0, _, 0, Nat.zero_le _, rfl, by rw [HB1.out], HO1.out, HBa.out⟩
      case round =>
        clear HO1 HBa HTr
        obtain ⟨j, gb, c, hj, rfl, rfl, hown, hf2⟩ := hrel
        have HOWN := Lib.hid hown
        have HFI := Lib.hid hf2
        have HFO := Lib.hid (HF.out.trans (hf2.mono (by omega)))
        have hB : B1 ≤ wr.heap.size := by rw [← HB1.out]; exact hf2.size
        have hT2 := HT.out.keep HFO.out (Nat.le_refl _)
        have hTr := hT2.2 k hlt
        rw [HN.out] at hTr
        obtain ⟨a', b', o', c', hcell, -, -, -⟩ := hTr
        have hrl : Hid ((List.replicate j x).length = j) := Lib.hid List.length_replicate
        clear hown hf2 hT2
        by_cases hjn : j < n
        · have hj9 : Hid ((List.replicate j x).length ≤ 1000000000) := Lib.hid (by rw [hrl.out]; omega)
          go_wp2_with (at_builtin; refine wpList_app eltB rfl (.tmp 26) (.tmp 28) rfl B1 _ _ _ rfl HOWN.out [.bool x] rfl (by intro u hu; simp at hu; subst hu; rfl) rfl rfl hj9.out hB ?_)
          intro v' w4 ho4 hb4 hg4
          obtain ⟨ao4, b4, cap4, hv4, -, -, h34, -⟩ := orow_cells ho4
          obtain ⟨rfl, -, -⟩ := h34 (by omega)
          subst hv4
          have HO4 := Lib.hid ho4
          have HF4 := Lib.hid (HFI.out.trans (hb4.mono (by rw [HB1.out]; exact Nat.le_refl _)))
          clear ho4 hb4 hg4 h34
          go_wp2_with fail
          go_roundw
          case rel => exact ⟨j + 1, b4, cap4, by omega, by go_num, rfl, by rw [List.length_replicate, List.map_replicate, List.replicate_succ']; exact HO4.out, HF4.out⟩
          case measure => simp [intOf]; omega
        · obtain rfl : j = n := by omega
          have HMx := Lib.hid (HM.out.below HFI.out)
          obtain ⟨f, hrow, hfr, -, hc1, hc2, hbg⟩ := own_rowIs HOWN.out
          obtain ⟨cs, hown, hcs⟩ := HMx.out.top
          have HO := Lib.hid hown
          have hwx : w.heap.size ≤ wr.heap.size := HFO.out.size
          have HSN := Lib.hid (fun (v' : Value) (w2 : World) => HMx.out.snoc (v' := v') (w2 := w2) (by decide) hown hcs (r := List.replicate j x) (c := c) (fun i hi => by have := HG.out i hi; omega) (by omega) hrow hfr hc1 hc2)
          rw [hrl.out, HTK.out] at HSN
          have hm4 : Hid (MT.length ≤ 1000000000) := Lib.hid (by rw [hML.out]; omega)
          clear hown hcs hrow hfr hc1
          go_wp2_with (at_builtin; refine wpList_app eltRB rfl (.tmp 30) (.tmp 32) rfl w.heap.size _ _ _ rfl HO.out [_] rfl (by intro u hu; simp at hu; subst hu; rfl) rfl rfl hm4.out hwx ?_)
          intro v' w4 ho4 hb4 hg4
          have HM4 := Lib.hid (HSN.out v' w4 ho4 hg4)
          have HF4 := Lib.hid (HFO.out.trans hb4)
          clear ho4 hb4 hg4
          go_wp2_with fail
          go_roundw
          case rel => exact ⟨k + 1, _, by omega, by go_num, HM4.out, HF4.out⟩
          case measure => simp [intOf]; omega
    · obtain rfl : k = T.length := by omega
      have hmf := HM.out
      rw [List.take_of_length_le (by rw [allM_len]; exact Nat.le_refl _)] at hmf
      have HMF := Lib.hid hmf
      clear hmf
      go_wp2_with fail
      go_ret
      exact ⟨_, _, rfl, HMF.out, HF.out⟩
end Go.Proofs.YtgnmfbgoacfjeaaDoor
