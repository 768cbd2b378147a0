/-
  Contracts: spec.l41Rows, spec.TableFrom.
-/
import Derived.Test.YthncpnopplhlkaaDoorCutS
import Derived.Test.YthncpnopplhlkaaDoorTfI
namespace Go.Proofs.YthncpnopplhlkaaDoor
open Go.RowKit
open Go.ParseMath (cutL numS rowsS tfB ttL)
open Go.TextMath (tvB text)

def nvals (xs : List ByteArray) : List Int := xs.map fun x => numS x.data.toList
theorem nvals_len (xs : List ByteArray) : (nvals xs).length = xs.length := by simp [nvals]
theorem nvals_take (xs : List ByteArray) {k : Nat} (h : k < xs.length) : nvals (xs.take (k + 1)) = nvals (xs.take k) ++ [numS (xs.getD k ⟨#[]⟩).data.toList] := by
  rw [take_one (d := ⟨#[]⟩) h]; simp [nvals]
/-- The rows of some lines. -/
def rvals (xs : List ByteArray) : List (List Int) := xs.map fun x => nvals (cutB 32 x)
theorem rvals_len (xs : List ByteArray) : (rvals xs).length = xs.length := by simp [rvals]
theorem rvals_take (xs : List ByteArray) {k : Nat} (h : k < xs.length) : rvals (xs.take (k + 1)) = rvals (xs.take k) ++ [nvals (cutB 32 (xs.getD k ⟨#[]⟩))] := by
  rw [take_one (d := ⟨#[]⟩) h]; simp [rvals]
theorem rvals_of (s : ByteArray) : rvals ((cutB 10 s).take ((cutB 10 s).length - 1)) = rowsS s.data.toList := by
  rw [← List.dropLast_eq_take]
  unfold rvals rowsS cutB nvals
  rw [← List.map_dropLast, List.map_map]
  refine List.map_congr_left fun l _ => ?_
  show List.map _ (List.map _ (cutL 32 l)) = _
  rw [List.map_map]
  rfl

theorem cutB_pos (c : UInt8) (s : ByteArray) : 0 < (cutB c s).length := by
  unfold cutB
  rw [List.length_map]
  exact List.length_pos_iff.2 (Go.ParseMath.cutL_ne c _)
theorem getD_mem {α : Type} {l : List α} {k : Nat} {d : α} (h : k < l.length) : l.getD k d ∈ l := by
  rw [List.getD_eq_getElem?_getD, List.getElem?_eq_getElem h]
  exact List.getElem_mem h

set_option maxHeartbeats 2000000 in
theorem rowsS_any (s : ByteArray) (hs : s.size ≤ 100000000) (w : World) :
    Calls Tryd.prog 42 #[.string s] w fun e w' => ∃ v g, e = .returned v ∧ MtI w' w.heap.size v (rowsS s.data.toList) g ∧ Below w.heap.size w w' := by
  go_enter Tryd.func42, Tryd.ntmps42
  go_wp2_with fail
  refine (cutS s hs 10 w).mono ?_
  rintro e w1 ⟨v1, rfl, ho1, hb1⟩
  have HO1 := Lib.hid ho1
  have HB1 := Lib.hid hb1
  have hp := cutB_pos 10 s
  have hll := cutB_len 10 s
  have HMEM := Lib.hid (fun i (hi : i < (cutB 10 s).length) => cutB_size (getD_mem (d := ⟨#[]⟩) hi))
  have HRV := Lib.hid (rvals_of s)
  obtain ⟨al, bl, cl, rfl, hc1, hc2, hrow⟩ := ho1.row
  have HROW := Lib.hid hrow
  obtain ⟨ls, hls⟩ : ∃ ls, cutB 10 s = ls := ⟨_, rfl⟩
  rw [hls] at HO1 hp hll HMEM HRV hc1 HROW ⊢
  have hsz1 := hb1.size
  clear ho1 hb1 hrow hls
  obtain rfl := HROW.out.1 hp
  go_wp2_with fail
  go_loopw [4, 5] (fun v i wr => ∃ (k : Nat) (g : Nat → Nat), i = .int .i64 k ∧ k < ls.length ∧ MtI wr w1.heap.size v (rvals (ls.take k)) g ∧ Below w1.heap.size w1 wr ∧ w1.heap.size ≤ wr.heap.size) (fun _ i _ => ls.length - (intOf i).toNat)
  case atStart => exact ⟨0, fun _ => 0, rfl, hp, MtG.lit _ _ _ (Nat.le_refl _) rfl, (Below.refl _ _).alloc (Nat.le_refl _) _, by simp⟩
  case round =>
    obtain ⟨k, g, rfl, hk, hm, hb, hsz⟩ := hrel
    have HM := Lib.hid hm
    have HB := Lib.hid hb
    have HL : Hid ((rvals (ls.take k)).length = k) := Lib.hid (by rw [rvals_len, List.length_take]; omega)
    clear hm hb
    by_cases hlt : k + 1 < ls.length
    · have hcell := (HROW.out.keep HB.out (Nat.le_refl _)).2 k (by omega)
      rw [Nat.zero_add] at hcell
      have hxs := HMEM.out k (by omega)
      obtain ⟨x, hx⟩ : ∃ x, ls.getD k ⟨#[]⟩ = x := ⟨_, rfl⟩
      rw [hx] at hcell hxs
      have HX := Lib.hid hx
      have hkl : k < ls.length := by omega
      have hki : (k : Int) < (ls.length : Int) := by omega
      have hk1 : (k : Int) + 1 < (ls.length : Int) := by omega
      clear hx
      go_wp2_with fail
      refine (cutS x (by omega) 32 wr).mono ?_
      rintro e w2 ⟨v2, rfl, ho2, hb2⟩
      have HO2 := Lib.hid ho2
      have HB2 := Lib.hid hb2
      have hwl := cutB_len 32 x
      have HWM := Lib.hid (fun i (hi : i < (cutB 32 x).length) => cutB_size (getD_mem (d := ⟨#[]⟩) hi))
      have HNV := Lib.hid (rfl : nvals (cutB 32 x) = nvals (cutB 32 x))
      obtain ⟨aw, bw, cw, rfl, hw1, hw2, hwrow⟩ := ho2.row
      have HWR := Lib.hid hwrow
      have hwp := cutB_pos 32 x
      obtain ⟨ws, hws⟩ : ∃ ws, cutB 32 x = ws := ⟨_, rfl⟩
      rw [hws] at HO2 hwl HWM HNV HWR hw1 hwp ⊢
      have HWS := Lib.hid hws
      have hsz2 := hb2.size
      obtain rfl := HWR.out.1 hwp
      clear ho2 hb2 hwrow hws hcell
      go_wp2_with fail
      go_loopw [7, 8] (fun r j wq => ∃ q : Nat, j = .int .i64 q ∧ q ≤ ws.length ∧ Own wq w2.heap.size r (nvals (ws.take q)) ∧ Below w2.heap.size w2 wq) (fun _ j _ => ws.length - (intOf j).toNat)
      case atStart => exact ⟨0, rfl, Nat.zero_le _, Own.lit (w := w2) (base := w2.heap.size) [] (Nat.le_refl _) (by simp), (Below.refl _ _).alloc (Nat.le_refl _) _⟩
      case round =>
        obtain ⟨q, rfl, hq, hown, hbq⟩ := hrel
        have HOWN := Lib.hid hown
        have HBQ := Lib.hid hbq
        have hszq := hbq.size
        have HQL : Hid ((nvals (ws.take q)).length = q) := Lib.hid (by rw [nvals_len, List.length_take]; omega)
        clear hown hbq
        by_cases hqt : q < ws.length
        · have hcell := (HWR.out.keep HBQ.out (Nat.le_refl _)).2 q hqt
          rw [Nat.zero_add] at hcell
          have hys := HWM.out q hqt
          have HNT := Lib.hid (nvals_take ws hqt)
          obtain ⟨y, hy⟩ : ∃ y, ws.getD q ⟨#[]⟩ = y := ⟨_, rfl⟩
          rw [hy] at hcell hys HNT
          have hqi : (q : Int) < (ws.length : Int) := by omega
          clear hy
          go_wp2_with fail
          refine (numS_any y (by omega) wr).mono ?_
          rintro e w3 ⟨rfl, rfl⟩
          obtain ⟨n, hn⟩ : ∃ n, numS y.data.toList = n := ⟨_, rfl⟩
          rw [hn] at HNT ⊢
          clear hn
          go_wp2_with (at_builtin; refine wpList_app1 rfl (.tmp 31) (.tmp 37) rfl w2.heap.size _ _ rfl HOWN.out n rfl rfl ?c1 hszq ?_)
          case c1 => rw [HQL.out]; omega
          intro v3 w3 ho3 hb3 _
          have HO3 := Lib.hid ho3
          have HB3 := Lib.hid (HBQ.out.trans hb3)
          clear ho3 hb3
          go_wp2_with fail
          go_roundw
          case rel => exact ⟨q + 1, by go_num, by omega, by rw [HNT.out]; exact HO3.out, HB3.out⟩
          case measure => simp [intOf]; omega
        · obtain rfl : q = ws.length := by omega
          have hown := HOWN.out
          rw [List.take_of_length_le (Nat.le_refl _)] at hown
          obtain ⟨g0, c0, f0, rfl, hg0, hri, hrf, hrc, hrc2⟩ := own_block hown (by rw [nvals_len]; omega)
          have hm3 := (HM.out.below HB2.out).below (HBQ.out.mono (by omega) |> fun h => (show Below w2.heap.size w2 _ from HBQ.out))
          obtain ⟨cs, htop, hcs⟩ := hm3.top
          have HTOP := Lib.hid htop
          have HGL := Lib.hid (fun i hi => HM.out.lt (i := i) hi)
          have HSN := Lib.hid (fun (v' : Value) (w9 : World) => hm3.snoc (v' := v') (w2 := w9) (by decide) htop hcs (r := nvals ws) (g0 := g0) (c := c0) (f := f0) (fun i hi => by have := HGL.out i hi; omega) (by omega) hri hrf hrc hrc2)
          have HNR := Lib.hid (show rvals (ls.take (k + 1)) = rvals (ls.take k) ++ [nvals ws] by rw [rvals_take ls hkl, HX.out, HWS.out])
          obtain ⟨nr, hnr⟩ : ∃ nr, (nvals ws).length = nr := ⟨_, rfl⟩
          rw [hnr] at HSN ⊢
          clear hown hri hrf hrc hrc2 htop hcs hm3 hnr HOWN HQL
          go_wp2_with (at_builtin; refine wpList_appH eltR rfl (.tmp 39) (.tmp 41) rfl w1.heap.size _ _ _ rfl HTOP.out [.slice (some ⟨g0, 0, none⟩) nr c0] rfl (by intro u hu; simp at hu; subst hu; rfl) rfl wr.heap.size (by simp) rfl ?c2 (by omega) ?_)
          case c2 => rw [HL.out]; omega
          intro v' w9 ho9 hb9 hg9
          have HM9 := Lib.hid (HSN.out v' w9 ho9 hg9)
          have HB9 := Lib.hid ((HB.out.trans (HB2.out.mono hsz)).trans ((HBQ.out.mono (by omega)).trans hb9))
          clear ho9 hb9 hg9 HSN
          go_wp2_with fail
          go_roundw
          case rel => exact ⟨k + 1, _, by go_num, hlt, by rw [HNR.out]; exact HM9.out, HB9.out, HB9.out.size⟩
          case measure => simp [intOf]; omega
    · obtain rfl : k = ls.length - 1 := by omega
      have hk1 : ((ls.length - 1 : Nat) : Int) + 1 = (ls.length : Int) := by omega
      have HM2 := Lib.hid (show MtI wr w.heap.size u4 (rowsS s.data.toList) g by rw [← HRV.out]; exact HM.out.mono hsz1)
      go_wp2_with fail
      go_ret
      exact ⟨u4, g, rfl, HM2.out, HB1.out.trans (HB.out.mono hsz1)⟩

theorem tf_f {l : List UInt8} (h : tfB l = false) : tfT l = [] := by unfold tfT; rw [h]; rfl
theorem tf_tt {l : List UInt8} (h : tfB l = true) : tfT l = rowsS l := by unfold tfT; rw [h]; rfl

set_option maxHeartbeats 1000000 in
theorem tfS (s : ByteArray) (hs : s.size ≤ 100000000) (w : World) :
    Calls Tryd.prog 19 #[.string s] w (TfP s.data.toList w) := by
  go_enter Tryd.func19, Tryd.ntmps19
  go_wp2_with fail
  refine (rowsS_any s hs w).mono ?_
  rintro e w1 ⟨v, g, rfl, hm, hb⟩
  have HM := Lib.hid hm
  have HB := Lib.hid hb
  obtain ⟨ao, bo, cap, rfl, hc1, hc2, htab⟩ := hm.tab
  have HTAB := Lib.hid htab
  have hsz := hb.size
  obtain ⟨T, hT⟩ : ∃ T, rowsS s.data.toList = T := ⟨_, rfl⟩
  rw [hT] at HM hc1 HTAB ⊢
  have HT := Lib.hid hT
  clear hm hb htab hT
  by_cases hempty : s.data.toList = []
  · have HF := Lib.hid (show tfB s.data.toList = false by unfold tfB; rw [decide_eq_false (fun h => h hempty)]; rfl)
    have he1 : s.toList = [] := by rw [Lib.toList_data]; exact hempty
    have he2 : s.toList.isEmpty = true := by rw [he1]; rfl
    clear hempty
    go_wp2_with fail
    go_ret2
    refine ⟨_, fun _ => 0, by rw [HF.out]; rfl, by rw [tf_f HF.out]; exact MtG.lit _ _ _ hsz rfl, HB.out.alloc hsz _⟩
  · have he2 : s.toList.isEmpty = false := by rw [Lib.toList_data]; cases h : s.data.toList with
      | nil => exact absurd h hempty
      | cons a r => rfl
    have HNE := Lib.hid hempty
    clear hempty
    go_wp2_with fail
    refine (tableTextS ao bo 0 cap T w1 HTAB.out (by omega)).mono ?_
    rintro e w2 ⟨rfl, hb2⟩
    have HB2 := Lib.hid hb2
    have hsz2 := hb2.size
    clear hb2
    by_cases heq : ttL T = s.data.toList
    · have HF := Lib.hid (show tfB s.data.toList = true by unfold tfB; rw [HT.out, decide_eq_true heq, decide_eq_true HNE.out]; rfl)
      have hts : tt T = s := tt_of heq
      rw [hts]
      clear heq hts
      go_wp2_with fail
      go_ret2
      exact ⟨_, g, by rw [HF.out]; rfl, by rw [tf_tt HF.out, HT.out]; exact HM.out.below HB2.out, HB.out.trans (HB2.out.mono hsz)⟩
    · have HF := Lib.hid (show tfB s.data.toList = false by unfold tfB; rw [HT.out, decide_eq_false heq]; simp)
      have hts : tt T ≠ s := tt_not heq
      obtain ⟨S, hS⟩ : ∃ S, tt T = S := ⟨_, rfl⟩
      rw [hS] at hts ⊢
      have hq := str_ne hts
      clear heq hS hts
      go_wp2_with fail
      go_ret2
      exact ⟨_, fun _ => 0, by rw [HF.out]; rfl, by rw [tf_f HF.out]; exact MtG.lit _ _ _ (by omega) rfl, (HB.out.trans (HB2.out.mono hsz)).alloc (by omega) _⟩
end Go.Proofs.YthncpnopplhlkaaDoor
