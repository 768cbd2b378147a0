/-
  The walk of laws.FnExecuteEmpty.
-/
import Derived.Test.YtlmlchkolcmhpaaGreatDoorYLawXW
import Derived.OrdersHeld
import Derived.Deep.RegionHeld
import Derived.IntWalk
namespace Go.Proofs.YtlmlchkolcmhpaaGreatDoor
open Go.RowKit
open Go.TextMath (tvB mvB text word)
open Go.ParseMath

theorem runLawXY {L : List Per} (_ : pplB L = true) : (runM L ([[114, 111, 117, 110, 100, 32, 49], [122, 122]].map (cutL 32))) = (L, [110, 111, 10, 119, 104, 97, 116, 10]) := by
  show runM L ([cutL 32 [114, 111, 117, 110, 100, 32, 49]] ++ [cutL 32 [122, 122]]) = _
  have h1 : stepM L (cutL 32 [114, 111, 117, 110, 100, 32, 49]) = (L, sNo) := by
    rw [step_7 (by decide)]
    have hb : baseB ((numsM (cutL 32 [114, 111, 117, 110, 100, 32, 49])).getD 0 0) = false := by decide
    unfold roundM
    rw [hb]
    rfl
  rw [runM_snoc, runM_one, h1, st_0 (by decide)]
  rfl

theorem lines_le (l : List UInt8) : (linesM l).length ≤ (compM l).length := by
  have key : ∀ ls : List (List UInt8), ls.length ≤ (scriptOf ls).length := by
    intro ls
    induction ls with
    | nil => simp [scriptOf]
    | cons a r ih =>
      have h : scriptOf (a :: r) = (a ++ [10]) ++ scriptOf r := rfl
      rw [h]
      simp only [List.length_append, List.length_cons, List.length_nil]
      omega
  unfold linesM compM
  rw [List.length_map]
  exact key _
theorem moreLawXY {l : List UInt8} (h5 : (compM l ++ [114, 111, 117, 110, 100, 32, 49, 10, 122, 122, 10]).length ≤ 500) : execM (compM l ++ [114, 111, 117, 110, 100, 32, 49, 10, 122, 122, 10]) = (runM [] (linesM l)).2 ++ [110, 111, 10, 119, 104, 97, 116, 10] ++ peopleL (runM [] (linesM l)).1 := by
  have h := exec_more (l := l) (ts := [[114, 111, 117, 110, 100, 32, 49], [122, 122]]) (by decide) h5
  rw [show scriptOf [[114, 111, 117, 110, 100, 32, 49], [122, 122]] = [114, 111, 117, 110, 100, 32, 49, 10, 122, 122, 10] from rfl] at h
  rw [h, runLawXY (runM_ok pplB_nil _)]

set_option maxRecDepth 100000 in
set_option maxHeartbeats 4000000 in
theorem executeEmpty (a0 : Option Addr) (b0 o0 cap0 : Nat) (xs0 : List Int) (w : World) (hr0 : Row .u8 w a0 b0 o0 xs0) (hl0 : xs0.length ≤ cap0 ∧ cap0 ≤ 9223372036854775807) (hw0 : ∀ i, i < xs0.length → (Lit.int .u8 (xs0.getD i 0)).wf = true) (ht : LibM w) :
    Calls Tryz.prog 9 #[.slice a0 xs0.length cap0] w fun e w' => e = .returned (.bool true) ∧ Below w.heap.size w w' := by
  have HP := Lib.hid ht
  have HD := Lib.hid (drawExD a0 b0 o0 cap0 xs0 w hr0 hl0 hw0)
  clear hr0 hw0 ht
  by_cases hbig : 1048576 < xs0.length
  · go_enter Tryz.func9, Tryz.ntmps9
    go_wp2_with fail
    go_ret
    exact ⟨rfl, Below.refl _ _⟩
  · have hs0 : xs0.length ≤ 1048576 := by omega
    clear hbig
    go_enter Tryz.func9, Tryz.ntmps9
    go_wp2_with fail
    refine (HD.out).mono ?_
    rintro e w1 ⟨S, rfl, hS, hb1⟩
    have HB1 := Lib.hid hb1
    have HP1 := Lib.hid (HP.out.keep hb1 (Nat.le_refl _))
    clear hb1
    obtain ⟨X, hX, hsp, him⟩ := both S (by omega)
    have HSP := Lib.hid hsp
    have HIM := Lib.hid him
    clear hX hsp him
    go_wp2_with fail
    refine (HIM.out w1 HP1.out).mono ?_
    rintro e w2 ⟨rfl, hb2⟩
    have HB2 := Lib.hid (HB1.out.trans (hb2.mono HB1.out.size))
    clear hb2
    go_wp2_with fail
    refine (HSP.out w2).mono ?_
    rintro e w3 ⟨rfl, hb3⟩
    have HB3 := Lib.hid (HB2.out.trans (hb3.mono HB2.out.size))
    have HP3 := Lib.hid (HP.out.keep HB3.out (Nat.le_refl _))
    clear hb3
    have hcl := comp_le S.data.toList
    have hSl : S.data.toList.length = S.size := Array.length_toList
    have HCO := Lib.hid (completeD S (by omega) w3)
    obtain ⟨C, hC⟩ : ∃ C, bs (compM S.data.toList) = C := ⟨_, rfl⟩
    have hCl : C.data.toList = compM S.data.toList := by rw [← hC]; rfl
    have hCz : C.size = (compM S.data.toList).length := by rw [← hC, bs_size]
    rw [hC] at HCO
    by_cases hbig2 : 488 < C.size
    · have hci : (488 : Int) < (C.size : Int) := by omega
      clear hC hCl
      go_wp2_with fail
      refine (HCO.out).mono ?_
      rintro e w4 ⟨rfl, rfl⟩
      go_wp2_with fail
      go_ret
      exact ⟨rfl, HB3.out⟩
    · have hci : (C.size : Int) ≤ 488 := by omega
      obtain ⟨A, hA, -, hia⟩ := both C (by omega)
      have hlen2 : (C ++ ⟨#[114, 111, 117, 110, 100, 32, 49, 10, 122, 122, 10]⟩).size = C.size + 11 := by rw [ByteArray.size_append]; rfl
      obtain ⟨B, hBd, -, hib⟩ := both (C ++ ⟨#[114, 111, 117, 110, 100, 32, 49, 10, 122, 122, 10]⟩) (by omega)
      obtain ⟨o, ho⟩ : ∃ o, (runM [] (linesM S.data.toList)).2 = o := ⟨_, rfl⟩
      obtain ⟨L, hL⟩ : ∃ L, (runM [] (linesM S.data.toList)).1 = L := ⟨_, rfl⟩
      have hoE : EndB o := by rw [← ho]; exact run_end _ _
      have hA2 : A.data.toList = o ++ (sPeople ++ word (L.length : Int)) ++ [10] := by
        rw [hA, hCl, exec_comp (by omega), ho, hL]
        unfold peopleL
        simp only [List.append_assoc]
      have hap : (C ++ ⟨#[114, 111, 117, 110, 100, 32, 49, 10, 122, 122, 10]⟩).data.toList = compM S.data.toList ++ [114, 111, 117, 110, 100, 32, 49, 10, 122, 122, 10] := by
        rw [← hCl]
        show ((C ++ ⟨#[114, 111, 117, 110, 100, 32, 49, 10, 122, 122, 10]⟩ : ByteArray)).data.toList = _
        rw [ByteArray.data_append, Array.toList_append]
      have hB2 : B.data.toList = o ++ [110, 111, 10, 119, 104, 97, 116, 10] ++ ((sPeople ++ word (L.length : Int)) ++ [10]) := by
        rw [hBd, hap, moreLawXY (by rw [← hap, Array.length_toList]; show (C ++ ⟨#[114, 111, 117, 110, 100, 32, 49, 10, 122, 122, 10]⟩).size ≤ 500; omega), ho, hL]
        rfl
      have hLl : L.length ≤ 40 := by rw [← hL]; exact (ppl_t.1 (runM_ok pplB_nil _)).1
      have hws := Go.TextMath.word_short (n := (L.length : Int)) (by omega) (by omega)
      have hos : o.length ≤ 100000 := by
        rw [← ho]
        have h1 := run_short pplB_nil (linesM S.data.toList)
        have h2 := lines_le S.data.toList
        omega
      have hPz : (bs ((sPeople ++ word (L.length : Int)) ++ [10])).size ≤ 20 := by
        rw [bs_size]
        simp only [List.length_append, List.length_cons, List.length_nil, sPeople]
        omega
      have hAz : A.size = o.length + (bs ((sPeople ++ word (L.length : Int)) ++ [10])).size := by
        rw [bs_size, show A.size = A.data.toList.length from (Array.length_toList).symm, hA2]
        simp only [List.length_append]
        omega
      have HLA := Lib.hid (fun W => lastD A (by omega) o (sPeople ++ word (L.length : Int)) hA2 (people_no L) hoE W)
      obtain ⟨P, hP⟩ : ∃ P, bs ((sPeople ++ word (L.length : Int)) ++ [10]) = P := ⟨_, rfl⟩
      obtain ⟨n, hn⟩ : ∃ n, o.length = n := ⟨_, rfl⟩
      have hB3 : B = A.extract 0 n ++ ⟨#[110, 111, 10, 119, 104, 97, 116, 10]⟩ ++ P := bytes_ext (by
        have ht : List.take o.length (o ++ (sPeople ++ word (L.length : Int)) ++ [10]) = o := by rw [List.append_assoc, List.take_left]
        rw [hB2, ← hP, ← hn, ByteArray.data_append, Array.toList_append, ByteArray.data_append, Array.toList_append, ex_list, hA2, List.drop_zero, ht]
        rfl)
      rw [hP] at HLA hPz hAz
      rw [hn] at hAz hos
      rw [hB3] at hib
      have HIA := Lib.hid hia
      have HIB := Lib.hid hib
      have hw1 : IntKind.i64.wrap ((A.size : Int) - (P.size : Int)) = (n : Int) := by
        rw [show (A.size : Int) - (P.size : Int) = (n : Int) by omega]
        exact IntWalk.i64_in _ ⟨by omega, by omega⟩
      have hna : (n : Int) ≤ (A.size : Int) := by omega
      have hnn : n ≤ A.size := by omega
      have hz1 : (A.extract 0 n).size = n := by rw [ByteArray.size_extract]; omega
      have hz2 : (A.extract 0 n ++ ⟨#[110, 111, 10, 119, 104, 97, 116, 10]⟩).size = n + 8 := by rw [ByteArray.size_append, hz1]; rfl
      have hz3 : (A.extract 0 n ++ ⟨#[110, 111, 10, 119, 104, 97, 116, 10]⟩ ++ P).size = n + 8 + P.size := by rw [ByteArray.size_append, hz2]
      clear hC hCl hia hib hA hBd ho hL hoE hA2 hap hB2 hLl hws hP hn hB3 hcl hSl hCz
      go_wp2_with fail
      refine (HCO.out).mono ?_
      rintro e w4 ⟨rfl, rfl⟩
      go_wp2_with fail
      refine (HIA.out w3 HP3.out).mono ?_
      rintro e w5 ⟨rfl, hb5⟩
      have HB5 := Lib.hid (HB3.out.trans (hb5.mono HB3.out.size))
      clear hb5
      go_wp2_with fail
      refine wp_region_held (S := (fun _ => True)) (by kernel_rfl) ?_
      change wpAnyH _ _ _ _ _ _ _ _ w5.drew
      have hd := (Below.refl w5.heap.size w5).drew
      obtain ⟨Wd, hWd⟩ : ∃ Wd, w5.drew = Wd := ⟨_, rfl⟩
      rw [hWd] at hd ⊢
      have HD := Lib.hid (HB5.out.trans (hd.mono HB5.out.size))
      have HPD := Lib.hid (HP.out.keep HD.out (Nat.le_refl _))
      clear hWd hd
      refine wpAnyH_take (i := 0) (oi := ⟨some 27, _, _, _, _, _⟩) (v := .string C) rfl (by kernel_rfl) (by kernel_rfl) (by kernel_rfl) (fun _ _ _ h => h) (Or.inl ⟨by kernel_rfl, fun V hV => ?_⟩) trivial ?_
      · clear hV
        go_simp
        all_goals first | omega | exact IntWalk.i64_in _ ⟨by omega, by omega⟩ | (simp; omega)
      simp only [Act.put, List.setIfInBounds_toArray, List.set_cons_zero, List.set_cons_succ]
      refine wpAnyH_take (i := 1) (oi := ⟨some 28, _, _, _, _, _⟩) (v := .string (C ++ ⟨#[114, 111, 117, 110, 100, 32, 49, 10, 122, 122, 10]⟩)) rfl (by kernel_rfl) (by kernel_rfl) (by kernel_rfl) (fun _ _ _ h => h) (Or.inl ⟨by kernel_rfl, fun V hV => ?_⟩) trivial ?_
      · clear hV
        go_simp
        all_goals first | omega | exact IntWalk.i64_in _ ⟨by omega, by omega⟩ | (simp; omega)
      simp only [Act.put, List.setIfInBounds_toArray, List.set_cons_zero, List.set_cons_succ]
      refine wpAnyH_take (i := 3) (oi := ⟨some 30, _, _, _, _, _⟩) (v := .string A) rfl (by kernel_rfl) (by kernel_rfl) (by kernel_rfl) (fun _ _ _ h => h) (Or.inl ⟨by kernel_rfl, fun V hV => ?_⟩) trivial ?_
      · clear hV
        go_simp
        all_goals first | omega | exact IntWalk.i64_in _ ⟨by omega, by omega⟩ | (simp; omega)
      simp only [Act.put, List.setIfInBounds_toArray, List.set_cons_zero, List.set_cons_succ]
      refine wpAnyH_take (i := 4) (oi := ⟨some 31, _, _, _, _, _⟩) (v := .string A) rfl (by kernel_rfl) (by kernel_rfl) (by kernel_rfl) (fun _ _ _ h => h) (Or.inl ⟨by kernel_rfl, fun V hV => ?_⟩) trivial ?_
      · clear hV
        go_simp
        all_goals first | omega | exact IntWalk.i64_in _ ⟨by omega, by omega⟩ | (simp; omega)
      simp only [Act.put, List.setIfInBounds_toArray, List.set_cons_zero, List.set_cons_succ]
      refine wpAnyH_take (i := 5) (oi := ⟨some 32, _, _, _, _, _⟩) (v := .int .i64 (A.size : Int)) rfl (by kernel_rfl) (by kernel_rfl) (by kernel_rfl) (fun _ _ _ h => h) (Or.inl ⟨by kernel_rfl, fun V hV => ?_⟩) trivial ?_
      · clear hV
        go_simp
        all_goals first | omega | exact IntWalk.i64_in _ ⟨by omega, by omega⟩ | (simp; omega)
      simp only [Act.put, List.setIfInBounds_toArray, List.set_cons_zero, List.set_cons_succ]
      refine wpAnyH_take (i := 6) (oi := ⟨some 33, _, _, _, _, _⟩) (v := .string A) rfl (by kernel_rfl) (by kernel_rfl) (by kernel_rfl) (fun _ _ _ h => h) (Or.inl ⟨by kernel_rfl, fun V hV => ?_⟩) trivial ?_
      · clear hV
        go_simp
        all_goals first | omega | exact IntWalk.i64_in _ ⟨by omega, by omega⟩ | (simp; omega)
      simp only [Act.put, List.setIfInBounds_toArray, List.set_cons_zero, List.set_cons_succ]
      refine wpAnyH_take (i := 12) (oi := ⟨some 39, _, _, _, _, _⟩) (v := .string A) rfl (by kernel_rfl) (by kernel_rfl) (by kernel_rfl) (fun _ _ _ h => h) (Or.inl ⟨by kernel_rfl, fun V hV => ?_⟩) trivial ?_
      · clear hV
        go_simp
        all_goals first | omega | exact IntWalk.i64_in _ ⟨by omega, by omega⟩ | (simp; omega)
      simp only [Act.put, List.setIfInBounds_toArray, List.set_cons_zero, List.set_cons_succ]
      refine wpAnyH_ready (rs := [2]) (by kernel_rfl) (by simp) ?_
      refine AllReadyH.cons (o := ⟨some 29, _, _, _, _, _⟩) rfl (fun K hK => ?_) AllReadyH.nil
      go_simp
      refine (HIB.out Wd HPD.out).mono ?_
      rintro e w6 ⟨rfl, hb6⟩
      have HB7 := Lib.hid (HD.out.trans (hb6.mono HD.out.size))
      clear hb6
      refine hK.out _ _ trivial (fun _ => ?_)
      try simp only [Act.put, List.setIfInBounds_toArray, List.set_cons_zero, List.set_cons_succ]
      clear hK K
      refine wpAnyH_ready (rs := [7]) (by kernel_rfl) (by simp) ?_
      refine AllReadyH.cons (o := ⟨some 34, _, _, _, _, _⟩) rfl (fun K hK => ?_) AllReadyH.nil
      go_simp
      refine (HLA.out w6).mono ?_
      rintro e w7 ⟨rfl, rfl⟩
      refine hK.out _ _ trivial (fun _ => ?_)
      try simp only [Act.put, List.setIfInBounds_toArray, List.set_cons_zero, List.set_cons_succ]
      clear hK K
      refine wpAnyH_take (i := 8) (oi := ⟨some 35, _, _, _, _, _⟩) (v := .int .i64 (P.size : Int)) rfl (by kernel_rfl) (by kernel_rfl) (by kernel_rfl) (fun _ _ _ h => h) (Or.inl ⟨by kernel_rfl, fun V hV => ?_⟩) trivial ?_
      · clear hV
        go_simp
        all_goals first | omega | exact IntWalk.i64_in _ ⟨by omega, by omega⟩ | (simp; omega)
      simp only [Act.put, List.setIfInBounds_toArray, List.set_cons_zero, List.set_cons_succ]
      refine wpAnyH_take (i := 9) (oi := ⟨some 36, _, _, _, _, _⟩) (v := .int .i64 (n : Int)) rfl (by kernel_rfl) (by kernel_rfl) (by kernel_rfl) (fun _ _ _ h => h) (Or.inl ⟨by kernel_rfl, fun V hV => ?_⟩) trivial ?_
      · clear hV
        go_simp
        all_goals first | omega | exact IntWalk.i64_in _ ⟨by omega, by omega⟩ | (simp; omega)
      simp only [Act.put, List.setIfInBounds_toArray, List.set_cons_zero, List.set_cons_succ]
      refine wpAnyH_take (i := 10) (oi := ⟨some 37, _, _, _, _, _⟩) (v := .string (A.extract 0 n)) rfl (by kernel_rfl) (by kernel_rfl) (by kernel_rfl) (fun _ _ _ h => h) (Or.inl ⟨by kernel_rfl, fun V hV => ?_⟩) trivial ?_
      · clear hV
        go_simp
        all_goals first | omega | exact IntWalk.i64_in _ ⟨by omega, by omega⟩ | (simp; omega)
      simp only [Act.put, List.setIfInBounds_toArray, List.set_cons_zero, List.set_cons_succ]
      refine wpAnyH_take (i := 11) (oi := ⟨some 38, _, _, _, _, _⟩) (v := .string (A.extract 0 n ++ ⟨#[110, 111, 10, 119, 104, 97, 116, 10]⟩)) rfl (by kernel_rfl) (by kernel_rfl) (by kernel_rfl) (fun _ _ _ h => h) (Or.inl ⟨by kernel_rfl, fun V hV => ?_⟩) trivial ?_
      · clear hV
        go_simp
        all_goals first | omega | exact IntWalk.i64_in _ ⟨by omega, by omega⟩ | (simp; omega)
      simp only [Act.put, List.setIfInBounds_toArray, List.set_cons_zero, List.set_cons_succ]
      refine wpAnyH_ready (rs := [13]) (by kernel_rfl) (by simp) ?_
      refine AllReadyH.cons (o := ⟨some 40, _, _, _, _, _⟩) rfl (fun K hK => ?_) AllReadyH.nil
      go_simp
      refine (HLA.out w6).mono ?_
      rintro e w7 ⟨rfl, rfl⟩
      refine hK.out _ _ trivial (fun _ => ?_)
      try simp only [Act.put, List.setIfInBounds_toArray, List.set_cons_zero, List.set_cons_succ]
      clear hK K
      refine wpAnyH_take (i := 14) (oi := ⟨some 41, _, _, _, _, _⟩) (v := .string (A.extract 0 n ++ ⟨#[110, 111, 10, 119, 104, 97, 116, 10]⟩ ++ P)) rfl (by kernel_rfl) (by kernel_rfl) (by kernel_rfl) (fun _ _ _ h => h) (Or.inl ⟨by kernel_rfl, fun V hV => ?_⟩) trivial ?_
      · clear hV
        go_simp
        all_goals first | omega | exact IntWalk.i64_in _ ⟨by omega, by omega⟩ | (simp; omega)
      simp only [Act.put, List.setIfInBounds_toArray, List.set_cons_zero, List.set_cons_succ]
      refine wpAnyH_take (i := 15) (oi := ⟨some 42, _, _, _, _, _⟩) (v := .bool true) rfl (by kernel_rfl) (by kernel_rfl) (by kernel_rfl) (fun _ _ _ h => h) (Or.inl ⟨by kernel_rfl, fun V hV => ?_⟩) trivial ?_
      · clear hV
        go_simp
        all_goals first | omega | exact IntWalk.i64_in _ ⟨by omega, by omega⟩ | (simp; omega)
      simp only [Act.put, List.setIfInBounds_toArray, List.set_cons_zero, List.set_cons_succ]
      refine wpAnyH_take (i := 16) (oi := ⟨some 2, _, _, _, _, _⟩) (v := .bool true) rfl (by kernel_rfl) (by kernel_rfl) (by kernel_rfl) (fun _ _ _ h => h) (Or.inl ⟨by kernel_rfl, fun V hV => ?_⟩) trivial ?_
      · clear hV
        go_simp
        all_goals first | omega | exact IntWalk.i64_in _ ⟨by omega, by omega⟩ | (simp; omega)
      simp only [Act.put, List.setIfInBounds_toArray, List.set_cons_zero, List.set_cons_succ]
      refine wpAnyH_done (by kernel_rfl) ?_ _
      go_wp2_with fail
      go_ret
      exact ⟨rfl, HB7.out⟩
end Go.Proofs.YtlmlchkolcmhpaaGreatDoor
