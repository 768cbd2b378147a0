/-
  The walk of laws.FnExecuteTwice.
-/
import Derived.Test.YtlmlchkolcmhpaaGreatDoorYLawXW
import Derived.OrdersHeld
import Derived.Deep.RegionHeld
import Derived.IntWalk
namespace Go.Proofs.YtlmlchkolcmhpaaGreatDoor
open Go.RowKit
open Go.TextMath (tvB mvB text word)
open Go.ParseMath

/-- The table's text. -/
def TT (L : List Per) : List UInt8 := text (tabO L) []
theorem run1V {L : List Per} : (runM L ([[116, 97, 98, 108, 101]].map (cutL 32))) = (L, TT L) := by
  show runM L [cutL 32 [116, 97, 98, 108, 101]] = _
  rw [runM_one, step_4 (by decide)]
  rfl
theorem run2V {L : List Per} : (runM L ([[116, 97, 98, 108, 101], [116, 97, 98, 108, 101]].map (cutL 32))) = (L, TT L ++ TT L) := by
  show runM L ([cutL 32 [116, 97, 98, 108, 101]] ++ [cutL 32 [116, 97, 98, 108, 101]]) = _
  rw [runM_snoc, runM_one, step_4 (by decide)]
  show ((stepM L (cutL 32 [116, 97, 98, 108, 101])).1, _ ++ (stepM L (cutL 32 [116, 97, 98, 108, 101])).2) = _
  rw [step_4 (by decide)]
  rfl
theorem more1V {l : List UInt8} (h5 : (compM l ++ [116, 97, 98, 108, 101, 10]).length ≤ 500) : execM (compM l ++ [116, 97, 98, 108, 101, 10]) = (runM [] (linesM l)).2 ++ TT (runM [] (linesM l)).1 ++ peopleL (runM [] (linesM l)).1 := by
  have h := exec_more (l := l) (ts := [[116, 97, 98, 108, 101]]) (by decide) h5
  rw [show scriptOf [[116, 97, 98, 108, 101]] = [116, 97, 98, 108, 101, 10] from rfl] at h
  rw [h, run1V]
theorem more2V {l : List UInt8} (h5 : (compM l ++ [116, 97, 98, 108, 101, 10, 116, 97, 98, 108, 101, 10]).length ≤ 500) : execM (compM l ++ [116, 97, 98, 108, 101, 10, 116, 97, 98, 108, 101, 10]) = (runM [] (linesM l)).2 ++ (TT (runM [] (linesM l)).1 ++ TT (runM [] (linesM l)).1) ++ peopleL (runM [] (linesM l)).1 := by
  have h := exec_more (l := l) (ts := [[116, 97, 98, 108, 101], [116, 97, 98, 108, 101]]) (by decide) h5
  rw [show scriptOf [[116, 97, 98, 108, 101], [116, 97, 98, 108, 101]] = [116, 97, 98, 108, 101, 10, 116, 97, 98, 108, 101, 10] from rfl] at h
  rw [h, run2V]

theorem lines_le (l : List UInt8) : (linesM l).length ≤ (compM l).length := by
  have key : ∀ ls : List (List UInt8), ls.length ≤ (scriptOf ls).length := by
    intro ls
    induction ls with
    | nil => simp [scriptOf]
    | cons a r ih =>
      have h : scriptOf (a :: r) = (a ++ [10]) ++ scriptOf r := rfl
      rw [h]
      simp only [List.length_append, List.length_cons, List.length_nil]
      omega
  unfold linesM compM
  rw [List.length_map]
  exact key _
set_option maxRecDepth 100000 in
set_option maxHeartbeats 4000000 in
theorem executeTwice (a0 : Option Addr) (b0 o0 cap0 : Nat) (xs0 : List Int) (w : World) (hr0 : Row .u8 w a0 b0 o0 xs0) (hl0 : xs0.length ≤ cap0 ∧ cap0 ≤ 9223372036854775807) (hw0 : ∀ i, i < xs0.length → (Lit.int .u8 (xs0.getD i 0)).wf = true) (ht : LibM w) :
    Calls Tryz.prog 8 #[.slice a0 xs0.length cap0] w fun e w' => e = .returned (.bool true) ∧ Below w.heap.size w w' := by
  have HP := Lib.hid ht
  have HD := Lib.hid (drawExD a0 b0 o0 cap0 xs0 w hr0 hl0 hw0)
  clear hr0 hw0 ht
  by_cases hbig : 1048576 < xs0.length
  · go_enter Tryz.func8, Tryz.ntmps8
    go_wp2_with fail
    go_ret
    exact ⟨rfl, Below.refl _ _⟩
  · have hs0 : xs0.length ≤ 1048576 := by omega
    clear hbig
    go_enter Tryz.func8, Tryz.ntmps8
    go_wp2_with fail
    refine (HD.out).mono ?_
    rintro e w1 ⟨S, rfl, hS, hb1⟩
    have HB1 := Lib.hid hb1
    have HP1 := Lib.hid (HP.out.keep hb1 (Nat.le_refl _))
    clear hb1
    obtain ⟨X, hX, hsp, him⟩ := both S (by omega)
    have HSP := Lib.hid hsp
    have HIM := Lib.hid him
    clear hX hsp him
    go_wp2_with fail
    refine (HIM.out w1 HP1.out).mono ?_
    rintro e w2 ⟨rfl, hb2⟩
    have HB2 := Lib.hid (HB1.out.trans (hb2.mono HB1.out.size))
    clear hb2
    go_wp2_with fail
    refine (HSP.out w2).mono ?_
    rintro e w3 ⟨rfl, hb3⟩
    have HB3 := Lib.hid (HB2.out.trans (hb3.mono HB2.out.size))
    have HP3 := Lib.hid (HP.out.keep HB3.out (Nat.le_refl _))
    clear hb3
    have hcl := comp_le S.data.toList
    have hSl : S.data.toList.length = S.size := Array.length_toList
    have HCO := Lib.hid (completeD S (by omega) w3)
    obtain ⟨C, hC⟩ : ∃ C, bs (compM S.data.toList) = C := ⟨_, rfl⟩
    have hCl : C.data.toList = compM S.data.toList := by rw [← hC]; rfl
    have hCz : C.size = (compM S.data.toList).length := by rw [← hC, bs_size]
    rw [hC] at HCO
    by_cases hbig2 : 488 < C.size
    · have hci : (488 : Int) < (C.size : Int) := by omega
      clear hC hCl
      go_wp2_with fail
      refine (HCO.out).mono ?_
      rintro e w4 ⟨rfl, rfl⟩
      go_wp2_with fail
      go_ret
      exact ⟨rfl, HB3.out⟩
    · have hci : (C.size : Int) ≤ 488 := by omega
      obtain ⟨A, hA, -, hia⟩ := both C (by omega)
      have hlen1 : (C ++ ⟨#[116, 97, 98, 108, 101, 10]⟩).size = C.size + 6 := by rw [ByteArray.size_append]; rfl
      have hlen2 : (C ++ ⟨#[116, 97, 98, 108, 101, 10, 116, 97, 98, 108, 101, 10]⟩).size = C.size + 12 := by rw [ByteArray.size_append]; rfl
      obtain ⟨B, hBd, -, hib⟩ := both (C ++ ⟨#[116, 97, 98, 108, 101, 10]⟩) (by omega)
      obtain ⟨D, hDd, -, hid⟩ := both (C ++ ⟨#[116, 97, 98, 108, 101, 10, 116, 97, 98, 108, 101, 10]⟩) (by omega)
      obtain ⟨o, ho⟩ : ∃ o, (runM [] (linesM S.data.toList)).2 = o := ⟨_, rfl⟩
      obtain ⟨L, hL⟩ : ∃ L, (runM [] (linesM S.data.toList)).1 = L := ⟨_, rfl⟩
      have hoE : EndB o := by rw [← ho]; exact run_end _ _
      have hLo : pplB L = true := by rw [← hL]; exact runM_ok pplB_nil _
      have hA2 : A.data.toList = o ++ (sPeople ++ word (L.length : Int)) ++ [10] := by
        rw [hA, hCl, exec_comp (by omega), ho, hL]
        unfold peopleL
        simp only [List.append_assoc]
      have hap1 : (C ++ ⟨#[116, 97, 98, 108, 101, 10]⟩).data.toList = compM S.data.toList ++ [116, 97, 98, 108, 101, 10] := by
        rw [← hCl, ByteArray.data_append, Array.toList_append]
      have hap2 : (C ++ ⟨#[116, 97, 98, 108, 101, 10, 116, 97, 98, 108, 101, 10]⟩).data.toList = compM S.data.toList ++ [116, 97, 98, 108, 101, 10, 116, 97, 98, 108, 101, 10] := by
        rw [← hCl, ByteArray.data_append, Array.toList_append]
      have hB2 : B.data.toList = o ++ TT L ++ ((sPeople ++ word (L.length : Int)) ++ [10]) := by
        rw [hBd, hap1, more1V (by rw [← hap1, Array.length_toList]; show (C ++ ⟨#[116, 97, 98, 108, 101, 10]⟩).size ≤ 500; omega), ho, hL]
        rfl
      have hD2 : D.data.toList = o ++ (TT L ++ TT L) ++ ((sPeople ++ word (L.length : Int)) ++ [10]) := by
        rw [hDd, hap2, more2V (by rw [← hap2, Array.length_toList]; show (C ++ ⟨#[116, 97, 98, 108, 101, 10, 116, 97, 98, 108, 101, 10]⟩).size ≤ 500; omega), ho, hL]
        rfl
      have hLl : L.length ≤ 40 := (ppl_t.1 hLo).1
      have hws := Go.TextMath.word_short (n := (L.length : Int)) (by omega) (by omega)
      have hos : o.length ≤ 100000 := by
        rw [← ho]
        have h1 := run_short pplB_nil (linesM S.data.toList)
        have h2 := lines_le S.data.toList
        omega
      have hTz : (bs (TT L)).size ≤ 200 := by
        rw [bs_size]
        exact text_short4 [] (tv_fit (tabO_tv hLo)) (by rw [tabO_len]; decide)
      have hPz : (bs ((sPeople ++ word (L.length : Int)) ++ [10])).size ≤ 20 := by
        rw [bs_size]
        simp only [List.length_append, List.length_cons, List.length_nil, sPeople]
        omega
      have hAz : A.size = o.length + (bs ((sPeople ++ word (L.length : Int)) ++ [10])).size := by
        rw [bs_size, show A.size = A.data.toList.length from (Array.length_toList).symm, hA2]
        simp only [List.length_append]
        omega
      have hBz : B.size = o.length + (bs (TT L)).size + (bs ((sPeople ++ word (L.length : Int)) ++ [10])).size := by
        rw [bs_size, bs_size, show B.size = B.data.toList.length from (Array.length_toList).symm, hB2]
        simp only [List.length_append]
      have HLA := Lib.hid (fun W => lastD A (by omega) o (sPeople ++ word (L.length : Int)) hA2 (people_no L) hoE W)
      obtain ⟨P, hP⟩ : ∃ P, bs ((sPeople ++ word (L.length : Int)) ++ [10]) = P := ⟨_, rfl⟩
      obtain ⟨n, hn⟩ : ∃ n, o.length = n := ⟨_, rfl⟩
      obtain ⟨Q, hQ⟩ : ∃ Q, bs (TT L) = Q := ⟨_, rfl⟩
      have hD3 : D = A.extract 0 n ++ Q ++ Q ++ P := bytes_ext (by
        have ht : List.take o.length (o ++ (sPeople ++ word (L.length : Int)) ++ [10]) = o := by rw [List.append_assoc, List.take_left]
        rw [hD2, ← hP, ← hn, ← hQ, ByteArray.data_append, Array.toList_append, ByteArray.data_append, Array.toList_append, ByteArray.data_append, Array.toList_append, ex_list, hA2, List.drop_zero, ht, ← List.append_assoc o]
        rfl)
      have hB3 : B.extract n (n + Q.size) = Q := bytes_ext (by
        rw [ex_list, hB2, ← hn, ← hQ, bs_size, List.take_append_of_le_length (by rw [List.length_append]; exact Nat.le_refl _), List.take_of_length_le (by rw [List.length_append]; exact Nat.le_refl _), List.drop_left]
        rfl)
      rw [hP] at HLA hPz hAz hBz
      rw [hQ] at hTz hBz
      rw [hn] at hAz hBz hos
      rw [hD3] at hid
      have HIA := Lib.hid hia
      have HIB := Lib.hid hib
      have HID := Lib.hid hid
      have HB3E := Lib.hid hB3
      have hw1 : IntKind.i64.wrap ((A.size : Int) - (P.size : Int)) = (n : Int) := by
        rw [show (A.size : Int) - (P.size : Int) = (n : Int) by omega]
        exact IntWalk.i64_in _ ⟨by omega, by omega⟩
      obtain ⟨m, hm⟩ : ∃ m, n + Q.size = m := ⟨_, rfl⟩
      have hw2 : IntKind.i64.wrap ((B.size : Int) - (P.size : Int)) = (m : Int) := by
        rw [show (B.size : Int) - (P.size : Int) = (m : Int) by omega]
        exact IntWalk.i64_in _ ⟨by omega, by omega⟩
      have he1 : (A.size : Int) - (P.size : Int) = (n : Int) := by omega
      have he2 : (B.size : Int) - (P.size : Int) = (m : Int) := by omega
      have hnm : (n : Int) ≤ (m : Int) := by omega
      have hmb : (m : Int) ≤ (B.size : Int) := by omega
      have hnm2 : n ≤ m := by omega
      have hmb2 : m ≤ B.size := by omega
      have hmb3 : (m : Int) ≤ (m : Int) + (P.size : Int) := by omega
      have hmb4 : m ≤ m + P.size := by omega
      have hna : (n : Int) ≤ (A.size : Int) := by omega
      have hnn : n ≤ A.size := by omega
      have hz1 : (A.extract 0 n).size = n := by rw [ByteArray.size_extract]; omega
      have hz2 : (A.extract 0 n ++ Q).size = n + Q.size := by rw [ByteArray.size_append, hz1]
      have hz3 : (A.extract 0 n ++ Q ++ Q).size = n + Q.size + Q.size := by rw [ByteArray.size_append, hz2]
      have hz4 : (A.extract 0 n ++ Q ++ Q ++ P).size = n + Q.size + Q.size + P.size := by rw [ByteArray.size_append, hz3]
      rw [hm] at HB3E
      clear hC hCl hia hib hid hA hBd hDd ho hL hoE hA2 hap1 hap2 hB2 hD2 hLl hws hP hn hQ hB3 hD3 hcl hSl hCz hLo
      go_wp2_with fail
      refine (HCO.out).mono ?_
      rintro e w4 ⟨rfl, rfl⟩
      go_wp2_with fail
      refine (HIA.out w3 HP3.out).mono ?_
      rintro e w5 ⟨rfl, hb5⟩
      have HB5 := Lib.hid (HB3.out.trans (hb5.mono HB3.out.size))
      clear hb5
      go_wp2_with fail
      refine (HLA.out w5).mono ?_
      rintro e w6 ⟨rfl, rfl⟩
      go_wp2_with fail
      refine (HIB.out w5 (HP.out.keep HB5.out (Nat.le_refl _))).mono ?_
      rintro e w6 ⟨rfl, hb6⟩
      have HB6 := Lib.hid (HB5.out.trans (hb6.mono HB5.out.size))
      clear hb6
      go_upto_region 15 with fail
      rw [HB3E.out]
      refine wp_region_held (S := (fun _ => True)) (by kernel_rfl) ?_
      change wpAnyH _ _ _ _ _ _ _ _ w6.drew
      have hd := (Below.refl w6.heap.size w6).drew
      obtain ⟨Wd, hWd⟩ : ∃ Wd, w6.drew = Wd := ⟨_, rfl⟩
      rw [hWd] at hd ⊢
      have HD2 := Lib.hid (HB6.out.trans (hd.mono HB6.out.size))
      have HPD := Lib.hid (HP.out.keep HD2.out (Nat.le_refl _))
      clear hWd hd
      refine wpAnyH_take (i := 0) (oi := ⟨some 47, _, _, _, _, _⟩) (v := .string C) rfl (by kernel_rfl) (by kernel_rfl) (by kernel_rfl) (fun _ _ _ h => h) (Or.inl ⟨by kernel_rfl, fun V hV => ?_⟩) trivial ?_
      · clear hV
        go_simp
        all_goals first | omega | exact IntWalk.i64_in _ ⟨by omega, by omega⟩ | (simp; omega)
      simp only [Act.put, List.setIfInBounds_toArray, List.set_cons_zero, List.set_cons_succ]
      refine wpAnyH_take (i := 1) (oi := ⟨some 48, _, _, _, _, _⟩) (v := .string (C ++ ⟨#[116, 97, 98, 108, 101, 10, 116, 97, 98, 108, 101, 10]⟩)) rfl (by kernel_rfl) (by kernel_rfl) (by kernel_rfl) (fun _ _ _ h => h) (Or.inl ⟨by kernel_rfl, fun V hV => ?_⟩) trivial ?_
      · clear hV
        go_simp
        all_goals first | omega | exact IntWalk.i64_in _ ⟨by omega, by omega⟩ | (simp; omega)
      simp only [Act.put, List.setIfInBounds_toArray, List.set_cons_zero, List.set_cons_succ]
      refine wpAnyH_take (i := 3) (oi := ⟨some 50, _, _, _, _, _⟩) (v := .string A) rfl (by kernel_rfl) (by kernel_rfl) (by kernel_rfl) (fun _ _ _ h => h) (Or.inl ⟨by kernel_rfl, fun V hV => ?_⟩) trivial ?_
      · clear hV
        go_simp
        all_goals first | omega | exact IntWalk.i64_in _ ⟨by omega, by omega⟩ | (simp; omega)
      simp only [Act.put, List.setIfInBounds_toArray, List.set_cons_zero, List.set_cons_succ]
      refine wpAnyH_take (i := 4) (oi := ⟨some 51, _, _, _, _, _⟩) (v := .string A) rfl (by kernel_rfl) (by kernel_rfl) (by kernel_rfl) (fun _ _ _ h => h) (Or.inl ⟨by kernel_rfl, fun V hV => ?_⟩) trivial ?_
      · clear hV
        go_simp
        all_goals first | omega | exact IntWalk.i64_in _ ⟨by omega, by omega⟩ | (simp; omega)
      simp only [Act.put, List.setIfInBounds_toArray, List.set_cons_zero, List.set_cons_succ]
      refine wpAnyH_take (i := 5) (oi := ⟨some 52, _, _, _, _, _⟩) (v := .int .i64 (A.size : Int)) rfl (by kernel_rfl) (by kernel_rfl) (by kernel_rfl) (fun _ _ _ h => h) (Or.inl ⟨by kernel_rfl, fun V hV => ?_⟩) trivial ?_
      · clear hV
        go_simp
        all_goals first | omega | exact IntWalk.i64_in _ ⟨by omega, by omega⟩ | (simp; omega)
      simp only [Act.put, List.setIfInBounds_toArray, List.set_cons_zero, List.set_cons_succ]
      refine wpAnyH_take (i := 6) (oi := ⟨some 53, _, _, _, _, _⟩) (v := .string P) rfl (by kernel_rfl) (by kernel_rfl) (by kernel_rfl) (fun _ _ _ h => h) (Or.inl ⟨by kernel_rfl, fun V hV => ?_⟩) trivial ?_
      · clear hV
        go_simp
        all_goals first | omega | exact IntWalk.i64_in _ ⟨by omega, by omega⟩ | (simp; omega)
      simp only [Act.put, List.setIfInBounds_toArray, List.set_cons_zero, List.set_cons_succ]
      refine wpAnyH_take (i := 7) (oi := ⟨some 54, _, _, _, _, _⟩) (v := .int .i64 (P.size : Int)) rfl (by kernel_rfl) (by kernel_rfl) (by kernel_rfl) (fun _ _ _ h => h) (Or.inl ⟨by kernel_rfl, fun V hV => ?_⟩) trivial ?_
      · clear hV
        go_simp
        all_goals first | omega | exact IntWalk.i64_in _ ⟨by omega, by omega⟩ | (simp; omega)
      simp only [Act.put, List.setIfInBounds_toArray, List.set_cons_zero, List.set_cons_succ]
      refine wpAnyH_take (i := 8) (oi := ⟨some 55, _, _, _, _, _⟩) (v := .int .i64 (n : Int)) rfl (by kernel_rfl) (by kernel_rfl) (by kernel_rfl) (fun _ _ _ h => h) (Or.inl ⟨by kernel_rfl, fun V hV => ?_⟩) trivial ?_
      · clear hV
        go_simp
        all_goals first | omega | exact IntWalk.i64_in _ ⟨by omega, by omega⟩ | (simp; omega)
      simp only [Act.put, List.setIfInBounds_toArray, List.set_cons_zero, List.set_cons_succ]
      refine wpAnyH_take (i := 9) (oi := ⟨some 56, _, _, _, _, _⟩) (v := .string (A.extract 0 n)) rfl (by kernel_rfl) (by kernel_rfl) (by kernel_rfl) (fun _ _ _ h => h) (Or.inl ⟨by kernel_rfl, fun V hV => ?_⟩) trivial ?_
      · clear hV
        go_simp
        all_goals first | omega | exact IntWalk.i64_in _ ⟨by omega, by omega⟩ | (simp; omega)
      simp only [Act.put, List.setIfInBounds_toArray, List.set_cons_zero, List.set_cons_succ]
      refine wpAnyH_take (i := 10) (oi := ⟨some 57, _, _, _, _, _⟩) (v := .string Q) rfl (by kernel_rfl) (by kernel_rfl) (by kernel_rfl) (fun _ _ _ h => h) (Or.inl ⟨by kernel_rfl, fun V hV => ?_⟩) trivial ?_
      · clear hV
        go_simp
        all_goals first | omega | exact IntWalk.i64_in _ ⟨by omega, by omega⟩ | (simp; omega)
      simp only [Act.put, List.setIfInBounds_toArray, List.set_cons_zero, List.set_cons_succ]
      refine wpAnyH_take (i := 11) (oi := ⟨some 58, _, _, _, _, _⟩) (v := .string (A.extract 0 n ++ Q)) rfl (by kernel_rfl) (by kernel_rfl) (by kernel_rfl) (fun _ _ _ h => h) (Or.inl ⟨by kernel_rfl, fun V hV => ?_⟩) trivial ?_
      · clear hV
        go_simp
        all_goals first | omega | exact IntWalk.i64_in _ ⟨by omega, by omega⟩ | (simp; omega)
      simp only [Act.put, List.setIfInBounds_toArray, List.set_cons_zero, List.set_cons_succ]
      refine wpAnyH_take (i := 12) (oi := ⟨some 59, _, _, _, _, _⟩) (v := .string Q) rfl (by kernel_rfl) (by kernel_rfl) (by kernel_rfl) (fun _ _ _ h => h) (Or.inl ⟨by kernel_rfl, fun V hV => ?_⟩) trivial ?_
      · clear hV
        go_simp
        all_goals first | omega | exact IntWalk.i64_in _ ⟨by omega, by omega⟩ | (simp; omega)
      simp only [Act.put, List.setIfInBounds_toArray, List.set_cons_zero, List.set_cons_succ]
      refine wpAnyH_take (i := 13) (oi := ⟨some 60, _, _, _, _, _⟩) (v := .string (A.extract 0 n ++ Q ++ Q)) rfl (by kernel_rfl) (by kernel_rfl) (by kernel_rfl) (fun _ _ _ h => h) (Or.inl ⟨by kernel_rfl, fun V hV => ?_⟩) trivial ?_
      · clear hV
        go_simp
        all_goals first | omega | exact IntWalk.i64_in _ ⟨by omega, by omega⟩ | (simp; omega)
      simp only [Act.put, List.setIfInBounds_toArray, List.set_cons_zero, List.set_cons_succ]
      refine wpAnyH_take (i := 14) (oi := ⟨some 61, _, _, _, _, _⟩) (v := .string P) rfl (by kernel_rfl) (by kernel_rfl) (by kernel_rfl) (fun _ _ _ h => h) (Or.inl ⟨by kernel_rfl, fun V hV => ?_⟩) trivial ?_
      · clear hV
        go_simp
        all_goals first | omega | exact IntWalk.i64_in _ ⟨by omega, by omega⟩ | (simp; omega)
      simp only [Act.put, List.setIfInBounds_toArray, List.set_cons_zero, List.set_cons_succ]
      refine wpAnyH_take (i := 15) (oi := ⟨some 62, _, _, _, _, _⟩) (v := .string (A.extract 0 n ++ Q ++ Q ++ P)) rfl (by kernel_rfl) (by kernel_rfl) (by kernel_rfl) (fun _ _ _ h => h) (Or.inl ⟨by kernel_rfl, fun V hV => ?_⟩) trivial ?_
      · clear hV
        go_simp
        all_goals first | omega | exact IntWalk.i64_in _ ⟨by omega, by omega⟩ | (simp; omega)
      simp only [Act.put, List.setIfInBounds_toArray, List.set_cons_zero, List.set_cons_succ]
      refine wpAnyH_ready (rs := [2]) (by kernel_rfl) (by simp) ?_
      refine AllReadyH.cons (o := ⟨some 49, _, _, _, _, _⟩) rfl (fun K hK => ?_) AllReadyH.nil
      go_simp
      refine (HID.out Wd HPD.out).mono ?_
      rintro e w8 ⟨rfl, hb8⟩
      have HB7 := Lib.hid (HD2.out.trans (hb8.mono HD2.out.size))
      clear hb8
      refine hK.out _ _ trivial (fun _ => ?_)
      try simp only [Act.put, List.setIfInBounds_toArray, List.set_cons_zero, List.set_cons_succ]
      clear hK K
      refine wpAnyH_take (i := 16) (oi := ⟨some 63, _, _, _, _, _⟩) (v := .bool true) rfl (by kernel_rfl) (by kernel_rfl) (by kernel_rfl) (fun _ _ _ h => h) (Or.inl ⟨by kernel_rfl, fun V hV => ?_⟩) trivial ?_
      · clear hV
        go_simp
        all_goals first | omega | exact IntWalk.i64_in _ ⟨by omega, by omega⟩ | (simp; omega)
      simp only [Act.put, List.setIfInBounds_toArray, List.set_cons_zero, List.set_cons_succ]
      refine wpAnyH_take (i := 17) (oi := ⟨some 2, _, _, _, _, _⟩) (v := .bool true) rfl (by kernel_rfl) (by kernel_rfl) (by kernel_rfl) (fun _ _ _ h => h) (Or.inl ⟨by kernel_rfl, fun V hV => ?_⟩) trivial ?_
      · clear hV
        go_simp
        all_goals first | omega | exact IntWalk.i64_in _ ⟨by omega, by omega⟩ | (simp; omega)
      simp only [Act.put, List.setIfInBounds_toArray, List.set_cons_zero, List.set_cons_succ]
      refine wpAnyH_done (by kernel_rfl) ?_ _
      go_wp2_with fail
      go_ret
      exact ⟨rfl, HB7.out⟩
end Go.Proofs.YtlmlchkolcmhpaaGreatDoor
