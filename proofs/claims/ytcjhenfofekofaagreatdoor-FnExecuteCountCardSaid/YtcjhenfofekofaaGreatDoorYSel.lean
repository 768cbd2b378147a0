/-
  Contracts: impl.selected, impl.PeopleMany, impl.PeoplePay, of valid people.
-/
import Derived.Test.YtcjhenfofekofaaGreatDoorJ2
import Derived.Test.YtcjhenfofekofaaGreatDoorJ3
import Derived.Deep.CutRange
import Derived.IntWalk
import Derived.Carry
namespace Go.Proofs.YtcjhenfofekofaaGreatDoor
open Go.RowKit

theorem ne_tri (a : Int) (q : Prop) [Decidable q] : ((a != -1) = false ∧ a = -1) ∨ ((a != -1) = true ∧ a ≠ -1 ∧ q) ∨ ((a != -1) = true ∧ a ≠ -1 ∧ ¬ q) := by
  by_cases h : a = -1
  · exact .inl ⟨by simp [h], h⟩
  · by_cases hq : q
    · exact .inr (.inl ⟨by simp [h], h, hq⟩)
    · exact .inr (.inr ⟨by simp [h], h, hq⟩)
theorem eq_tri (a x : Int) : ((a == -1) = true ∧ a = -1) ∨ ((a == -1) = false ∧ a ≠ -1 ∧ (x == a) = true ∧ x = a) ∨ ((a == -1) = false ∧ a ≠ -1 ∧ (x == a) = false ∧ x ≠ a) := by
  by_cases h : a = -1
  · exact .inl ⟨by simp [h], h⟩
  · by_cases hx : x = a
    · exact .inr (.inl ⟨by simp [h], h, by simp [hx], hx⟩)
    · exact .inr (.inr ⟨by simp [h], h, by simp [hx], hx⟩)

/-- The people chosen among the first k. -/
def SelR (w : World) (L : List Per) (a j s : Int) (k : Nat) (v : Value) (wr : World) : Prop := OwnPpl wr w.heap.size v ((L.take k).filter (isP a j s)) ∧ Below w.heap.size w wr
theorem filter_take {L : List Per} {k : Nat} (hk : k < L.length) (f : Per → Bool) : (L.take (k + 1)).filter f = if f (L.getD k per0) then (L.take k).filter f ++ [L.getD k per0] else (L.take k).filter f := by
  rw [List.take_add_one, List.getElem?_eq_getElem hk, Option.toList_some, List.filter_append, List.getD_eq_getElem?_getD, List.getElem?_eq_getElem hk, Option.getD_some]
  cases h : f L[k] <;> simp [h]

set_option maxRecDepth 100000 in
set_option maxHeartbeats 4000000 in
theorem selI (ao : Option Addr) (b off cap : Nat) (L : List Per) (a j s : Int) (w : World) (hr : Ppl w ao b off L) (hv : pplB L = true) :
    Calls Tryz.prog 47 #[.slice ao L.length cap, .int .i64 a, .int .i64 j, .int .i64 s] w fun e w' => Below w.heap.size w w' ∧
      ((askB a j s = false ∧ e = .returned (.tuple #[.slice none 0 0, .bool false])) ∨ (askB a j s = true ∧ ∃ v, e = .returned (.tuple #[v, .bool true]) ∧ OwnPpl w' w.heap.size v (L.filter (isP a j s)))) := by
  have h40 := (ppl_t.1 hv).1
  have HV := Lib.hid hv
  have HR := Lib.hid hr
  have HC := Lib.hid (peopleI ao b off cap L w hr (by omega))
  clear hr hv
  go_enter Tryz.func47, Tryz.ntmps47
  go_upto_region 1 with fail
  go_cut [42] from 13 to 41 (fun t wx => t = .bool (!askB a j s) ∧ Below w.heap.size w wx)
  case first =>
    go_wp2_with fail
    refine (HC.out).mono ?_
    rintro e w1 ⟨rfl, hb1⟩
    rw [HV.out]
    have HB1 := Lib.hid hb1
    clear hb1 HC
    rcases ne_tri a (0 ≤ a ∧ a ≤ 3) with ⟨A1, A2⟩ | ⟨A1, A2, A3⟩ | ⟨A1, A2, A3⟩
    · have AE := Lib.hid A2
      clear A2
      rcases ne_tri j (0 ≤ j ∧ j ≤ 3) with ⟨B1, B2⟩ | ⟨B1, B2, B3⟩ | ⟨B1, B2, B3⟩
      · have BE := Lib.hid B2
        clear B2
        rcases ne_tri s (0 ≤ s ∧ s ≤ 1) with ⟨C1, C2⟩ | ⟨C1, C2, C3⟩ | ⟨C1, C2, C3⟩
        · have CE := Lib.hid C2
          clear C2
          have HE := Lib.hid (show askB a j s = true from decide_eq_true ⟨.inl AE.out, .inl BE.out, .inl CE.out⟩)
          go_wp2_with fail
          go_meet
          exact ⟨by rw [HE.out]; rfl, HB1.out⟩
        · have CE := Lib.hid C3
          clear C2 C3
          go_wp2_with fail
          refine (isSex_any s _).mono ?_
          rintro e w2 ⟨rfl, rfl⟩
          rw [dec_t CE.out]
          have HE := Lib.hid (show askB a j s = true from decide_eq_true ⟨.inl AE.out, .inl BE.out, .inr CE.out⟩)
          go_wp2_with fail
          go_meet
          exact ⟨by rw [HE.out]; rfl, HB1.out⟩
        · have CE := Lib.hid (show ¬ (s = -1 ∨ (0 ≤ s ∧ s ≤ 1)) from fun h => h.elim C2 C3)
          have CF := Lib.hid C3
          clear C2 C3
          go_wp2_with fail
          refine (isSex_any s _).mono ?_
          rintro e w2 ⟨rfl, rfl⟩
          rw [dec_f CF.out]
          have HE := Lib.hid (show askB a j s = false from decide_eq_false fun h => CE.out h.2.2)
          go_wp2_with fail
          go_meet
          exact ⟨by rw [HE.out]; rfl, HB1.out⟩
      · have BE := Lib.hid B3
        clear B2 B3
        go_wp2_with fail
        refine (isCode_any j _).mono ?_
        rintro e w2 ⟨rfl, rfl⟩
        rw [dec_t BE.out]
        rcases ne_tri s (0 ≤ s ∧ s ≤ 1) with ⟨C1, C2⟩ | ⟨C1, C2, C3⟩ | ⟨C1, C2, C3⟩
        · have CE := Lib.hid C2
          clear C2
          have HE := Lib.hid (show askB a j s = true from decide_eq_true ⟨.inl AE.out, .inr BE.out, .inl CE.out⟩)
          go_wp2_with fail
          go_meet
          exact ⟨by rw [HE.out]; rfl, HB1.out⟩
        · have CE := Lib.hid C3
          clear C2 C3
          go_wp2_with fail
          refine (isSex_any s _).mono ?_
          rintro e w2 ⟨rfl, rfl⟩
          rw [dec_t CE.out]
          have HE := Lib.hid (show askB a j s = true from decide_eq_true ⟨.inl AE.out, .inr BE.out, .inr CE.out⟩)
          go_wp2_with fail
          go_meet
          exact ⟨by rw [HE.out]; rfl, HB1.out⟩
        · have CE := Lib.hid (show ¬ (s = -1 ∨ (0 ≤ s ∧ s ≤ 1)) from fun h => h.elim C2 C3)
          have CF := Lib.hid C3
          clear C2 C3
          go_wp2_with fail
          refine (isSex_any s _).mono ?_
          rintro e w2 ⟨rfl, rfl⟩
          rw [dec_f CF.out]
          have HE := Lib.hid (show askB a j s = false from decide_eq_false fun h => CE.out h.2.2)
          go_wp2_with fail
          go_meet
          exact ⟨by rw [HE.out]; rfl, HB1.out⟩
      · have BE := Lib.hid (show ¬ (j = -1 ∨ (0 ≤ j ∧ j ≤ 3)) from fun h => h.elim B2 B3)
        have BF := Lib.hid B3
        clear B2 B3
        go_wp2_with fail
        refine (isCode_any j _).mono ?_
        rintro e w2 ⟨rfl, rfl⟩
        rw [dec_f BF.out]
        have HE := Lib.hid (show askB a j s = false from decide_eq_false fun h => BE.out h.2.1)
        go_wp2_with fail
        go_meet
        exact ⟨by rw [HE.out]; rfl, HB1.out⟩
    · have AE := Lib.hid A3
      clear A2 A3
      go_wp2_with fail
      refine (isCode_any a _).mono ?_
      rintro e w2 ⟨rfl, rfl⟩
      rw [dec_t AE.out]
      rcases ne_tri j (0 ≤ j ∧ j ≤ 3) with ⟨B1, B2⟩ | ⟨B1, B2, B3⟩ | ⟨B1, B2, B3⟩
      · have BE := Lib.hid B2
        clear B2
        rcases ne_tri s (0 ≤ s ∧ s ≤ 1) with ⟨C1, C2⟩ | ⟨C1, C2, C3⟩ | ⟨C1, C2, C3⟩
        · have CE := Lib.hid C2
          clear C2
          have HE := Lib.hid (show askB a j s = true from decide_eq_true ⟨.inr AE.out, .inl BE.out, .inl CE.out⟩)
          go_wp2_with fail
          go_meet
          exact ⟨by rw [HE.out]; rfl, HB1.out⟩
        · have CE := Lib.hid C3
          clear C2 C3
          go_wp2_with fail
          refine (isSex_any s _).mono ?_
          rintro e w2 ⟨rfl, rfl⟩
          rw [dec_t CE.out]
          have HE := Lib.hid (show askB a j s = true from decide_eq_true ⟨.inr AE.out, .inl BE.out, .inr CE.out⟩)
          go_wp2_with fail
          go_meet
          exact ⟨by rw [HE.out]; rfl, HB1.out⟩
        · have CE := Lib.hid (show ¬ (s = -1 ∨ (0 ≤ s ∧ s ≤ 1)) from fun h => h.elim C2 C3)
          have CF := Lib.hid C3
          clear C2 C3
          go_wp2_with fail
          refine (isSex_any s _).mono ?_
          rintro e w2 ⟨rfl, rfl⟩
          rw [dec_f CF.out]
          have HE := Lib.hid (show askB a j s = false from decide_eq_false fun h => CE.out h.2.2)
          go_wp2_with fail
          go_meet
          exact ⟨by rw [HE.out]; rfl, HB1.out⟩
      · have BE := Lib.hid B3
        clear B2 B3
        go_wp2_with fail
        refine (isCode_any j _).mono ?_
        rintro e w2 ⟨rfl, rfl⟩
        rw [dec_t BE.out]
        rcases ne_tri s (0 ≤ s ∧ s ≤ 1) with ⟨C1, C2⟩ | ⟨C1, C2, C3⟩ | ⟨C1, C2, C3⟩
        · have CE := Lib.hid C2
          clear C2
          have HE := Lib.hid (show askB a j s = true from decide_eq_true ⟨.inr AE.out, .inr BE.out, .inl CE.out⟩)
          go_wp2_with fail
          go_meet
          exact ⟨by rw [HE.out]; rfl, HB1.out⟩
        · have CE := Lib.hid C3
          clear C2 C3
          go_wp2_with fail
          refine (isSex_any s _).mono ?_
          rintro e w2 ⟨rfl, rfl⟩
          rw [dec_t CE.out]
          have HE := Lib.hid (show askB a j s = true from decide_eq_true ⟨.inr AE.out, .inr BE.out, .inr CE.out⟩)
          go_wp2_with fail
          go_meet
          exact ⟨by rw [HE.out]; rfl, HB1.out⟩
        · have CE := Lib.hid (show ¬ (s = -1 ∨ (0 ≤ s ∧ s ≤ 1)) from fun h => h.elim C2 C3)
          have CF := Lib.hid C3
          clear C2 C3
          go_wp2_with fail
          refine (isSex_any s _).mono ?_
          rintro e w2 ⟨rfl, rfl⟩
          rw [dec_f CF.out]
          have HE := Lib.hid (show askB a j s = false from decide_eq_false fun h => CE.out h.2.2)
          go_wp2_with fail
          go_meet
          exact ⟨by rw [HE.out]; rfl, HB1.out⟩
      · have BE := Lib.hid (show ¬ (j = -1 ∨ (0 ≤ j ∧ j ≤ 3)) from fun h => h.elim B2 B3)
        have BF := Lib.hid B3
        clear B2 B3
        go_wp2_with fail
        refine (isCode_any j _).mono ?_
        rintro e w2 ⟨rfl, rfl⟩
        rw [dec_f BF.out]
        have HE := Lib.hid (show askB a j s = false from decide_eq_false fun h => BE.out h.2.1)
        go_wp2_with fail
        go_meet
        exact ⟨by rw [HE.out]; rfl, HB1.out⟩
    · have AE := Lib.hid (show ¬ (a = -1 ∨ (0 ≤ a ∧ a ≤ 3)) from fun h => h.elim A2 A3)
      have AF := Lib.hid A3
      clear A2 A3
      go_wp2_with fail
      refine (isCode_any a _).mono ?_
      rintro e w2 ⟨rfl, rfl⟩
      rw [dec_f AF.out]
      have HE := Lib.hid (show askB a j s = false from decide_eq_false fun h => AE.out h.1)
      go_wp2_with fail
      go_meet
      exact ⟨by rw [HE.out]; rfl, HB1.out⟩
  case rest =>
    obtain ⟨rfl, hbc⟩ := hcut
    have HBC := Lib.hid hbc
    have hsc := hbc.size
    clear hbc HC
    cases hask : askB a j s with
    | false =>
      have HASK := Lib.hid hask
      clear hask
      go_wp2_with fail
      go_ret2
      exact ⟨HBC.out, .inl ⟨HASK.out, rfl⟩⟩
    | true =>
      have HASK := Lib.hid hask
      clear hask
      simp only [Bool.not_true]
      go_wp2_with fail
      go_loopw [10, 45] (fun v i wr => ∃ k : Nat, k ≤ L.length ∧ i = .int .i64 k ∧ SelR w L a j s k v wr) (fun _ i _ => L.length - (intOf i).toNat)
      case atStart => exact ⟨0, Nat.zero_le _, rfl, World.ownsRow_nil _ _ _ _, HBC.out⟩
      case round =>
        obtain ⟨k, hk, rfl, hown, hb⟩ := hrel
        have HB := Lib.hid hb
        have hsw := hb.size
        by_cases hlt : k < L.length
        · have h2 := (HR.out.keep HB.out (Nat.le_refl _)).2 k hlt
          obtain rfl := HR.out.1 (by omega)
          have HT := Lib.hid (filter_take hlt (isP a j s))
          obtain ⟨p, hp⟩ : ∃ p, L.getD k per0 = p := ⟨_, rfl⟩
          rw [hp] at h2 HT
          clear hp
          obtain ⟨p0, p1, p2, p3⟩ := p
          obtain ⟨c0, c1, c2, c3⟩ := h2
          simp only at c0 c1 c2 c3
          obtain ⟨M, hM⟩ : ∃ M, (L.take k).filter (isP a j s) = M := ⟨_, rfl⟩
          have hml : M.length ≤ 40 := by rw [← hM]; have h1 := List.length_filter_le (isP a j s) (L.take k); rw [List.length_take] at h1; omega
          rw [hM] at hown HT
          have HO := Lib.hid hown
          obtain ⟨aM, bM, cM, hvM, -, -, -, -⟩ := hown.ppl
          subst hvM
          have HML := Lib.hid (show M.length ≤ 1000000000 by omega)
          have HLL := Lib.hid (show Below w.heap.size w (wr.alloc (.cells #[.int .i64 p0, .int .i64 p1, .int .i64 p2, .int .i64 p3] 57)) from HB.out.alloc hsw _)
          have HOA := Lib.hid (show OwnPpl (wr.alloc (.cells #[.int .i64 p0, .int .i64 p1, .int .i64 p2, .int .i64 p3] 57)) w.heap.size (.slice aM M.length cM) M from World.ownsRow.alloc hown _)
          clear hown hb hM
          go_upto_region 7 with fail
          obtain ⟨V, hV⟩ : ∃ V, wr.alloc (.cells #[.int .i64 p0, .int .i64 p1, .int .i64 p2, .int .i64 p3] 57) = V := ⟨_, rfl⟩
          have v0 : V.cell? ⟨wr.heap.size, 0, none⟩ = some (.int .i64 p0) := by rw [← hV, World.cell?_alloc_new]; rfl
          have v1 : V.cell? ⟨wr.heap.size, 1, none⟩ = some (.int .i64 p1) := by rw [← hV, World.cell?_alloc_new]; rfl
          have v2 : V.cell? ⟨wr.heap.size, 2, none⟩ = some (.int .i64 p2) := by rw [← hV, World.cell?_alloc_new]; rfl
          have v3 : V.cell? ⟨wr.heap.size, 3, none⟩ = some (.int .i64 p3) := by rw [← hV, World.cell?_alloc_new]; rfl
          rw [hV] at HLL HOA ⊢
          clear hV c0 c1 c2 c3
          go_cut [45, 76] from 45 to 81 (fun i t wx => i = .int .i64 k ∧ t = .bool (isP a j s ⟨p0, p1, p2, p3⟩) ∧ wx = V)
          case first =>
            rcases eq_tri a p0 with ⟨A1, A2⟩ | ⟨A1, -, A2, A3⟩ | ⟨A1, A2, A3, A4⟩
            · have AE := Lib.hid (show a = -1 ∨ p0 = a from .inl A2)
              clear A2
              rcases eq_tri j p1 with ⟨B1, B2⟩ | ⟨B1, -, B2, B3⟩ | ⟨B1, B2, B3, B4⟩
              · have BE := Lib.hid (show j = -1 ∨ p1 = j from .inl B2)
                clear B2
                rcases eq_tri s p2 with ⟨C1, C2⟩ | ⟨C1, -, C2, C3⟩ | ⟨C1, C2, C3, C4⟩
                · have CE := Lib.hid (show s = -1 ∨ p2 = s from .inl C2)
                  clear C2
                  have HE := Lib.hid (show isP a j s ⟨p0, p1, p2, p3⟩ = true from decide_eq_true ⟨AE.out, BE.out, CE.out⟩)
                  go_wp2_with fail
                  go_meet
                  exact ⟨rfl, by rw [HE.out], rfl⟩
                · have CE := Lib.hid (show s = -1 ∨ p2 = s from .inr C3)
                  clear C3
                  have HE := Lib.hid (show isP a j s ⟨p0, p1, p2, p3⟩ = true from decide_eq_true ⟨AE.out, BE.out, CE.out⟩)
                  go_wp2_with fail
                  go_meet
                  exact ⟨rfl, by rw [HE.out], rfl⟩
                · have CE := Lib.hid (show ¬ (s = -1 ∨ p2 = s) from fun h => h.elim C2 C4)
                  clear C2 C4
                  have HE := Lib.hid (show isP a j s ⟨p0, p1, p2, p3⟩ = false from decide_eq_false fun h => CE.out h.2.2)
                  go_wp2_with fail
                  go_meet
                  exact ⟨rfl, by rw [HE.out], rfl⟩
              · have BE := Lib.hid (show j = -1 ∨ p1 = j from .inr B3)
                clear B3
                rcases eq_tri s p2 with ⟨C1, C2⟩ | ⟨C1, -, C2, C3⟩ | ⟨C1, C2, C3, C4⟩
                · have CE := Lib.hid (show s = -1 ∨ p2 = s from .inl C2)
                  clear C2
                  have HE := Lib.hid (show isP a j s ⟨p0, p1, p2, p3⟩ = true from decide_eq_true ⟨AE.out, BE.out, CE.out⟩)
                  go_wp2_with fail
                  go_meet
                  exact ⟨rfl, by rw [HE.out], rfl⟩
                · have CE := Lib.hid (show s = -1 ∨ p2 = s from .inr C3)
                  clear C3
                  have HE := Lib.hid (show isP a j s ⟨p0, p1, p2, p3⟩ = true from decide_eq_true ⟨AE.out, BE.out, CE.out⟩)
                  go_wp2_with fail
                  go_meet
                  exact ⟨rfl, by rw [HE.out], rfl⟩
                · have CE := Lib.hid (show ¬ (s = -1 ∨ p2 = s) from fun h => h.elim C2 C4)
                  clear C2 C4
                  have HE := Lib.hid (show isP a j s ⟨p0, p1, p2, p3⟩ = false from decide_eq_false fun h => CE.out h.2.2)
                  go_wp2_with fail
                  go_meet
                  exact ⟨rfl, by rw [HE.out], rfl⟩
              · have BE := Lib.hid (show ¬ (j = -1 ∨ p1 = j) from fun h => h.elim B2 B4)
                clear B2 B4
                have HE := Lib.hid (show isP a j s ⟨p0, p1, p2, p3⟩ = false from decide_eq_false fun h => BE.out h.2.1)
                go_wp2_with fail
                go_meet
                exact ⟨rfl, by rw [HE.out], rfl⟩
            · have AE := Lib.hid (show a = -1 ∨ p0 = a from .inr A3)
              clear A3
              rcases eq_tri j p1 with ⟨B1, B2⟩ | ⟨B1, -, B2, B3⟩ | ⟨B1, B2, B3, B4⟩
              · have BE := Lib.hid (show j = -1 ∨ p1 = j from .inl B2)
                clear B2
                rcases eq_tri s p2 with ⟨C1, C2⟩ | ⟨C1, -, C2, C3⟩ | ⟨C1, C2, C3, C4⟩
                · have CE := Lib.hid (show s = -1 ∨ p2 = s from .inl C2)
                  clear C2
                  have HE := Lib.hid (show isP a j s ⟨p0, p1, p2, p3⟩ = true from decide_eq_true ⟨AE.out, BE.out, CE.out⟩)
                  go_wp2_with fail
                  go_meet
                  exact ⟨rfl, by rw [HE.out], rfl⟩
                · have CE := Lib.hid (show s = -1 ∨ p2 = s from .inr C3)
                  clear C3
                  have HE := Lib.hid (show isP a j s ⟨p0, p1, p2, p3⟩ = true from decide_eq_true ⟨AE.out, BE.out, CE.out⟩)
                  go_wp2_with fail
                  go_meet
                  exact ⟨rfl, by rw [HE.out], rfl⟩
                · have CE := Lib.hid (show ¬ (s = -1 ∨ p2 = s) from fun h => h.elim C2 C4)
                  clear C2 C4
                  have HE := Lib.hid (show isP a j s ⟨p0, p1, p2, p3⟩ = false from decide_eq_false fun h => CE.out h.2.2)
                  go_wp2_with fail
                  go_meet
                  exact ⟨rfl, by rw [HE.out], rfl⟩
              · have BE := Lib.hid (show j = -1 ∨ p1 = j from .inr B3)
                clear B3
                rcases eq_tri s p2 with ⟨C1, C2⟩ | ⟨C1, -, C2, C3⟩ | ⟨C1, C2, C3, C4⟩
                · have CE := Lib.hid (show s = -1 ∨ p2 = s from .inl C2)
                  clear C2
                  have HE := Lib.hid (show isP a j s ⟨p0, p1, p2, p3⟩ = true from decide_eq_true ⟨AE.out, BE.out, CE.out⟩)
                  go_wp2_with fail
                  go_meet
                  exact ⟨rfl, by rw [HE.out], rfl⟩
                · have CE := Lib.hid (show s = -1 ∨ p2 = s from .inr C3)
                  clear C3
                  have HE := Lib.hid (show isP a j s ⟨p0, p1, p2, p3⟩ = true from decide_eq_true ⟨AE.out, BE.out, CE.out⟩)
                  go_wp2_with fail
                  go_meet
                  exact ⟨rfl, by rw [HE.out], rfl⟩
                · have CE := Lib.hid (show ¬ (s = -1 ∨ p2 = s) from fun h => h.elim C2 C4)
                  clear C2 C4
                  have HE := Lib.hid (show isP a j s ⟨p0, p1, p2, p3⟩ = false from decide_eq_false fun h => CE.out h.2.2)
                  go_wp2_with fail
                  go_meet
                  exact ⟨rfl, by rw [HE.out], rfl⟩
              · have BE := Lib.hid (show ¬ (j = -1 ∨ p1 = j) from fun h => h.elim B2 B4)
                clear B2 B4
                have HE := Lib.hid (show isP a j s ⟨p0, p1, p2, p3⟩ = false from decide_eq_false fun h => BE.out h.2.1)
                go_wp2_with fail
                go_meet
                exact ⟨rfl, by rw [HE.out], rfl⟩
            · have AE := Lib.hid (show ¬ (a = -1 ∨ p0 = a) from fun h => h.elim A2 A4)
              clear A2 A4
              have HE := Lib.hid (show isP a j s ⟨p0, p1, p2, p3⟩ = false from decide_eq_false fun h => AE.out h.1)
              go_wp2_with fail
              go_meet
              exact ⟨rfl, by rw [HE.out], rfl⟩
          case rest =>
            obtain ⟨rfl, rfl, rfl⟩ := hcut
            cases hip : isP a j s ⟨p0, p1, p2, p3⟩ with
            | false =>
              rw [hip, if_neg (by decide)] at HT
              clear hip
              go_wp2_with fail
              go_roundw
              case rel => exact ⟨k + 1, by omega, by go_num, by unfold SelR; rw [HT.out]; exact ⟨HOA.out, HLL.out⟩⟩
              case measure => simp [intOf]; omega
            | true =>
              rw [hip, if_pos rfl] at HT
              have hs9 := HLL.out.size
              clear hip
              go_wp2_with (at_builtin; refine wpList_app eltP rfl (.tmp 77) (.tmp 79) rfl w.heap.size _ _ _ rfl HOA.out [.int .i64 p0, .int .i64 p1, .int .i64 p2, .int .i64 p3] rfl (by intro u hu; simp at hu; rcases hu with rfl | rfl | rfl | rfl <;> rfl) rfl rfl HML.out hs9 ?_)
              intro v' w9 ho9 hb9 _
              have HO9 := Lib.hid (show OwnPpl w9 w.heap.size v' (M ++ [⟨p0, p1, p2, p3⟩]) by unfold OwnPpl; rw [pc_snoc, List.length_append, List.length_singleton]; exact ho9)
              have HB9 := Lib.hid (HLL.out.trans hb9)
              clear ho9 hb9
              go_wp2_with fail
              go_roundw
              case rel => exact ⟨k + 1, by omega, by go_num, by unfold SelR; rw [HT.out]; exact ⟨HO9.out, HB9.out⟩⟩
              case measure => simp [intOf]; omega
        · obtain rfl : k = L.length := by omega
          rw [List.take_length] at hown
          have HO := Lib.hid hown
          obtain ⟨aM, bM, cM, hvM, -, -, -, -⟩ := hown.ppl
          subst hvM
          clear hown hb
          go_wp2_with fail
          go_ret2
          exact ⟨HB.out, .inr ⟨HASK.out, _, rfl, HO.out⟩⟩

set_option maxHeartbeats 2000000 in
theorem manyI (ao : Option Addr) (b off cap : Nat) (L : List Per) (a j s : Int) (w : World) (hr : Ppl w ao b off L) (hv : pplB L = true) :
    Calls Tryz.prog 71 #[.slice ao L.length cap, .int .i64 a, .int .i64 j, .int .i64 s] w fun e w' => e = .returned (.int .i64 (manyP L a j s)) ∧ Below w.heap.size w w' := by
  have HM := Lib.hid (show ∀ z, askB a j s = z → manyP L a j s = if z then ((L.filter (isP a j s)).length : Int) else -1 from fun z hz => by unfold manyP; rw [hv, hz]; rfl)
  have HC := Lib.hid (selI ao b off cap L a j s w hr hv)
  clear hr hv
  go_enter Tryz.func71, Tryz.ntmps71
  go_wp2_with fail
  refine (HC.out).mono ?_
  rintro e w1 ⟨hb, ⟨hk, rfl⟩ | ⟨hk, v, rfl, ho⟩⟩
  · have HB := Lib.hid hb
    have HN := Lib.hid (HM.out _ hk)
    clear hb hk
    go_wp2_with fail
    go_ret
    exact ⟨by rw [HN.out]; rfl, HB.out⟩
  · have HB := Lib.hid hb
    have HN := Lib.hid (HM.out _ hk)
    obtain ⟨aM, bM, cM, rfl, -, -, -, -⟩ := ho.ppl
    clear hb hk ho
    go_wp2_with fail
    go_ret
    exact ⟨by rw [HN.out]; rfl, HB.out⟩

theorem pays_take {L : List Per} {k : Nat} (hk : k < L.length) : pays (L.take (k + 1)) = pays (L.take k) + (L.getD k per0).pay := by
  rw [← pays_snoc]
  congr 1
  rw [List.take_add_one, List.getD_eq_getElem?_getD, List.getElem?_eq_getElem hk]
  rfl

set_option maxHeartbeats 2000000 in
theorem payI (ao : Option Addr) (b off cap : Nat) (L : List Per) (a j s : Int) (w : World) (hr : Ppl w ao b off L) (hv : pplB L = true) :
    Calls Tryz.prog 17 #[.slice ao L.length cap, .int .i64 a, .int .i64 j, .int .i64 s] w fun e w' => e = .returned (.int .i64 (payP L a j s)) ∧ Below w.heap.size w w' := by
  have HM := Lib.hid (show ∀ z, askB a j s = z → payP L a j s = if z then pays (L.filter (isP a j s)) else -1 from fun z hz => by unfold payP; rw [hv, hz]; rfl)
  have HC := Lib.hid (selI ao b off cap L a j s w hr hv)
  have hall : ∀ p ∈ L.filter (isP a j s), PerOk p := fun p hp => ppl_all hv p (List.mem_filter.1 hp).1
  have hlen : (L.filter (isP a j s)).length ≤ 40 := Nat.le_trans (List.length_filter_le _ _) (ppl_t.1 hv).1
  clear hr hv
  go_enter Tryz.func17, Tryz.ntmps17
  go_wp2_with fail
  refine (HC.out).mono ?_
  rintro e w1 ⟨hb, ⟨hk, rfl⟩ | ⟨hk, v, rfl, ho⟩⟩
  · have HB := Lib.hid hb
    have HN := Lib.hid (HM.out _ hk)
    clear hb hk
    go_wp2_with fail
    go_ret
    exact ⟨by rw [HN.out]; rfl, HB.out⟩
  · have HB := Lib.hid hb
    have HN := Lib.hid (HM.out _ hk)
    obtain ⟨aM, bM, cM, rfl, -, -, -, hpl⟩ := ho.ppl
    obtain ⟨M, hM⟩ : ∃ M, L.filter (isP a j s) = M := ⟨_, rfl⟩
    rw [hM] at hpl HN hall hlen ⊢
    have HP := Lib.hid hpl
    have HA := Lib.hid hall
    have hsw := hb.size
    clear hb hk ho hM hpl hall HC HM
    go_wp2_with fail
    go_loopw [11, 26] (fun v i wr => ∃ k : Nat, k ≤ M.length ∧ i = .int .i64 k ∧ v = .int .i64 (pays (M.take k)) ∧ Below w1.heap.size w1 wr) (fun _ i _ => M.length - (intOf i).toNat)
    case atStart => exact ⟨0, Nat.zero_le _, rfl, rfl, Below.refl _ _⟩
    case round =>
      obtain ⟨k, hk, rfl, rfl, hb⟩ := hrel
      have HBR := Lib.hid hb
      have hsr := hb.size
      by_cases hlt : k < M.length
      · have h2 := (HP.out.keep HBR.out (Nat.le_refl _)).2 k hlt
        obtain rfl := HP.out.1 (by omega)
        have HT := Lib.hid (pays_take hlt)
        have hpok := HA.out (M.getD k per0) (by rw [List.getD_eq_getElem?_getD, List.getElem?_eq_getElem hlt]; exact List.getElem_mem hlt)
        have hle := pays_le (M.take k) fun p hp => HA.out p (List.mem_of_mem_take hp)
        rw [List.length_take] at hle
        obtain ⟨p, hp⟩ : ∃ p, M.getD k per0 = p := ⟨_, rfl⟩
        rw [hp] at h2 HT hpok
        obtain ⟨q, hq⟩ : ∃ q, pays (M.take k) = q := ⟨_, rfl⟩
        rw [hq] at HT hle ⊢
        clear hp hq hb
        obtain ⟨p0, p1, p2, p3⟩ := p
        obtain ⟨c0, c1, c2, c3⟩ := h2
        unfold PerOk at hpok
        simp only [Nat.zero_add] at c0 c1 c2 c3 hpok HT
        have hwr : IntKind.i64.wrap (q + p3) = q + p3 := IntWalk.i64_in _ ⟨by omega, by omega⟩
        go_wp2_with fail
        go_roundw
        case rel => exact ⟨k + 1, by omega, by go_num, by rw [HT.out], HBR.out.alloc hsr _⟩
        case measure => simp [intOf]; omega
      · obtain rfl : k = M.length := by omega
        have HN2 := HN.out
        rw [List.take_length]
        clear hb
        go_wp2_with fail
        go_ret
        exact ⟨by rw [HN2]; rfl, HB.out.trans (HBR.out.mono hsw)⟩
end Go.Proofs.YtcjhenfofekofaaGreatDoor
