/-
  Joined: Sel, SelS, RndS, SmallS, CopyS2, Count, CutS, NumS2, Drop, DrawV, DropS, GroupM.
-/
import Derived.Test.YtlmlchkolcmhpaaGreatDoorJ2
import Derived.Test.YtlmlchkolcmhpaaGreatDoorJ3
import Derived.Deep.CutRange
import Derived.IntWalk
import Derived.Carry
import Derived.Test.YtlmlchkolcmhpaaGreatDoorJ1
import Derived.Test.YtlmlchkolcmhpaaGreatDoorJ5
import Derived.Test.YtlmlchkolcmhpaaGreatDoorJ4
import Derived.StillTailTactics
import Derived.Deep.RegionWith
import Derived.Maps.OwnSet
import Derived.Maps.Views

section
/-
  Contracts: impl.selected, impl.PeopleMany, impl.PeoplePay, of valid people.
-/
namespace Go.Proofs.YtlmlchkolcmhpaaGreatDoor
open Go.RowKit

theorem ne_tri (a : Int) (q : Prop) [Decidable q] : ((a != -1) = false ∧ a = -1) ∨ ((a != -1) = true ∧ a ≠ -1 ∧ q) ∨ ((a != -1) = true ∧ a ≠ -1 ∧ ¬ q) := by
  by_cases h : a = -1
  · exact .inl ⟨by simp [h], h⟩
  · by_cases hq : q
    · exact .inr (.inl ⟨by simp [h], h, hq⟩)
    · exact .inr (.inr ⟨by simp [h], h, hq⟩)
theorem eq_tri (a x : Int) : ((a == -1) = true ∧ a = -1) ∨ ((a == -1) = false ∧ a ≠ -1 ∧ (x == a) = true ∧ x = a) ∨ ((a == -1) = false ∧ a ≠ -1 ∧ (x == a) = false ∧ x ≠ a) := by
  by_cases h : a = -1
  · exact .inl ⟨by simp [h], h⟩
  · by_cases hx : x = a
    · exact .inr (.inl ⟨by simp [h], h, by simp [hx], hx⟩)
    · exact .inr (.inr ⟨by simp [h], h, by simp [hx], hx⟩)

/-- The people chosen among the first k. -/
def SelR (w : World) (L : List Per) (a j s : Int) (k : Nat) (v : Value) (wr : World) : Prop := OwnPpl wr w.heap.size v ((L.take k).filter (isP a j s)) ∧ Below w.heap.size w wr
theorem filter_take {L : List Per} {k : Nat} (hk : k < L.length) (f : Per → Bool) : (L.take (k + 1)).filter f = if f (L.getD k per0) then (L.take k).filter f ++ [L.getD k per0] else (L.take k).filter f := by
  rw [List.take_add_one, List.getElem?_eq_getElem hk, Option.toList_some, List.filter_append, List.getD_eq_getElem?_getD, List.getElem?_eq_getElem hk, Option.getD_some]
  cases h : f L[k] <;> simp [h]

set_option maxRecDepth 100000 in
set_option maxHeartbeats 4000000 in
theorem selI (ao : Option Addr) (b off cap : Nat) (L : List Per) (a j s : Int) (w : World) (hr : Ppl w ao b off L) (hv : pplB L = true) :
    Calls Tryz.prog 74 #[.slice ao L.length cap, .int .i64 a, .int .i64 j, .int .i64 s] w fun e w' => Below w.heap.size w w' ∧
      ((askB a j s = false ∧ e = .returned (.tuple #[.slice none 0 0, .bool false])) ∨ (askB a j s = true ∧ ∃ v, e = .returned (.tuple #[v, .bool true]) ∧ OwnPpl w' w.heap.size v (L.filter (isP a j s)))) := by
  have h40 := (ppl_t.1 hv).1
  have HV := Lib.hid hv
  have HR := Lib.hid hr
  have HC := Lib.hid (peopleI ao b off cap L w hr (by omega))
  clear hr hv
  go_enter Tryz.func74, Tryz.ntmps74
  go_upto_region 1 with fail
  go_cut [42] from 13 to 41 (fun t wx => t = .bool (!askB a j s) ∧ Below w.heap.size w wx)
  case first =>
    go_wp2_with fail
    refine (HC.out).mono ?_
    rintro e w1 ⟨rfl, hb1⟩
    rw [HV.out]
    have HB1 := Lib.hid hb1
    clear hb1 HC
    rcases ne_tri a (0 ≤ a ∧ a ≤ 3) with ⟨A1, A2⟩ | ⟨A1, A2, A3⟩ | ⟨A1, A2, A3⟩
    · have AE := Lib.hid A2
      clear A2
      rcases ne_tri j (0 ≤ j ∧ j ≤ 3) with ⟨B1, B2⟩ | ⟨B1, B2, B3⟩ | ⟨B1, B2, B3⟩
      · have BE := Lib.hid B2
        clear B2
        rcases ne_tri s (0 ≤ s ∧ s ≤ 1) with ⟨C1, C2⟩ | ⟨C1, C2, C3⟩ | ⟨C1, C2, C3⟩
        · have CE := Lib.hid C2
          clear C2
          have HE := Lib.hid (show askB a j s = true from decide_eq_true ⟨.inl AE.out, .inl BE.out, .inl CE.out⟩)
          go_wp2_with fail
          go_meet
          exact ⟨by rw [HE.out]; rfl, HB1.out⟩
        · have CE := Lib.hid C3
          clear C2 C3
          go_wp2_with fail
          refine (isSex_any s _).mono ?_
          rintro e w2 ⟨rfl, rfl⟩
          rw [dec_t CE.out]
          have HE := Lib.hid (show askB a j s = true from decide_eq_true ⟨.inl AE.out, .inl BE.out, .inr CE.out⟩)
          go_wp2_with fail
          go_meet
          exact ⟨by rw [HE.out]; rfl, HB1.out⟩
        · have CE := Lib.hid (show ¬ (s = -1 ∨ (0 ≤ s ∧ s ≤ 1)) from fun h => h.elim C2 C3)
          have CF := Lib.hid C3
          clear C2 C3
          go_wp2_with fail
          refine (isSex_any s _).mono ?_
          rintro e w2 ⟨rfl, rfl⟩
          rw [dec_f CF.out]
          have HE := Lib.hid (show askB a j s = false from decide_eq_false fun h => CE.out h.2.2)
          go_wp2_with fail
          go_meet
          exact ⟨by rw [HE.out]; rfl, HB1.out⟩
      · have BE := Lib.hid B3
        clear B2 B3
        go_wp2_with fail
        refine (isCode_any j _).mono ?_
        rintro e w2 ⟨rfl, rfl⟩
        rw [dec_t BE.out]
        rcases ne_tri s (0 ≤ s ∧ s ≤ 1) with ⟨C1, C2⟩ | ⟨C1, C2, C3⟩ | ⟨C1, C2, C3⟩
        · have CE := Lib.hid C2
          clear C2
          have HE := Lib.hid (show askB a j s = true from decide_eq_true ⟨.inl AE.out, .inr BE.out, .inl CE.out⟩)
          go_wp2_with fail
          go_meet
          exact ⟨by rw [HE.out]; rfl, HB1.out⟩
        · have CE := Lib.hid C3
          clear C2 C3
          go_wp2_with fail
          refine (isSex_any s _).mono ?_
          rintro e w2 ⟨rfl, rfl⟩
          rw [dec_t CE.out]
          have HE := Lib.hid (show askB a j s = true from decide_eq_true ⟨.inl AE.out, .inr BE.out, .inr CE.out⟩)
          go_wp2_with fail
          go_meet
          exact ⟨by rw [HE.out]; rfl, HB1.out⟩
        · have CE := Lib.hid (show ¬ (s = -1 ∨ (0 ≤ s ∧ s ≤ 1)) from fun h => h.elim C2 C3)
          have CF := Lib.hid C3
          clear C2 C3
          go_wp2_with fail
          refine (isSex_any s _).mono ?_
          rintro e w2 ⟨rfl, rfl⟩
          rw [dec_f CF.out]
          have HE := Lib.hid (show askB a j s = false from decide_eq_false fun h => CE.out h.2.2)
          go_wp2_with fail
          go_meet
          exact ⟨by rw [HE.out]; rfl, HB1.out⟩
      · have BE := Lib.hid (show ¬ (j = -1 ∨ (0 ≤ j ∧ j ≤ 3)) from fun h => h.elim B2 B3)
        have BF := Lib.hid B3
        clear B2 B3
        go_wp2_with fail
        refine (isCode_any j _).mono ?_
        rintro e w2 ⟨rfl, rfl⟩
        rw [dec_f BF.out]
        have HE := Lib.hid (show askB a j s = false from decide_eq_false fun h => BE.out h.2.1)
        go_wp2_with fail
        go_meet
        exact ⟨by rw [HE.out]; rfl, HB1.out⟩
    · have AE := Lib.hid A3
      clear A2 A3
      go_wp2_with fail
      refine (isCode_any a _).mono ?_
      rintro e w2 ⟨rfl, rfl⟩
      rw [dec_t AE.out]
      rcases ne_tri j (0 ≤ j ∧ j ≤ 3) with ⟨B1, B2⟩ | ⟨B1, B2, B3⟩ | ⟨B1, B2, B3⟩
      · have BE := Lib.hid B2
        clear B2
        rcases ne_tri s (0 ≤ s ∧ s ≤ 1) with ⟨C1, C2⟩ | ⟨C1, C2, C3⟩ | ⟨C1, C2, C3⟩
        · have CE := Lib.hid C2
          clear C2
          have HE := Lib.hid (show askB a j s = true from decide_eq_true ⟨.inr AE.out, .inl BE.out, .inl CE.out⟩)
          go_wp2_with fail
          go_meet
          exact ⟨by rw [HE.out]; rfl, HB1.out⟩
        · have CE := Lib.hid C3
          clear C2 C3
          go_wp2_with fail
          refine (isSex_any s _).mono ?_
          rintro e w2 ⟨rfl, rfl⟩
          rw [dec_t CE.out]
          have HE := Lib.hid (show askB a j s = true from decide_eq_true ⟨.inr AE.out, .inl BE.out, .inr CE.out⟩)
          go_wp2_with fail
          go_meet
          exact ⟨by rw [HE.out]; rfl, HB1.out⟩
        · have CE := Lib.hid (show ¬ (s = -1 ∨ (0 ≤ s ∧ s ≤ 1)) from fun h => h.elim C2 C3)
          have CF := Lib.hid C3
          clear C2 C3
          go_wp2_with fail
          refine (isSex_any s _).mono ?_
          rintro e w2 ⟨rfl, rfl⟩
          rw [dec_f CF.out]
          have HE := Lib.hid (show askB a j s = false from decide_eq_false fun h => CE.out h.2.2)
          go_wp2_with fail
          go_meet
          exact ⟨by rw [HE.out]; rfl, HB1.out⟩
      · have BE := Lib.hid B3
        clear B2 B3
        go_wp2_with fail
        refine (isCode_any j _).mono ?_
        rintro e w2 ⟨rfl, rfl⟩
        rw [dec_t BE.out]
        rcases ne_tri s (0 ≤ s ∧ s ≤ 1) with ⟨C1, C2⟩ | ⟨C1, C2, C3⟩ | ⟨C1, C2, C3⟩
        · have CE := Lib.hid C2
          clear C2
          have HE := Lib.hid (show askB a j s = true from decide_eq_true ⟨.inr AE.out, .inr BE.out, .inl CE.out⟩)
          go_wp2_with fail
          go_meet
          exact ⟨by rw [HE.out]; rfl, HB1.out⟩
        · have CE := Lib.hid C3
          clear C2 C3
          go_wp2_with fail
          refine (isSex_any s _).mono ?_
          rintro e w2 ⟨rfl, rfl⟩
          rw [dec_t CE.out]
          have HE := Lib.hid (show askB a j s = true from decide_eq_true ⟨.inr AE.out, .inr BE.out, .inr CE.out⟩)
          go_wp2_with fail
          go_meet
          exact ⟨by rw [HE.out]; rfl, HB1.out⟩
        · have CE := Lib.hid (show ¬ (s = -1 ∨ (0 ≤ s ∧ s ≤ 1)) from fun h => h.elim C2 C3)
          have CF := Lib.hid C3
          clear C2 C3
          go_wp2_with fail
          refine (isSex_any s _).mono ?_
          rintro e w2 ⟨rfl, rfl⟩
          rw [dec_f CF.out]
          have HE := Lib.hid (show askB a j s = false from decide_eq_false fun h => CE.out h.2.2)
          go_wp2_with fail
          go_meet
          exact ⟨by rw [HE.out]; rfl, HB1.out⟩
      · have BE := Lib.hid (show ¬ (j = -1 ∨ (0 ≤ j ∧ j ≤ 3)) from fun h => h.elim B2 B3)
        have BF := Lib.hid B3
        clear B2 B3
        go_wp2_with fail
        refine (isCode_any j _).mono ?_
        rintro e w2 ⟨rfl, rfl⟩
        rw [dec_f BF.out]
        have HE := Lib.hid (show askB a j s = false from decide_eq_false fun h => BE.out h.2.1)
        go_wp2_with fail
        go_meet
        exact ⟨by rw [HE.out]; rfl, HB1.out⟩
    · have AE := Lib.hid (show ¬ (a = -1 ∨ (0 ≤ a ∧ a ≤ 3)) from fun h => h.elim A2 A3)
      have AF := Lib.hid A3
      clear A2 A3
      go_wp2_with fail
      refine (isCode_any a _).mono ?_
      rintro e w2 ⟨rfl, rfl⟩
      rw [dec_f AF.out]
      have HE := Lib.hid (show askB a j s = false from decide_eq_false fun h => AE.out h.1)
      go_wp2_with fail
      go_meet
      exact ⟨by rw [HE.out]; rfl, HB1.out⟩
  case rest =>
    obtain ⟨rfl, hbc⟩ := hcut
    have HBC := Lib.hid hbc
    have hsc := hbc.size
    clear hbc HC
    cases hask : askB a j s with
    | false =>
      have HASK := Lib.hid hask
      clear hask
      go_wp2_with fail
      go_ret2
      exact ⟨HBC.out, .inl ⟨HASK.out, rfl⟩⟩
    | true =>
      have HASK := Lib.hid hask
      clear hask
      simp only [Bool.not_true]
      go_wp2_with fail
      go_loopw [10, 45] (fun v i wr => ∃ k : Nat, k ≤ L.length ∧ i = .int .i64 k ∧ SelR w L a j s k v wr) (fun _ i _ => L.length - (intOf i).toNat)
      case atStart => exact ⟨0, Nat.zero_le _, rfl, World.ownsRow_nil _ _ _ _, HBC.out⟩
      case round =>
        obtain ⟨k, hk, rfl, hown, hb⟩ := hrel
        have HB := Lib.hid hb
        have hsw := hb.size
        by_cases hlt : k < L.length
        · have h2 := (HR.out.keep HB.out (Nat.le_refl _)).2 k hlt
          obtain rfl := HR.out.1 (by omega)
          have HT := Lib.hid (filter_take hlt (isP a j s))
          obtain ⟨p, hp⟩ : ∃ p, L.getD k per0 = p := ⟨_, rfl⟩
          rw [hp] at h2 HT
          clear hp
          obtain ⟨p0, p1, p2, p3⟩ := p
          obtain ⟨c0, c1, c2, c3⟩ := h2
          simp only at c0 c1 c2 c3
          obtain ⟨M, hM⟩ : ∃ M, (L.take k).filter (isP a j s) = M := ⟨_, rfl⟩
          have hml : M.length ≤ 40 := by rw [← hM]; have h1 := List.length_filter_le (isP a j s) (L.take k); rw [List.length_take] at h1; omega
          rw [hM] at hown HT
          have HO := Lib.hid hown
          obtain ⟨aM, bM, cM, hvM, -, -, -, -⟩ := hown.ppl
          subst hvM
          have HML := Lib.hid (show M.length ≤ 1000000000 by omega)
          have HLL := Lib.hid (show Below w.heap.size w (wr.alloc (.cells #[.int .i64 p0, .int .i64 p1, .int .i64 p2, .int .i64 p3] 69)) from HB.out.alloc hsw _)
          have HOA := Lib.hid (show OwnPpl (wr.alloc (.cells #[.int .i64 p0, .int .i64 p1, .int .i64 p2, .int .i64 p3] 69)) w.heap.size (.slice aM M.length cM) M from World.ownsRow.alloc hown _)
          clear hown hb hM
          go_upto_region 7 with fail
          obtain ⟨V, hV⟩ : ∃ V, wr.alloc (.cells #[.int .i64 p0, .int .i64 p1, .int .i64 p2, .int .i64 p3] 69) = V := ⟨_, rfl⟩
          have v0 : V.cell? ⟨wr.heap.size, 0, none⟩ = some (.int .i64 p0) := by rw [← hV, World.cell?_alloc_new]; rfl
          have v1 : V.cell? ⟨wr.heap.size, 1, none⟩ = some (.int .i64 p1) := by rw [← hV, World.cell?_alloc_new]; rfl
          have v2 : V.cell? ⟨wr.heap.size, 2, none⟩ = some (.int .i64 p2) := by rw [← hV, World.cell?_alloc_new]; rfl
          have v3 : V.cell? ⟨wr.heap.size, 3, none⟩ = some (.int .i64 p3) := by rw [← hV, World.cell?_alloc_new]; rfl
          rw [hV] at HLL HOA ⊢
          clear hV c0 c1 c2 c3
          go_cut [45, 76] from 45 to 81 (fun i t wx => i = .int .i64 k ∧ t = .bool (isP a j s ⟨p0, p1, p2, p3⟩) ∧ wx = V)
          case first =>
            rcases eq_tri a p0 with ⟨A1, A2⟩ | ⟨A1, -, A2, A3⟩ | ⟨A1, A2, A3, A4⟩
            · have AE := Lib.hid (show a = -1 ∨ p0 = a from .inl A2)
              clear A2
              rcases eq_tri j p1 with ⟨B1, B2⟩ | ⟨B1, -, B2, B3⟩ | ⟨B1, B2, B3, B4⟩
              · have BE := Lib.hid (show j = -1 ∨ p1 = j from .inl B2)
                clear B2
                rcases eq_tri s p2 with ⟨C1, C2⟩ | ⟨C1, -, C2, C3⟩ | ⟨C1, C2, C3, C4⟩
                · have CE := Lib.hid (show s = -1 ∨ p2 = s from .inl C2)
                  clear C2
                  have HE := Lib.hid (show isP a j s ⟨p0, p1, p2, p3⟩ = true from decide_eq_true ⟨AE.out, BE.out, CE.out⟩)
                  go_wp2_with fail
                  go_meet
                  exact ⟨rfl, by rw [HE.out], rfl⟩
                · have CE := Lib.hid (show s = -1 ∨ p2 = s from .inr C3)
                  clear C3
                  have HE := Lib.hid (show isP a j s ⟨p0, p1, p2, p3⟩ = true from decide_eq_true ⟨AE.out, BE.out, CE.out⟩)
                  go_wp2_with fail
                  go_meet
                  exact ⟨rfl, by rw [HE.out], rfl⟩
                · have CE := Lib.hid (show ¬ (s = -1 ∨ p2 = s) from fun h => h.elim C2 C4)
                  clear C2 C4
                  have HE := Lib.hid (show isP a j s ⟨p0, p1, p2, p3⟩ = false from decide_eq_false fun h => CE.out h.2.2)
                  go_wp2_with fail
                  go_meet
                  exact ⟨rfl, by rw [HE.out], rfl⟩
              · have BE := Lib.hid (show j = -1 ∨ p1 = j from .inr B3)
                clear B3
                rcases eq_tri s p2 with ⟨C1, C2⟩ | ⟨C1, -, C2, C3⟩ | ⟨C1, C2, C3, C4⟩
                · have CE := Lib.hid (show s = -1 ∨ p2 = s from .inl C2)
                  clear C2
                  have HE := Lib.hid (show isP a j s ⟨p0, p1, p2, p3⟩ = true from decide_eq_true ⟨AE.out, BE.out, CE.out⟩)
                  go_wp2_with fail
                  go_meet
                  exact ⟨rfl, by rw [HE.out], rfl⟩
                · have CE := Lib.hid (show s = -1 ∨ p2 = s from .inr C3)
                  clear C3
                  have HE := Lib.hid (show isP a j s ⟨p0, p1, p2, p3⟩ = true from decide_eq_true ⟨AE.out, BE.out, CE.out⟩)
                  go_wp2_with fail
                  go_meet
                  exact ⟨rfl, by rw [HE.out], rfl⟩
                · have CE := Lib.hid (show ¬ (s = -1 ∨ p2 = s) from fun h => h.elim C2 C4)
                  clear C2 C4
                  have HE := Lib.hid (show isP a j s ⟨p0, p1, p2, p3⟩ = false from decide_eq_false fun h => CE.out h.2.2)
                  go_wp2_with fail
                  go_meet
                  exact ⟨rfl, by rw [HE.out], rfl⟩
              · have BE := Lib.hid (show ¬ (j = -1 ∨ p1 = j) from fun h => h.elim B2 B4)
                clear B2 B4
                have HE := Lib.hid (show isP a j s ⟨p0, p1, p2, p3⟩ = false from decide_eq_false fun h => BE.out h.2.1)
                go_wp2_with fail
                go_meet
                exact ⟨rfl, by rw [HE.out], rfl⟩
            · have AE := Lib.hid (show a = -1 ∨ p0 = a from .inr A3)
              clear A3
              rcases eq_tri j p1 with ⟨B1, B2⟩ | ⟨B1, -, B2, B3⟩ | ⟨B1, B2, B3, B4⟩
              · have BE := Lib.hid (show j = -1 ∨ p1 = j from .inl B2)
                clear B2
                rcases eq_tri s p2 with ⟨C1, C2⟩ | ⟨C1, -, C2, C3⟩ | ⟨C1, C2, C3, C4⟩
                · have CE := Lib.hid (show s = -1 ∨ p2 = s from .inl C2)
                  clear C2
                  have HE := Lib.hid (show isP a j s ⟨p0, p1, p2, p3⟩ = true from decide_eq_true ⟨AE.out, BE.out, CE.out⟩)
                  go_wp2_with fail
                  go_meet
                  exact ⟨rfl, by rw [HE.out], rfl⟩
                · have CE := Lib.hid (show s = -1 ∨ p2 = s from .inr C3)
                  clear C3
                  have HE := Lib.hid (show isP a j s ⟨p0, p1, p2, p3⟩ = true from decide_eq_true ⟨AE.out, BE.out, CE.out⟩)
                  go_wp2_with fail
                  go_meet
                  exact ⟨rfl, by rw [HE.out], rfl⟩
                · have CE := Lib.hid (show ¬ (s = -1 ∨ p2 = s) from fun h => h.elim C2 C4)
                  clear C2 C4
                  have HE := Lib.hid (show isP a j s ⟨p0, p1, p2, p3⟩ = false from decide_eq_false fun h => CE.out h.2.2)
                  go_wp2_with fail
                  go_meet
                  exact ⟨rfl, by rw [HE.out], rfl⟩
              · have BE := Lib.hid (show j = -1 ∨ p1 = j from .inr B3)
                clear B3
                rcases eq_tri s p2 with ⟨C1, C2⟩ | ⟨C1, -, C2, C3⟩ | ⟨C1, C2, C3, C4⟩
                · have CE := Lib.hid (show s = -1 ∨ p2 = s from .inl C2)
                  clear C2
                  have HE := Lib.hid (show isP a j s ⟨p0, p1, p2, p3⟩ = true from decide_eq_true ⟨AE.out, BE.out, CE.out⟩)
                  go_wp2_with fail
                  go_meet
                  exact ⟨rfl, by rw [HE.out], rfl⟩
                · have CE := Lib.hid (show s = -1 ∨ p2 = s from .inr C3)
                  clear C3
                  have HE := Lib.hid (show isP a j s ⟨p0, p1, p2, p3⟩ = true from decide_eq_true ⟨AE.out, BE.out, CE.out⟩)
                  go_wp2_with fail
                  go_meet
                  exact ⟨rfl, by rw [HE.out], rfl⟩
                · have CE := Lib.hid (show ¬ (s = -1 ∨ p2 = s) from fun h => h.elim C2 C4)
                  clear C2 C4
                  have HE := Lib.hid (show isP a j s ⟨p0, p1, p2, p3⟩ = false from decide_eq_false fun h => CE.out h.2.2)
                  go_wp2_with fail
                  go_meet
                  exact ⟨rfl, by rw [HE.out], rfl⟩
              · have BE := Lib.hid (show ¬ (j = -1 ∨ p1 = j) from fun h => h.elim B2 B4)
                clear B2 B4
                have HE := Lib.hid (show isP a j s ⟨p0, p1, p2, p3⟩ = false from decide_eq_false fun h => BE.out h.2.1)
                go_wp2_with fail
                go_meet
                exact ⟨rfl, by rw [HE.out], rfl⟩
            · have AE := Lib.hid (show ¬ (a = -1 ∨ p0 = a) from fun h => h.elim A2 A4)
              clear A2 A4
              have HE := Lib.hid (show isP a j s ⟨p0, p1, p2, p3⟩ = false from decide_eq_false fun h => AE.out h.1)
              go_wp2_with fail
              go_meet
              exact ⟨rfl, by rw [HE.out], rfl⟩
          case rest =>
            obtain ⟨rfl, rfl, rfl⟩ := hcut
            cases hip : isP a j s ⟨p0, p1, p2, p3⟩ with
            | false =>
              rw [hip, if_neg (by decide)] at HT
              clear hip
              go_wp2_with fail
              go_roundw
              case rel => exact ⟨k + 1, by omega, by go_num, by unfold SelR; rw [HT.out]; exact ⟨HOA.out, HLL.out⟩⟩
              case measure => simp [intOf]; omega
            | true =>
              rw [hip, if_pos rfl] at HT
              have hs9 := HLL.out.size
              clear hip
              go_wp2_with (at_builtin; refine wpList_app eltP rfl (.tmp 77) (.tmp 79) rfl w.heap.size _ _ _ rfl HOA.out [.int .i64 p0, .int .i64 p1, .int .i64 p2, .int .i64 p3] rfl (by intro u hu; simp at hu; rcases hu with rfl | rfl | rfl | rfl <;> rfl) rfl rfl HML.out hs9 ?_)
              intro v' w9 ho9 hb9 _
              have HO9 := Lib.hid (show OwnPpl w9 w.heap.size v' (M ++ [⟨p0, p1, p2, p3⟩]) by unfold OwnPpl; rw [pc_snoc, List.length_append, List.length_singleton]; exact ho9)
              have HB9 := Lib.hid (HLL.out.trans hb9)
              clear ho9 hb9
              go_wp2_with fail
              go_roundw
              case rel => exact ⟨k + 1, by omega, by go_num, by unfold SelR; rw [HT.out]; exact ⟨HO9.out, HB9.out⟩⟩
              case measure => simp [intOf]; omega
        · obtain rfl : k = L.length := by omega
          rw [List.take_length] at hown
          have HO := Lib.hid hown
          obtain ⟨aM, bM, cM, hvM, -, -, -, -⟩ := hown.ppl
          subst hvM
          clear hown hb
          go_wp2_with fail
          go_ret2
          exact ⟨HB.out, .inr ⟨HASK.out, _, rfl, HO.out⟩⟩

set_option maxHeartbeats 2000000 in
theorem manyI (ao : Option Addr) (b off cap : Nat) (L : List Per) (a j s : Int) (w : World) (hr : Ppl w ao b off L) (hv : pplB L = true) :
    Calls Tryz.prog 40 #[.slice ao L.length cap, .int .i64 a, .int .i64 j, .int .i64 s] w fun e w' => e = .returned (.int .i64 (manyP L a j s)) ∧ Below w.heap.size w w' := by
  have HM := Lib.hid (show ∀ z, askB a j s = z → manyP L a j s = if z then ((L.filter (isP a j s)).length : Int) else -1 from fun z hz => by unfold manyP; rw [hv, hz]; rfl)
  have HC := Lib.hid (selI ao b off cap L a j s w hr hv)
  clear hr hv
  go_enter Tryz.func40, Tryz.ntmps40
  go_wp2_with fail
  refine (HC.out).mono ?_
  rintro e w1 ⟨hb, ⟨hk, rfl⟩ | ⟨hk, v, rfl, ho⟩⟩
  · have HB := Lib.hid hb
    have HN := Lib.hid (HM.out _ hk)
    clear hb hk
    go_wp2_with fail
    go_ret
    exact ⟨by rw [HN.out]; rfl, HB.out⟩
  · have HB := Lib.hid hb
    have HN := Lib.hid (HM.out _ hk)
    obtain ⟨aM, bM, cM, rfl, -, -, -, -⟩ := ho.ppl
    clear hb hk ho
    go_wp2_with fail
    go_ret
    exact ⟨by rw [HN.out]; rfl, HB.out⟩

theorem pays_take {L : List Per} {k : Nat} (hk : k < L.length) : pays (L.take (k + 1)) = pays (L.take k) + (L.getD k per0).pay := by
  rw [← pays_snoc]
  congr 1
  rw [List.take_add_one, List.getD_eq_getElem?_getD, List.getElem?_eq_getElem hk]
  rfl

set_option maxHeartbeats 2000000 in
theorem payI (ao : Option Addr) (b off cap : Nat) (L : List Per) (a j s : Int) (w : World) (hr : Ppl w ao b off L) (hv : pplB L = true) :
    Calls Tryz.prog 42 #[.slice ao L.length cap, .int .i64 a, .int .i64 j, .int .i64 s] w fun e w' => e = .returned (.int .i64 (payP L a j s)) ∧ Below w.heap.size w w' := by
  have HM := Lib.hid (show ∀ z, askB a j s = z → payP L a j s = if z then pays (L.filter (isP a j s)) else -1 from fun z hz => by unfold payP; rw [hv, hz]; rfl)
  have HC := Lib.hid (selI ao b off cap L a j s w hr hv)
  have hall : ∀ p ∈ L.filter (isP a j s), PerOk p := fun p hp => ppl_all hv p (List.mem_filter.1 hp).1
  have hlen : (L.filter (isP a j s)).length ≤ 40 := Nat.le_trans (List.length_filter_le _ _) (ppl_t.1 hv).1
  clear hr hv
  go_enter Tryz.func42, Tryz.ntmps42
  go_wp2_with fail
  refine (HC.out).mono ?_
  rintro e w1 ⟨hb, ⟨hk, rfl⟩ | ⟨hk, v, rfl, ho⟩⟩
  · have HB := Lib.hid hb
    have HN := Lib.hid (HM.out _ hk)
    clear hb hk
    go_wp2_with fail
    go_ret
    exact ⟨by rw [HN.out]; rfl, HB.out⟩
  · have HB := Lib.hid hb
    have HN := Lib.hid (HM.out _ hk)
    obtain ⟨aM, bM, cM, rfl, -, -, -, hpl⟩ := ho.ppl
    obtain ⟨M, hM⟩ : ∃ M, L.filter (isP a j s) = M := ⟨_, rfl⟩
    rw [hM] at hpl HN hall hlen ⊢
    have HP := Lib.hid hpl
    have HA := Lib.hid hall
    have hsw := hb.size
    clear hb hk ho hM hpl hall HC HM
    go_wp2_with fail
    go_loopw [11, 26] (fun v i wr => ∃ k : Nat, k ≤ M.length ∧ i = .int .i64 k ∧ v = .int .i64 (pays (M.take k)) ∧ Below w1.heap.size w1 wr) (fun _ i _ => M.length - (intOf i).toNat)
    case atStart => exact ⟨0, Nat.zero_le _, rfl, rfl, Below.refl _ _⟩
    case round =>
      obtain ⟨k, hk, rfl, rfl, hb⟩ := hrel
      have HBR := Lib.hid hb
      have hsr := hb.size
      by_cases hlt : k < M.length
      · have h2 := (HP.out.keep HBR.out (Nat.le_refl _)).2 k hlt
        obtain rfl := HP.out.1 (by omega)
        have HT := Lib.hid (pays_take hlt)
        have hpok := HA.out (M.getD k per0) (by rw [List.getD_eq_getElem?_getD, List.getElem?_eq_getElem hlt]; exact List.getElem_mem hlt)
        have hle := pays_le (M.take k) fun p hp => HA.out p (List.mem_of_mem_take hp)
        rw [List.length_take] at hle
        obtain ⟨p, hp⟩ : ∃ p, M.getD k per0 = p := ⟨_, rfl⟩
        rw [hp] at h2 HT hpok
        obtain ⟨q, hq⟩ : ∃ q, pays (M.take k) = q := ⟨_, rfl⟩
        rw [hq] at HT hle ⊢
        clear hp hq hb
        obtain ⟨p0, p1, p2, p3⟩ := p
        obtain ⟨c0, c1, c2, c3⟩ := h2
        unfold PerOk at hpok
        simp only [Nat.zero_add] at c0 c1 c2 c3 hpok HT
        have hwr : IntKind.i64.wrap (q + p3) = q + p3 := IntWalk.i64_in _ ⟨by omega, by omega⟩
        go_wp2_with fail
        go_roundw
        case rel => exact ⟨k + 1, by omega, by go_num, by rw [HT.out], HBR.out.alloc hsr _⟩
        case measure => simp [intOf]; omega
      · obtain rfl : k = M.length := by omega
        have HN2 := HN.out
        rw [List.take_length]
        clear hb
        go_wp2_with fail
        go_ret
        exact ⟨by rw [HN2]; rfl, HB.out.trans (HBR.out.mono hsw)⟩
end Go.Proofs.YtlmlchkolcmhpaaGreatDoor
end

section
/-
  Contracts: spec.l1Ask, spec.l1Is, spec.PeopleMany, spec.PeoplePay.
-/
namespace Go.Proofs.YtlmlchkolcmhpaaGreatDoor
open Go.RowKit

theorem ask_iff (a j s : Int) : askB a j s = (decide (-1 ≤ a ∧ a ≤ 3) && (decide (-1 ≤ j ∧ j ≤ 3) && decide (-1 ≤ s ∧ s ≤ 1))) := by
  unfold askB
  rw [Bool.eq_iff_iff]
  simp only [decide_eq_true_eq, Bool.and_eq_true]
  omega
set_option maxHeartbeats 1000000 in
theorem askS (a j s : Int) (w : World) : Calls Tryz.prog 128 #[.int .i64 a, .int .i64 j, .int .i64 s] w fun e w' => e = .returned (.bool (askB a j s)) ∧ w = w' := by
  rw [ask_iff]
  by_cases h1 : -1 ≤ a ∧ a ≤ 3
  · have H1 := Lib.hid h1
    rw [decide_eq_true h1]
    by_cases h2 : -1 ≤ j ∧ j ≤ 3
    · have H2 := Lib.hid h2
      rw [decide_eq_true h2]
      obtain ⟨q, hq⟩ : ∃ q, decide (-1 ≤ s ∧ s ≤ 1) = q := ⟨_, rfl⟩
      have HI := Lib.hid (fun W => in_any s (-1) 1 W)
      rw [hq] at HI ⊢
      clear h1 h2 hq
      go_enter Tryz.func128, Tryz.ntmps128
      go_wp2_with fail
      refine (in_yes _ _ _ _ H1.out.1 H1.out.2).mono ?_
      rintro e w' ⟨rfl, rfl⟩
      go_wp2_with fail
      refine (in_yes _ _ _ _ H2.out.1 H2.out.2).mono ?_
      rintro e w' ⟨rfl, rfl⟩
      go_wp2_with fail
      refine (HI.out _).mono ?_
      rintro e w' ⟨rfl, rfl⟩
      go_wp2_with fail
      go_ret
      exact ⟨rfl, rfl⟩
    · have H2 := Lib.hid h2
      rw [decide_eq_false h2]
      clear h1 h2
      go_enter Tryz.func128, Tryz.ntmps128
      go_wp2_with fail
      refine (in_yes _ _ _ _ H1.out.1 H1.out.2).mono ?_
      rintro e w' ⟨rfl, rfl⟩
      go_wp2_with fail
      refine (in_no _ _ _ _ H2.out).mono ?_
      rintro e w' ⟨rfl, rfl⟩
      go_wp2_with fail
      go_ret
      exact ⟨rfl, rfl⟩
  · have H1 := Lib.hid h1
    rw [decide_eq_false h1]
    clear h1
    go_enter Tryz.func128, Tryz.ntmps128
    go_wp2_with fail
    refine (in_no _ _ _ _ H1.out).mono ?_
    rintro e w' ⟨rfl, rfl⟩
    go_wp2_with fail
    go_ret
    exact ⟨rfl, rfl⟩

theorem lt_tri (a x : Int) (h : -1 ≤ a) : (decide (a < 0) = true ∧ (a = -1 ∨ x = a)) ∨ (decide (a < 0) = false ∧ (x == a) = true ∧ (a = -1 ∨ x = a)) ∨ (decide (a < 0) = false ∧ (x == a) = false ∧ ¬ (a = -1 ∨ x = a)) := by
  by_cases h1 : a < 0
  · exact .inl ⟨decide_eq_true h1, by omega⟩
  · by_cases h2 : x = a
    · exact .inr (.inl ⟨decide_eq_false h1, by simp [h2], .inr h2⟩)
    · exact .inr (.inr ⟨decide_eq_false h1, by simp [h2], by omega⟩)
set_option maxHeartbeats 4000000 in
theorem isS (p : Per) (a j s : Int) (w : World) (ha : -1 ≤ a) (hj : -1 ≤ j) (hs : -1 ≤ s) :
    Calls Tryz.prog 129 #[.agg #[.int .i64 p.area, .int .i64 p.job, .int .i64 p.sex, .int .i64 p.pay], .int .i64 a, .int .i64 j, .int .i64 s] w fun e w' => e = .returned (.bool (isP a j s p)) ∧ Below w.heap.size w w' := by
  obtain ⟨p0, p1, p2, p3⟩ := p
  have HE : ∀ q, q = isP a j s ⟨p0, p1, p2, p3⟩ → Hid (isP a j s ⟨p0, p1, p2, p3⟩ = q) := fun q h => Lib.hid h.symm
  rcases lt_tri a p0 ha with ⟨A1, A2⟩ | ⟨A1, A0, A2⟩ | ⟨A1, A0, A2⟩ <;>
  rcases lt_tri j p1 hj with ⟨B1, B2⟩ | ⟨B1, B0, B2⟩ | ⟨B1, B0, B2⟩ <;>
  rcases lt_tri s p2 hs with ⟨C1, C2⟩ | ⟨C1, C0, C2⟩ | ⟨C1, C0, C2⟩ <;>
  (first
   | (have H := HE true (by unfold isP; symm; exact decide_eq_true ⟨A2, B2, C2⟩))
   | (have H := HE false (by unfold isP; symm; exact decide_eq_false fun h => A2 h.1))
   | (have H := HE false (by unfold isP; symm; exact decide_eq_false fun h => B2 h.2.1))
   | (have H := HE false (by unfold isP; symm; exact decide_eq_false fun h => C2 h.2.2))) <;>
  (clear A2 B2 C2 HE; simp only at *; go_enter Tryz.func129, Tryz.ntmps129; go_wp2_with fail; go_ret; exact ⟨by rw [H.out]; rfl, (Below.refl _ _).alloc (Nat.le_refl _) _⟩)

theorem ask_ge {a j s : Int} (h : askB a j s = true) : -1 ≤ a ∧ -1 ≤ j ∧ -1 ≤ s := by
  rw [ask_iff] at h
  simp only [Bool.and_eq_true, decide_eq_true_eq] at h
  omega

set_option maxHeartbeats 4000000 in
theorem manyS (ao : Option Addr) (b off cap : Nat) (L : List Per) (a j s : Int) (w : World) (hr : Ppl w ao b off L) (hv : pplB L = true) :
    Calls Tryz.prog 94 #[.slice ao L.length cap, .int .i64 a, .int .i64 j, .int .i64 s] w fun e w' => e = .returned (.int .i64 (manyP L a j s)) ∧ Below w.heap.size w w' := by
  have h40 := (ppl_t.1 hv).1
  have HV := Lib.hid hv
  have HR := Lib.hid hr
  have HC := Lib.hid (peopleS ao b off cap L w hr (by omega))
  have HA := Lib.hid (fun W => askS a j s W)
  have HM : ∀ z, askB a j s = z → Hid (manyP L a j s = if z then ((L.filter (isP a j s)).length : Int) else -1) := fun z hz => Lib.hid (by unfold manyP; rw [hv, hz]; rfl)
  clear hr hv
  cases hz : askB a j s with
  | false =>
    have HN := HM _ hz
    rw [hz] at HA
    clear hz HM
    go_enter Tryz.func94, Tryz.ntmps94
    go_wp2_with fail
    refine (HC.out).mono ?_
    rintro e w1 ⟨rfl, hb1⟩
    rw [HV.out]
    have HB1 := Lib.hid hb1
    clear hb1
    go_wp2_with fail
    refine (HA.out _).mono ?_
    rintro e w' ⟨rfl, rfl⟩
    go_wp2_with fail
    go_ret
    exact ⟨by rw [HN.out]; rfl, HB1.out⟩
  | true =>
    have HN := HM _ hz
    obtain ⟨ha, hj, hs⟩ := ask_ge hz
    rw [hz] at HA
    clear hz HM
    go_enter Tryz.func94, Tryz.ntmps94
    go_wp2_with fail
    refine (HC.out).mono ?_
    rintro e w1 ⟨rfl, hb1⟩
    rw [HV.out]
    have HB1 := Lib.hid hb1
    clear hb1
    go_wp2_with fail
    refine (HA.out _).mono ?_
    rintro e w' ⟨rfl, rfl⟩
    go_wp2_with fail
    go_loopw [9, 10] (fun n i wr => ∃ k : Nat, k ≤ L.length ∧ i = .int .i64 k ∧ n = .int .i64 ((((L.take k).filter (isP a j s)).length : Nat) : Int) ∧ Below w.heap.size w wr) (fun _ i _ => L.length - (intOf i).toNat)
    case atStart => exact ⟨0, Nat.zero_le _, rfl, rfl, HB1.out⟩
    case round =>
      obtain ⟨k, hk, rfl, rfl, hb⟩ := hrel
      have HB := Lib.hid hb
      have hsw := hb.size
      by_cases hlt : k < L.length
      · have h2 := (HR.out.keep HB.out (Nat.le_refl _)).2 k hlt
        obtain rfl := HR.out.1 (by omega)
        have HT := Lib.hid (filter_take hlt (isP a j s))
        obtain ⟨p, hp⟩ : ∃ p, L.getD k per0 = p := ⟨_, rfl⟩
        rw [hp] at h2 HT
        obtain ⟨c0, c1, c2, c3⟩ := h2
        have HIS := Lib.hid (fun W => isS p a j s W ha hj hs)
        have hcl : ((L.take k).filter (isP a j s)).length ≤ 40 := by have h1 := List.length_filter_le (isP a j s) (L.take k); rw [List.length_take] at h1; omega
        obtain ⟨c, hc⟩ : ∃ c, ((L.take k).filter (isP a j s)).length = c := ⟨_, rfl⟩
        rw [hc] at hcl ⊢
        have HCC := Lib.hid hc
        clear hb hp hc
        go_wp2_with fail
        refine (HIS.out wr).mono ?_
        rintro e w2 ⟨rfl, hb2⟩
        have HB2 := Lib.hid (HB.out.trans (hb2.mono hsw))
        clear hb2 c0 c1 c2 c3
        cases hip : isP a j s p with
        | false =>
          rw [hip, if_neg (by decide)] at HT
          clear hip
          go_wp2_with fail
          go_roundw
          case rel => exact ⟨k + 1, by omega, by go_num, by rw [HT.out, HCC.out], HB2.out⟩
          case measure => simp [intOf]; omega
        | true =>
          rw [hip, if_pos rfl] at HT
          clear hip
          go_wp2_with fail
          go_roundw
          case rel => exact ⟨k + 1, by omega, by go_num, by rw [HT.out, List.length_append, HCC.out]; go_num, HB2.out⟩
          case measure => simp [intOf]; omega
      · obtain rfl : k = L.length := by omega
        rw [List.take_length]
        clear hb
        go_wp2_with fail
        go_ret
        exact ⟨by rw [HN.out]; rfl, HB.out⟩

set_option maxHeartbeats 4000000 in
theorem payS (ao : Option Addr) (b off cap : Nat) (L : List Per) (a j s : Int) (w : World) (hr : Ppl w ao b off L) (hv : pplB L = true) :
    Calls Tryz.prog 95 #[.slice ao L.length cap, .int .i64 a, .int .i64 j, .int .i64 s] w fun e w' => e = .returned (.int .i64 (payP L a j s)) ∧ Below w.heap.size w w' := by
  have h40 := (ppl_t.1 hv).1
  have HV := Lib.hid hv
  have HR := Lib.hid hr
  have HC := Lib.hid (manyS ao b off cap L a j s w hr hv)
  have HP : ∀ z, askB a j s = z → Hid (payP L a j s = if z then pays (L.filter (isP a j s)) else -1) := fun z hz => Lib.hid (by unfold payP; rw [hv, hz]; rfl)
  have HM : ∀ z, askB a j s = z → manyP L a j s = if z then ((L.filter (isP a j s)).length : Int) else -1 := fun z hz => by unfold manyP; rw [hv, hz]; rfl
  clear hr hv
  cases hz : askB a j s with
  | false =>
    have HN := HP _ hz
    have e1 := HM _ hz
    rw [if_neg (by decide)] at e1
    rw [e1] at HC
    clear hz HM HP e1
    go_enter Tryz.func95, Tryz.ntmps95
    go_wp2_with fail
    refine (HC.out).mono ?_
    rintro e w1 ⟨rfl, hb1⟩
    have HB1 := Lib.hid hb1
    clear hb1
    go_wp2_with fail
    go_ret
    exact ⟨by rw [HN.out]; rfl, HB1.out⟩
  | true =>
    have HN := HP _ hz
    have e1 := HM _ hz
    rw [if_pos rfl] at e1
    obtain ⟨m, hm⟩ : ∃ m : Nat, (L.filter (isP a j s)).length = m := ⟨_, rfl⟩
    rw [hm] at e1
    rw [e1] at HC
    obtain ⟨ha, hj, hs⟩ := ask_ge hz
    have hm0 : 0 ≤ (m : Int) := Int.natCast_nonneg m
    clear hz HM HP e1 hm
    go_enter Tryz.func95, Tryz.ntmps95
    go_wp2_with fail
    refine (HC.out).mono ?_
    rintro e w1 ⟨rfl, hb1⟩
    have HB1 := Lib.hid hb1
    clear hb1
    go_wp2_with fail
    go_loopw [9, 10] (fun n i wr => ∃ k : Nat, k ≤ L.length ∧ i = .int .i64 k ∧ n = .int .i64 (pays ((L.take k).filter (isP a j s))) ∧ Below w.heap.size w wr) (fun _ i _ => L.length - (intOf i).toNat)
    case atStart => exact ⟨0, Nat.zero_le _, rfl, rfl, HB1.out⟩
    case round =>
      obtain ⟨k, hk, rfl, rfl, hb⟩ := hrel
      have HB := Lib.hid hb
      have hsw := hb.size
      by_cases hlt : k < L.length
      · have h2 := (HR.out.keep HB.out (Nat.le_refl _)).2 k hlt
        obtain rfl := HR.out.1 (by omega)
        have hpo := (ppl_t.1 HV.out).2 k hlt
        have HT := Lib.hid (filter_take hlt (isP a j s))
        obtain ⟨p, hp⟩ : ∃ p, L.getD k per0 = p := ⟨_, rfl⟩
        rw [hp] at h2 HT hpo
        obtain ⟨c0, c1, c2, c3⟩ := h2
        have HIS := Lib.hid (fun W => isS p a j s W ha hj hs)
        have hbd := pays_le ((L.take k).filter (isP a j s)) (fun x hx => ppl_all HV.out x (List.mem_of_mem_take (List.mem_filter.1 hx).1))
        have hcl : ((L.take k).filter (isP a j s)).length ≤ 40 := by have h1 := List.length_filter_le (isP a j s) (L.take k); rw [List.length_take] at h1; omega
        obtain ⟨c, hc⟩ : ∃ c, pays ((L.take k).filter (isP a j s)) = c := ⟨_, rfl⟩
        rw [hc] at hbd ⊢
        have HCC := Lib.hid hc
        have hb0 := hbd.1
        have hb9 : c ≤ 40000 := by omega
        have hp0 : 0 ≤ p.pay := hpo.2.2.2.1
        have hp9 : p.pay ≤ 999 := hpo.2.2.2.2
        have hpb : b < wr.heap.size := World.block_lt_of_cell? _ _ c0
        clear hb hp hc hpo hbd hcl
        go_wp2_with fail
        refine (HIS.out wr).mono ?_
        rintro e w2 ⟨rfl, hb2⟩
        have c3' := (hb2.cell (p := ⟨b, off + k * 4 + 3, none⟩) hpb).trans c3
        have HB2 := Lib.hid (HB.out.trans (hb2.mono hsw))
        clear hb2 c0 c1 c2 c3
        cases hip : isP a j s p with
        | false =>
          rw [hip, if_neg (by decide)] at HT
          clear hip c3'
          go_wp2_with fail
          go_roundw
          case rel => exact ⟨k + 1, by omega, by go_num, by rw [HT.out, HCC.out], HB2.out⟩
          case measure => simp [intOf]; omega
        | true =>
          rw [hip, if_pos rfl] at HT
          clear hip
          go_wp2_with fail
          go_roundw
          case rel => exact ⟨k + 1, by omega, by go_num, by rw [HT.out, pays_snoc, HCC.out], HB2.out⟩
          case measure => simp [intOf]; omega
      · obtain rfl : k = L.length := by omega
        rw [List.take_length]
        clear hb
        go_wp2_with fail
        go_ret
        exact ⟨by rw [HN.out]; rfl, HB.out⟩
end Go.Proofs.YtlmlchkolcmhpaaGreatDoor
end

section
/-
  Contracts: spec.l21Ok, spec.RoundNear.
-/
namespace Go.Proofs.YtlmlchkolcmhpaaGreatDoor
open Go.RowKit

set_option maxHeartbeats 1000000 in
theorem rOkS (x b : Int) (w : World) : Calls Tryz.prog 135 #[.int .i64 x, .int .i64 b] w fun e w' => e = .returned (.bool (decide (0 ≤ x ∧ x ≤ 10000) && baseB b)) ∧ w = w' := by
  by_cases h1 : 0 ≤ x ∧ x ≤ 10000
  · have H1 := Lib.hid h1
    rw [decide_eq_true h1]
    have HI := Lib.hid (fun W => in_any b 2 20 W)
    obtain ⟨q, hq⟩ : ∃ q, baseB b = q := ⟨_, rfl⟩
    have hq2 : decide (2 ≤ b ∧ b ≤ 20) = q := hq
    rw [hq2] at HI
    rw [hq]
    clear h1 hq hq2
    go_enter Tryz.func135, Tryz.ntmps135
    go_wp2_with fail
    refine (in_yes _ _ _ _ H1.out.1 H1.out.2).mono ?_
    rintro e w' ⟨rfl, rfl⟩
    go_wp2_with fail
    refine (HI.out _).mono ?_
    rintro e w' ⟨rfl, rfl⟩
    go_wp2_with fail
    go_ret
    exact ⟨rfl, rfl⟩
  · have H1 := Lib.hid h1
    rw [decide_eq_false h1]
    clear h1
    go_enter Tryz.func135, Tryz.ntmps135
    go_wp2_with fail
    refine (in_no _ _ _ _ H1.out).mono ?_
    rintro e w' ⟨rfl, rfl⟩
    go_wp2_with fail
    go_ret
    exact ⟨rfl, rfl⟩

set_option maxHeartbeats 1000000 in
theorem nearS_f (x b : Int) (w : World) (hb : baseB b = false) : Calls Tryz.prog 101 #[.int .i64 x, .int .i64 b] w fun e w' => e = .returned (.int .i64 (-1)) ∧ w = w' := by
  have HC := Lib.hid (rOkS x b w)
  rw [hb, Bool.and_false] at HC
  clear hb
  go_enter Tryz.func101, Tryz.ntmps101
  go_wp2_with fail
  refine (HC.out).mono ?_
  rintro e w' ⟨rfl, rfl⟩
  go_wp2_with fail
  go_ret
  exact ⟨rfl, rfl⟩

set_option maxHeartbeats 1000000 in
theorem nearS (x b : Int) (w : World) (hx : 0 ≤ x) (hx2 : x ≤ 10000) (hb : baseB b = true) : Calls Tryz.prog 101 #[.int .i64 x, .int .i64 b] w fun e w' => e = .returned (.int .i64 (near x b)) ∧ w = w' := by
  have HC := Lib.hid (rOkS x b w)
  rw [hb, Bool.and_true, decide_eq_true ⟨hx, hx2⟩] at HC
  have h2 := of_decide_eq_true hb
  obtain ⟨h2, h20⟩ := h2
  have r0 := Int.emod_nonneg x (b := b) (by omega)
  have r1 := Int.emod_lt_of_pos x (b := b) (by omega)
  have r2 : x % b ≤ x := by
    have h3 := Int.emod_add_mul_ediv x b
    have h4 : 0 ≤ b * (x / b) := Int.mul_nonneg (by omega) (Int.ediv_nonneg hx (by omega))
    omega
  have hN : Hid (near x b = if b ≤ 2 * (x % b) then x - x % b + b else x - x % b) := Lib.hid rfl
  have hdiff : 0 ≤ x - x % b := by omega
  clear hb
  by_cases h : b ≤ 2 * (x % b)
  · have HNE := Lib.hid (show near x b = x - x % b + b by rw [hN.out, if_pos h])
    go_enter Tryz.func101, Tryz.ntmps101
    go_wp2_with fail
    refine (HC.out).mono ?_
    rintro e w' ⟨rfl, rfl⟩
    go_wp2_with fail
    go_ret
    exact ⟨by rw [HNE.out]; rfl, rfl⟩
  · have HNE := Lib.hid (show near x b = x - x % b by rw [hN.out, if_neg h])
    have h' : 2 * (x % b) < b := by omega
    clear h
    go_enter Tryz.func101, Tryz.ntmps101
    go_wp2_with fail
    refine (HC.out).mono ?_
    rintro e w' ⟨rfl, rfl⟩
    go_wp2_with fail
    go_ret
    exact ⟨by rw [HNE.out]; rfl, rfl⟩
end Go.Proofs.YtlmlchkolcmhpaaGreatDoor
end

section
/-
  Contract: spec.MaskSmall.
-/
namespace Go.Proofs.YtlmlchkolcmhpaaGreatDoor
open Go.RowKit
open Go.TextMath (tvB mvB)

theorem ownB_rowIs {w : World} {base gb n c : Nat} {r : List Bool} (h : w.ownsRow base 4 1 (.slice (some ⟨gb, 0, none⟩) n c) r.length (r.map Value.bool)) :
    ∃ f, w.rowIs gb 4 c f ∧ (∀ j x, r[j]? = some x → f j = Value.bool x) ∧ n = r.length ∧ r.length ≤ c ∧ c ≤ 9223372036854775807 ∧ base ≤ gb := by
  have hcl := fun i u hu => World.ownsRow.cells (g := gb) h rfl i u hu
  rcases h.2 with ⟨h0, _⟩ | ⟨g2, cap2, cur2, hv2, hb2, hh2, hn2, hm2, hs2, _⟩
  · cases h0
  · injection hv2 with e1 e2 e3
    injection e1 with e1
    injection e1 with e1 _ _
    subst e1
    subst e3
    have hr2 : w.rowIs gb 4 c (fun j => cur2.getD j undef) := ⟨cur2, hh2, by rw [hs2, Nat.mul_one], fun j hj => by
      have : j < cur2.size := by rw [hs2]; omega
      simp [Array.getD, this]⟩
    refine ⟨_, hr2, fun j x hx => ?_, e2, hn2, by unfold maxLen at hm2; omega, hb2⟩
    have h1 := hcl j (Value.bool x) (by rw [List.getElem?_map, hx]; rfl)
    rw [add_none, Nat.zero_add] at h1
    have hj := (List.getElem?_eq_some_iff.1 hx).1
    rw [hr2.cell (by omega)] at h1
    injection h1
theorem ownB_lit {base H : Nat} (w : World) (hb : base ≤ w.heap.size) (hH : H = w.heap.size) : (w.alloc (.cells #[] 4)).ownsRow base 4 1 (.slice (some ⟨H, 0, none⟩) 0 0) 0 ([] : List Value) := by
  subst hH
  have := World.ownsRow_lit (base := base) (e := 4) (size := 1) w #[] 0 hb (by unfold maxLen; omega) (by simp)
  simpa using this
theorem mask_take {T : List (List Int)} {K : Int} {k : Nat} (h : k < T.length) : (maskS T K).take (k + 1) = (maskS T K).take k ++ [smallR (T.getD k []) K] := by
  rw [List.take_succ_eq_append_getElem (by rw [maskS_len]; exact h)]
  congr 2
  simp [maskS, List.getD_eq_getElem?_getD, List.getElem?_eq_getElem h]

set_option maxRecDepth 100000 in
set_option maxHeartbeats 4000000 in
theorem maskSmallS (ao : Option Addr) (b off cap : Nat) (T : List (List Int)) (K : Int) (w : World) (hr : Tab .i64 w ao b off T) (hv : tvB T = true) :
    Calls Tryz.prog 98 #[.slice ao T.length cap, .int .i64 K] w fun e w' => ∃ v g, e = .returned (.tuple #[v, .bool true]) ∧ MtB w' w.heap.size v (maskS T K) g ∧ Below w.heap.size w w' := by
  have HV := Lib.hid hv
  have HR := Lib.hid hr
  obtain ⟨hT1, hT4, hC1, hC4, hrows⟩ := tv_t.1 hv
  obtain ⟨n, hn⟩ : ∃ n, (T.getD 0 []).length = n := ⟨_, rfl⟩
  have hb0 := (Below.refl w.heap.size w).alloc (Nat.le_refl _) (.cells #[] 98)
  have HTV := Lib.hid (tableValidS ao b off cap T (w.alloc (.cells #[] 98)) (hr.keep hb0 (Nat.le_refl _)) (by omega))
  have HM0 := Lib.hid (MtG.lit (α := Bool) (enc := Value.bool) (RT := 98) (ET := 4) w w.heap.size (fun _ => 0) (Nat.le_refl _) rfl)
  have HB0 := Lib.hid hb0
  obtain rfl := hr.1 (by omega)
  rw [hn] at hC1 hC4 hrows
  have HROWS := Lib.hid hrows
  clear hr hv hrows hn hb0
  go_enter Tryz.func98, Tryz.ntmps98
  go_wp2_with fail
  refine (HTV.out).mono ?_
  rintro e w' ⟨rfl, q, rfl⟩
  rw [HV.out]
  have HB1 := Lib.hid (HB0.out.trans ((below_draws (w.alloc (.cells #[] 98)) q).mono (by simp)))
  have HM1 := Lib.hid (HM0.out.drewN q)
  obtain ⟨w1, hw1⟩ : ∃ w1, (w.alloc (.cells #[] 98)).drewN q = w1 := ⟨_, rfl⟩
  rw [hw1] at HB1 HM1 ⊢
  clear hw1 HTV HM0 HB0
  go_wp2_with fail
  go_loopw [6, 7] (fun s i wr => ∃ (k : Nat) (g : Nat → Nat), k ≤ T.length ∧ i = .int .i64 k ∧ MtB wr w.heap.size s ((maskS T K).take k) g ∧ Below w.heap.size w wr) (fun _ i _ => T.length - (intOf i).toNat)
  case atStart => exact ⟨0, _, Nat.zero_le _, rfl, by rw [List.take_zero]; exact HM1.out, HB1.out⟩
  case round =>
    obtain ⟨k, g, hk, rfl, hm, hb⟩ := hrel
    have HM := Lib.hid hm
    have HB := Lib.hid hb
    have hsw := hb.size
    have hml : ((maskS T K).take k).length = k := by rw [List.length_take, maskS_len]; omega
    have HML := Lib.hid hml
    by_cases hlt : k < T.length
    · obtain ⟨wo, rfl⟩ : ∃ wo : World, wo = wr := ⟨_, rfl⟩
      obtain ⟨ra, rb, ro, rc, hc0, hc2, hc3, hc4⟩ := HR.out.2 k hlt
      obtain ⟨hn1, hx⟩ := HROWS.out k hlt
      rw [hn1] at hc0 hc3
      obtain rfl := hc2.1 (by omega)
      have hrb : rb < w.heap.size := World.block_lt_of_cell? _ _ (hc2.2 0 (by omega))
      have hbl : b < w.heap.size := World.block_lt_of_cell? _ _ hc0
      have HC0 := Lib.hid hc0
      have HRW := Lib.hid hc2
      have HN := Lib.hid hn1
      have HMT := Lib.hid (mask_take (K := K) hlt)
      have HKT := Lib.hid hlt
      obtain ⟨fl, hfl⟩ : ∃ fl, smallR (T.getD k []) K = fl := ⟨_, rfl⟩
      have HFL := Lib.hid hfl
      have HFN := Lib.hid (show fl.length = n by rw [← hfl, smallR_len, hn1])
      rw [hfl] at HMT
      obtain ⟨A, hA⟩ : ∃ A, (maskS T K).take k = A := ⟨_, rfl⟩
      rw [hA] at HM HML HMT hml
      have HG := Lib.hid (fun i (hi : i < A.length) => HM.out.lt hi)
      obtain ⟨B1, hB1⟩ : ∃ B1, wo.heap.size = B1 := ⟨_, rfl⟩
      have hba := (Below.refl wo.heap.size wo).alloc (Nat.le_refl _) (.cells #[] 4)
      have HO1 := Lib.hid (ownB_lit (base := wo.heap.size) wo (Nat.le_refl _) rfl)
      have HBA := Lib.hid hba
      rw [hB1] at HG HO1 hsw HBA
      have HB1' := Lib.hid hB1
      have hki : (k : Int) < (T.length : Int) := by omega
      clear hm hb hml hba hB1 hx hc0 hc2 hn1 hfl hlt hA
      go_wp2_with fail
      go_loopw [8, 9] (fun s i wj => ∃ (j gb c : Nat), j ≤ n ∧ i = .int .i64 j ∧ s = .slice (some ⟨gb, 0, none⟩) j c ∧ wj.ownsRow B1 4 1 (.slice (some ⟨gb, 0, none⟩) j c) (fl.take j).length ((fl.take j).map Value.bool) ∧ Below B1 wo wj) (fun _ i _ => n - (intOf i).toNat)
      case atStart => exact ⟨0, _, 0, Nat.zero_le _, rfl, by rw [HB1'.out], by rw [List.take_zero]; exact HO1.out, HBA.out⟩
      case round =>
        clear HO1 HBA
        obtain ⟨j, gb, c, hj, rfl, rfl, hown, hbj⟩ := hrel
        have HO := Lib.hid hown
        have HBJ := Lib.hid hbj
        have hsj : B1 ≤ wr.heap.size := by rw [← HB1'.out]; exact hbj.size
        have hcell : wr.cell? ⟨b, off + k, none⟩ = some (.slice (some ⟨rb, ro, none⟩) n rc) := (hbj.cell (p := ⟨b, off + k, none⟩) (by show b < B1; omega)).trans ((HB.out.cell (p := ⟨b, off + k, none⟩) hbl).trans HC0.out)
        have hfl9 : Hid ((fl.take j).length = j) := Lib.hid (by rw [List.length_take, HFN.out]; omega)
        by_cases hjn : j < n
        · have hx2 : wr.cell? ⟨rb, ro + j, none⟩ = some (.int .i64 ((T.getD k []).getD j 0)) := (hbj.cell (p := ⟨rb, ro + j, none⟩) (by show rb < B1; omega)).trans ((HB.out.cell (p := ⟨rb, ro + j, none⟩) hrb).trans (HRW.out.2 j (by rw [HN.out]; exact hjn)))
          have HTK := Lib.hid (small_tk (K := K) (r := T.getD k []) (j := j) (by rw [HN.out]; exact hjn))
          obtain ⟨x, hxx⟩ : ∃ x, (T.getD k []).getD j 0 = x := ⟨_, rfl⟩
          rw [hxx] at hx2 HTK
          rw [HFL.out] at HTK
          obtain ⟨r, hr⟩ : ∃ r, fl.take j = r := ⟨_, rfl⟩
          rw [hr] at HO HTK hfl9
          have hji : (j : Int) < (n : Int) := by omega
          have hr9 : Hid (r.length ≤ 1000000000) := Lib.hid (by rw [hfl9.out]; omega)
          clear hown hbj hxx hr
          by_cases hx0 : 0 < x
          · go_wp2_with (at_builtin; refine wpList_app eltB rfl (.tmp 31) (.tmp 51) rfl B1 _ _ _ rfl HO.out [.bool (decide (x < K))] rfl (by intro u hu; simp at hu; subst hu; rfl) rfl rfl hr9.out hsj ?_)
            intro v' w4 ho4 hb4 _
            obtain ⟨ao4, b4, cap4, hv4, -, -, h34, -⟩ := orow_cells ho4
            obtain ⟨rfl, -, -⟩ := h34 (by omega)
            rw [hfl9.out] at hv4
            subst hv4
            have HO4 := Lib.hid (show w4.ownsRow B1 4 1 (.slice (some ⟨b4, 0, none⟩) (j + 1) cap4) (fl.take (j + 1)).length ((fl.take (j + 1)).map Value.bool) by
              rw [HTK.out, List.length_append, List.length_singleton, List.map_append, List.map_singleton]
              have e : decide (0 < x ∧ x < K) = decide (x < K) := by simp [hx0]
              rw [e]
              exact ho4)
            have HB4 := Lib.hid (HBJ.out.trans hb4)
            clear ho4 hb4 h34
            go_wp2_with fail
            go_roundw
            case rel => exact ⟨j + 1, b4, cap4, by omega, by go_num, rfl, HO4.out, HB4.out⟩
            case measure => simp [intOf]; omega
          · go_wp2_with (at_builtin; refine wpList_app eltB rfl (.tmp 31) (.tmp 51) rfl B1 _ _ _ rfl HO.out [.bool false] rfl (by intro u hu; simp at hu; subst hu; rfl) rfl rfl hr9.out hsj ?_)
            intro v' w4 ho4 hb4 _
            obtain ⟨ao4, b4, cap4, hv4, -, -, h34, -⟩ := orow_cells ho4
            obtain ⟨rfl, -, -⟩ := h34 (by omega)
            rw [hfl9.out] at hv4
            subst hv4
            have HO4 := Lib.hid (show w4.ownsRow B1 4 1 (.slice (some ⟨b4, 0, none⟩) (j + 1) cap4) (fl.take (j + 1)).length ((fl.take (j + 1)).map Value.bool) by
              rw [HTK.out, List.length_append, List.length_singleton, List.map_append, List.map_singleton]
              have e : decide (0 < x ∧ x < K) = false := decide_eq_false fun h => by omega
              rw [e]
              exact ho4)
            have HB4 := Lib.hid (HBJ.out.trans hb4)
            clear ho4 hb4 h34
            go_wp2_with fail
            go_roundw
            case rel => exact ⟨j + 1, b4, cap4, by omega, by go_num, rfl, HO4.out, HB4.out⟩
            case measure => simp [intOf]; omega
        · obtain rfl : j = n := by omega
          rw [List.take_of_length_le (by rw [HFN.out]; exact Nat.le_refl _)] at hown
          obtain ⟨f, hrow, hfr, -, hc1, hc2, hbg⟩ := ownB_rowIs hown
          have hMx := HM.out.below (show Below wo.heap.size wo wr by rw [HB1'.out]; exact hbj)
          obtain ⟨cs, htop, hcs⟩ := hMx.top
          have HTOP := Lib.hid htop
          have HSN := Lib.hid (fun (v' : Value) (w2 : World) => hMx.snoc (v' := v') (w2 := w2) (by decide) htop hcs (r := fl) (c := c) (fun i hi => by have := HG.out i hi; omega) (by omega) hrow hfr hc1 hc2)
          rw [HFN.out] at HSN
          have hm4 : Hid (A.length ≤ 1000000000) := Lib.hid (by rw [HML.out]; omega)
          have hwx : w.heap.size ≤ wr.heap.size := Nat.le_trans hsw hsj
          have HBX := Lib.hid (HB.out.trans (hbj.mono hsw))
          clear hown hbj htop hcs hrow hfr hc1
          go_wp2_with (at_builtin; refine wpList_app eltRB rfl (.tmp 53) (.tmp 55) rfl w.heap.size _ _ _ rfl HTOP.out [_] rfl (by intro u hu; simp at hu; subst hu; rfl) rfl rfl hm4.out hwx ?_)
          intro v' w4 ho4 hb4 hg4
          have HM4 := Lib.hid (HSN.out v' w4 ho4 hg4)
          have HB4 := Lib.hid (HBX.out.trans hb4)
          clear ho4 hb4 hg4
          go_wp2_with fail
          go_roundw
          case rel => exact ⟨k + 1, _, by have := HKT.out; omega, by go_num, by rw [HMT.out]; exact HM4.out, HB4.out⟩
          case measure => have := HKT.out; simp [intOf]; omega
    · obtain rfl : k = T.length := by omega
      rw [List.take_of_length_le (by rw [maskS_len]; exact Nat.le_refl _)] at hm
      have HO := Lib.hid hm
      obtain ⟨aM, bM, cM, hvM, -, -, -⟩ := hm.tabB
      subst hvM
      clear hm hb hml
      go_wp2_with fail
      go_ret2
      exact ⟨_, g, rfl, HO.out, HB.out⟩
end Go.Proofs.YtlmlchkolcmhpaaGreatDoor
end

section
/-
  Contracts: spec.l11Copy, spec.l14Mask.
-/
namespace Go.Proofs.YtlmlchkolcmhpaaGreatDoor
open Go.RowKit
open Go.TextMath (tvB mvB)

theorem ownE_rowIs {α : Type} {enc : α → Value} {E : TypeId} {w : World} {base gb n c : Nat} {r : List α} (h : w.ownsRow base E 1 (.slice (some ⟨gb, 0, none⟩) n c) r.length (r.map enc)) :
    ∃ f, w.rowIs gb E c f ∧ (∀ j x, r[j]? = some x → f j = enc x) ∧ n = r.length ∧ r.length ≤ c ∧ c ≤ 9223372036854775807 ∧ base ≤ gb := by
  have hcl := fun i u hu => World.ownsRow.cells (g := gb) h rfl i u hu
  rcases h.2 with ⟨h0, _⟩ | ⟨g2, cap2, cur2, hv2, hb2, hh2, hn2, hm2, hs2, _⟩
  · cases h0
  · injection hv2 with e1 e2 e3
    injection e1 with e1
    injection e1 with e1 _ _
    subst e1
    subst e3
    have hr2 : w.rowIs gb E c (fun j => cur2.getD j undef) := ⟨cur2, hh2, by rw [hs2, Nat.mul_one], fun j hj => by
      have : j < cur2.size := by rw [hs2]; omega
      simp [Array.getD, this]⟩
    refine ⟨_, hr2, fun j x hx => ?_, e2, hn2, by unfold maxLen at hm2; omega, hb2⟩
    have h1 := hcl j (enc x) (by rw [List.getElem?_map, hx]; rfl)
    rw [add_none, Nat.zero_add] at h1
    have hj := (List.getElem?_eq_some_iff.1 hx).1
    rw [hr2.cell (by omega)] at h1
    injection h1
theorem take_row {α : Type} {T : List (List α)} {k : Nat} (h : k < T.length) : T.take (k + 1) = T.take k ++ [T.getD k []] := by
  rw [List.take_succ_eq_append_getElem h]
  congr 2
  simp [List.getD_eq_getElem?_getD, List.getElem?_eq_getElem h]

set_option maxRecDepth 100000 in
set_option maxHeartbeats 4000000 in
theorem copyIS (b cap : Nat) (T : List (List Int)) (w : World) (hr : Tab .i64 w (some ⟨b, 0, none⟩) b 0 T) (hl : T.length ≤ 100) (hl2 : ∀ i, i < T.length → 1 ≤ (T.getD i []).length ∧ (T.getD i []).length ≤ 100) :
    Calls Tryz.prog 182 #[.slice (some ⟨b, 0, none⟩) T.length cap] w fun e w' => ∃ v g, e = .returned v ∧ MtI w' w.heap.size v T g ∧ Below w.heap.size w w' := by
  have HR := Lib.hid hr
  have HL2 := Lib.hid hl2
  have HM0 := Lib.hid (MtG.lit (α := Int) (enc := (Value.int .i64)) (RT := 53) (ET := 3) w w.heap.size (fun _ => 0) (Nat.le_refl _) rfl)
  have HB0 := Lib.hid ((Below.refl w.heap.size w).alloc (Nat.le_refl _) (.cells #[] 53))
  obtain ⟨i0, hi, hz0, hz1, hz2⟩ := info_parts eltI.info
  have HI := Lib.hid (And.intro hi (And.intro hz0 (And.intro hz1 hz2)))
  clear hr hl2 hi hz0 hz1 hz2
  go_enter Tryz.func182, Tryz.ntmps182
  go_wp2_with fail
  go_loopw [3, 4] (fun s i wr => ∃ (k : Nat) (g : Nat → Nat), k ≤ T.length ∧ i = .int .i64 k ∧ MtI wr w.heap.size s (T.take k) g ∧ Below w.heap.size w wr) (fun _ i _ => T.length - (intOf i).toNat)
  case atStart => exact ⟨0, _, Nat.zero_le _, rfl, by rw [List.take_zero]; exact HM0.out, HB0.out⟩
  case round =>
    obtain ⟨k, g, hk, rfl, hm, hb⟩ := hrel
    have HM := Lib.hid hm
    have HB := Lib.hid hb
    have hsw := hb.size
    by_cases hlt : k < T.length
    · obtain ⟨ra, rb, ro, rc, hc0, hc2, hc3, hc4⟩ := (HR.out.keep HB.out (Nat.le_refl _)).2 k hlt
      have hx := HL2.out k hlt
      obtain rfl := hc2.1 (by omega)
      have HMT := Lib.hid (take_row hlt)
      obtain ⟨A, hA⟩ : ∃ A, T.take k = A := ⟨_, rfl⟩
      have hml : A.length = k := by rw [← hA, List.length_take]; omega
      obtain ⟨r, hrr⟩ : ∃ r, T.getD k [] = r := ⟨_, rfl⟩
      rw [hA] at HM HMT
      rw [hrr] at HMT hc0 hc2 hc3 hx
      have HML := Lib.hid hml
      have HG := Lib.hid (fun i (hi : i < A.length) => HM.out.lt hi)
      have hba := (Below.refl wr.heap.size wr).alloc (Nat.le_refl _) (.cells #[] 3)
      have HBA := Lib.hid hba
      have ho1 : (wr.alloc (.cells #[] 3)).ownsRow wr.heap.size 3 1 (.slice (some ⟨wr.heap.size, 0, none⟩) 0 0) 0 ([] : List Value) := by
        have := World.ownsRow_lit (base := wr.heap.size) (e := 3) (size := 1) wr #[] 0 (Nat.le_refl _) (by unfold maxLen; omega) (by simp)
        simpa using this
      have HO1 := Lib.hid ho1
      have HNW := Lib.hid (show ∀ j u, (r.map (Value.int .i64))[j]? = some u → (wr.alloc (.cells #[] 3)).cell? (Addr.add ⟨rb, ro, none⟩ j) = some u from fun j u hu => by
        rw [List.getElem?_map] at hu
        cases hy : r[j]? with
        | none => rw [hy] at hu; simp at hu
        | some y =>
          rw [hy] at hu
          simp at hu
          subst hu
          obtain ⟨hj1, hj2⟩ := List.getElem?_eq_some_iff.1 hy
          have h3 := hc2.2 j hj1
          rw [List.getD_eq_getElem?_getD, hy] at h3
          rw [add_none]
          exact (hba.cell (p := ⟨rb, ro + j, none⟩) (World.block_lt_of_cell? _ _ h3)).trans h3)
      have hrl : r.length ≤ 100 := hx.2
      have hrp : 1 ≤ r.length := hx.1
      have hki : (k : Int) < (T.length : Int) := by omega
      have hcw : wr.cell? ⟨b, k, none⟩ = some (.slice (some ⟨rb, ro, none⟩) r.length rc) := by rw [Nat.zero_add] at hc0; exact hc0
      have hbw : b < wr.heap.size := World.block_lt_of_cell? _ _ hcw
      have hsz1 : wr.heap.size ≤ (wr.alloc (.cells #[] 3)).heap.size := by simp
      have HSZ1 := Lib.hid hsz1
      clear hm hb hml hba hx hc0 hc2 hA hrr ho1 hsz1
      go_wp2_with (at_builtin; refine wpList_append_own _ rfl (.tmp 13) (.tmp 17) _ rfl wr.heap.size 3 i0 (.int .i64 0) 1 8 eltI.und HI.out.1 HI.out.2.1 HI.out.2.2.1 HI.out.2.2.2 eltI.zs eltI.pos _ _ _ rfl HO1.out ⟨rb, ro, none⟩ r.length rc (r.map (Value.int .i64)) rfl (by rw [List.length_map, Nat.mul_one]) HNW.out (by intro u hu; obtain ⟨y, _, rfl⟩ := List.mem_map.1 hu; rfl) (by unfold maxLen; omega) (by omega) HSZ1.out ?_)
      intro v1 w3 ho3 hg3 _
      have hb3 := HBA.out.trans (below_own HO1.out hg3 HSZ1.out)
      obtain ⟨ao4, b4, cap4, hv4, -, -, h34, -⟩ := orow_cells ho3
      obtain ⟨rfl, -, -⟩ := h34 (by omega)
      subst hv4
      obtain ⟨f, hrow, hfr, -, hc1, hc2', hbg⟩ := ownE_rowIs ho3
      have hMx := HM.out.below hb3
      obtain ⟨cs, htop, hcs⟩ := hMx.top
      have HTOP := Lib.hid htop
      have HSN := Lib.hid (fun (v' : Value) (w2 : World) => hMx.snoc (v' := v') (w2 := w2) (by decide) htop hcs (r := r) (c := cap4) (fun i hi => by have := HG.out i hi; omega) (by omega) hrow hfr hc1 hc2')
      have hm4 : Hid (A.length ≤ 1000000000) := Lib.hid (by rw [HML.out]; omega)
      have hwx : w.heap.size ≤ w3.heap.size := Nat.le_trans hsw hb3.size
      have HBX := Lib.hid (HB.out.trans (hb3.mono hsw))
      clear ho3 hg3 hb3 htop hcs hrow hfr hc1 h34 hcw hMx
      go_wp2_with (at_builtin; refine wpList_app eltR rfl (.tmp 12) (.tmp 19) rfl w.heap.size _ _ _ rfl HTOP.out [.slice (some ⟨b4, 0, none⟩) r.length cap4] rfl (by intro u hu; simp at hu; subst hu; rfl) rfl rfl hm4.out hwx ?_)
      intro v' w4 ho4 hb4 hg4
      have HM4 := Lib.hid (HSN.out v' w4 ho4 hg4)
      have HB4 := Lib.hid (HBX.out.trans hb4)
      clear ho4 hb4 hg4 HSN
      go_wp2_with fail
      go_roundw
      case rel => exact ⟨k + 1, _, by omega, by go_num, by rw [HMT.out]; exact HM4.out, HB4.out⟩
      case measure => simp [intOf]; omega
    · obtain rfl : k = T.length := by omega
      rw [List.take_length] at hm
      have HO := Lib.hid hm
      obtain ⟨aM, bM, cM, hvM, -, -, -⟩ := hm.tab
      subst hvM
      clear hm hb
      go_wp2_with fail
      go_ret
      exact ⟨_, g, rfl, HO.out, HB.out⟩

set_option maxRecDepth 100000 in
set_option maxHeartbeats 4000000 in
theorem copyBS (b cap : Nat) (T : List (List Bool)) (w : World) (hr : TabB w (some ⟨b, 0, none⟩) b 0 T) (hl : T.length ≤ 100) (hl2 : ∀ i, i < T.length → 1 ≤ (T.getD i []).length ∧ (T.getD i []).length ≤ 100) :
    Calls Tryz.prog 132 #[.slice (some ⟨b, 0, none⟩) T.length cap] w fun e w' => ∃ v g, e = .returned v ∧ MtB w' w.heap.size v T g ∧ Below w.heap.size w w' := by
  have HR := Lib.hid hr
  have HL2 := Lib.hid hl2
  have HM0 := Lib.hid (MtG.lit (α := Bool) (enc := Value.bool) (RT := 98) (ET := 4) w w.heap.size (fun _ => 0) (Nat.le_refl _) rfl)
  have HB0 := Lib.hid ((Below.refl w.heap.size w).alloc (Nat.le_refl _) (.cells #[] 98))
  obtain ⟨i0, hi, hz0, hz1, hz2⟩ := info_parts eltB.info
  have HI := Lib.hid (And.intro hi (And.intro hz0 (And.intro hz1 hz2)))
  clear hr hl2 hi hz0 hz1 hz2
  go_enter Tryz.func132, Tryz.ntmps132
  go_wp2_with fail
  go_loopw [3, 4] (fun s i wr => ∃ (k : Nat) (g : Nat → Nat), k ≤ T.length ∧ i = .int .i64 k ∧ MtB wr w.heap.size s (T.take k) g ∧ Below w.heap.size w wr) (fun _ i _ => T.length - (intOf i).toNat)
  case atStart => exact ⟨0, _, Nat.zero_le _, rfl, by rw [List.take_zero]; exact HM0.out, HB0.out⟩
  case round =>
    obtain ⟨k, g, hk, rfl, hm, hb⟩ := hrel
    have HM := Lib.hid hm
    have HB := Lib.hid hb
    have hsw := hb.size
    by_cases hlt : k < T.length
    · obtain ⟨ra, rb, ro, rc, hc0, hc2, hc3, hc4⟩ := (HR.out.keep HB.out (Nat.le_refl _)).2 k hlt
      have hx := HL2.out k hlt
      obtain rfl := hc2.1 (by omega)
      have HMT := Lib.hid (take_row hlt)
      obtain ⟨A, hA⟩ : ∃ A, T.take k = A := ⟨_, rfl⟩
      have hml : A.length = k := by rw [← hA, List.length_take]; omega
      obtain ⟨r, hrr⟩ : ∃ r, T.getD k [] = r := ⟨_, rfl⟩
      rw [hA] at HM HMT
      rw [hrr] at HMT hc0 hc2 hc3 hx
      have HML := Lib.hid hml
      have HG := Lib.hid (fun i (hi : i < A.length) => HM.out.lt hi)
      have hba := (Below.refl wr.heap.size wr).alloc (Nat.le_refl _) (.cells #[] 4)
      have HBA := Lib.hid hba
      have ho1 : (wr.alloc (.cells #[] 4)).ownsRow wr.heap.size 4 1 (.slice (some ⟨wr.heap.size, 0, none⟩) 0 0) 0 ([] : List Value) := by
        have := World.ownsRow_lit (base := wr.heap.size) (e := 4) (size := 1) wr #[] 0 (Nat.le_refl _) (by unfold maxLen; omega) (by simp)
        simpa using this
      have HO1 := Lib.hid ho1
      have HNW := Lib.hid (show ∀ j u, (r.map Value.bool)[j]? = some u → (wr.alloc (.cells #[] 4)).cell? (Addr.add ⟨rb, ro, none⟩ j) = some u from fun j u hu => by
        rw [List.getElem?_map] at hu
        cases hy : r[j]? with
        | none => rw [hy] at hu; simp at hu
        | some y =>
          rw [hy] at hu
          simp at hu
          subst hu
          obtain ⟨hj1, hj2⟩ := List.getElem?_eq_some_iff.1 hy
          have h3 := hc2.2 j hj1
          rw [List.getD_eq_getElem?_getD, hy] at h3
          rw [add_none]
          exact (hba.cell (p := ⟨rb, ro + j, none⟩) (World.block_lt_of_cell? _ _ h3)).trans h3)
      have hrl : r.length ≤ 100 := hx.2
      have hrp : 1 ≤ r.length := hx.1
      have hki : (k : Int) < (T.length : Int) := by omega
      have hcw : wr.cell? ⟨b, k, none⟩ = some (.slice (some ⟨rb, ro, none⟩) r.length rc) := by rw [Nat.zero_add] at hc0; exact hc0
      have hbw : b < wr.heap.size := World.block_lt_of_cell? _ _ hcw
      have hsz1 : wr.heap.size ≤ (wr.alloc (.cells #[] 4)).heap.size := by simp
      have HSZ1 := Lib.hid hsz1
      clear hm hb hml hba hx hc0 hc2 hA hrr ho1 hsz1
      go_wp2_with (at_builtin; refine wpList_append_own _ rfl (.tmp 13) (.tmp 17) _ rfl wr.heap.size 4 i0 (.bool false) 1 1 eltB.und HI.out.1 HI.out.2.1 HI.out.2.2.1 HI.out.2.2.2 eltB.zs eltB.pos _ _ _ rfl HO1.out ⟨rb, ro, none⟩ r.length rc (r.map Value.bool) rfl (by rw [List.length_map, Nat.mul_one]) HNW.out (by intro u hu; obtain ⟨y, _, rfl⟩ := List.mem_map.1 hu; rfl) (by unfold maxLen; omega) (by omega) HSZ1.out ?_)
      intro v1 w3 ho3 hg3 _
      have hb3 := HBA.out.trans (below_own HO1.out hg3 HSZ1.out)
      obtain ⟨ao4, b4, cap4, hv4, -, -, h34, -⟩ := orow_cells ho3
      obtain ⟨rfl, -, -⟩ := h34 (by omega)
      subst hv4
      obtain ⟨f, hrow, hfr, -, hc1, hc2', hbg⟩ := ownE_rowIs ho3
      have hMx := HM.out.below hb3
      obtain ⟨cs, htop, hcs⟩ := hMx.top
      have HTOP := Lib.hid htop
      have HSN := Lib.hid (fun (v' : Value) (w2 : World) => hMx.snoc (v' := v') (w2 := w2) (by decide) htop hcs (r := r) (c := cap4) (fun i hi => by have := HG.out i hi; omega) (by omega) hrow hfr hc1 hc2')
      have hm4 : Hid (A.length ≤ 1000000000) := Lib.hid (by rw [HML.out]; omega)
      have hwx : w.heap.size ≤ w3.heap.size := Nat.le_trans hsw hb3.size
      have HBX := Lib.hid (HB.out.trans (hb3.mono hsw))
      clear ho3 hg3 hb3 htop hcs hrow hfr hc1 h34 hcw hMx
      go_wp2_with (at_builtin; refine wpList_app eltRB rfl (.tmp 12) (.tmp 19) rfl w.heap.size _ _ _ rfl HTOP.out [.slice (some ⟨b4, 0, none⟩) r.length cap4] rfl (by intro u hu; simp at hu; subst hu; rfl) rfl rfl hm4.out hwx ?_)
      intro v' w4 ho4 hb4 hg4
      have HM4 := Lib.hid (HSN.out v' w4 ho4 hg4)
      have HB4 := Lib.hid (HBX.out.trans hb4)
      clear ho4 hb4 hg4 HSN
      go_wp2_with fail
      go_roundw
      case rel => exact ⟨k + 1, _, by omega, by go_num, by rw [HMT.out]; exact HM4.out, HB4.out⟩
      case measure => simp [intOf]; omega
    · obtain rfl : k = T.length := by omega
      rw [List.take_length] at hm
      have HO := Lib.hid hm
      obtain ⟨aM, bM, cM, hvM, -, -, -⟩ := hm.tabB
      subst hvM
      clear hm hb
      go_wp2_with fail
      go_ret
      exact ⟨_, g, rfl, HO.out, HB.out⟩
end Go.Proofs.YtlmlchkolcmhpaaGreatDoor
end

section
/-
  Counting a byte in a string, byte by byte.
-/
namespace Go.Proofs.YtlmlchkolcmhpaaGreatDoor
open Go.RowKit

theorem byte_yes {x c : UInt8} {n : Nat} (hc : c.toNat = n) (h : x = c) : ((x.toNat : Int) == (n : Int)) = true := by
  subst h; subst hc; simp
theorem byte_no {x c : UInt8} {n : Nat} (hc : c.toNat = n) (h : x ≠ c) : ((x.toNat : Int) == (n : Int)) = false := by
  rw [beq_eq_false_iff_ne]
  intro e
  have : x.toNat = c.toNat := by omega
  exact h (UInt8.toNat_inj.1 this)
end Go.Proofs.YtlmlchkolcmhpaaGreatDoor
end

section
/-
  Contracts: spec.l41Cut, spec.l41Number.
-/
namespace Go.Proofs.YtlmlchkolcmhpaaGreatDoor
open Go.RowKit
open Go.ParseMath (cutL numS digS)

theorem cut_step {s : ByteArray} {c : UInt8} {f k : Nat} (hf : f ≤ k) (hk : k < s.size) (hn : c ∉ (s.data.toList.take k).drop f) (hx : s[k]'hk = c) :
    cutB c (s.extract f s.size) = s.extract f k :: cutB c (s.extract (k + 1) s.size) := by
  have hk2 : k < s.data.toList.length := by rw [Array.length_toList]; exact hk
  have hsz : s.data.toList.length = s.size := Array.length_toList
  have e : s.data.toList.drop f = (s.data.toList.take k).drop f ++ c :: s.data.toList.drop (k + 1) := by
    conv => lhs; rw [← List.take_append_drop k s.data.toList, List.drop_append_of_le_length (by rw [List.length_take]; omega), List.drop_eq_getElem_cons hk2]
    congr 2
  unfold cutB
  rw [ex_list, ex_list, List.take_of_length_le (by omega), e, Go.ParseMath.cutL_at hn, List.map_cons]
  congr 1
  apply ByteArray.ext
  apply Array.toList_inj.1
  rw [ex_list]
theorem cut_end {s : ByteArray} {c : UInt8} {f : Nat} (hn : c ∉ (s.data.toList.take s.size).drop f) : cutB c (s.extract f s.size) = [s.extract f s.size] := by
  unfold cutB
  rw [ex_list, Go.ParseMath.cutL_none hn]
  show [(⟨_⟩ : ByteArray)] = _
  congr 1
  apply ByteArray.ext
  apply Array.toList_inj.1
  rw [ex_list]
theorem not_more {s : ByteArray} {c : UInt8} {f k : Nat} (hf : f ≤ k) (hk : k < s.size) (hn : c ∉ (s.data.toList.take k).drop f) (hx : s[k]'hk ≠ c) : c ∉ (s.data.toList.take (k + 1)).drop f := by
  have hk2 : k < s.data.toList.length := by rw [Array.length_toList]; exact hk
  rw [List.take_succ_eq_append_getElem hk2, List.drop_append_of_le_length (by rw [List.length_take]; omega), List.mem_append, List.mem_singleton, not_or]
  exact ⟨hn, fun e => hx e.symm⟩
theorem not_none {s : ByteArray} {c : UInt8} (k : Nat) : c ∉ (s.data.toList.take k).drop k := by
  rw [List.drop_of_length_le (by rw [List.length_take]; omega)]
  simp
theorem cutB_all {s : ByteArray} {c : UInt8} : cutB c (s.extract 0 s.size) = cutB c s := by
  unfold cutB
  rw [ex_list, List.drop_zero, List.take_of_length_le (by rw [Array.length_toList]; exact Nat.le_refl _)]
theorem cutB_lenS (c : UInt8) (s : ByteArray) : (cutB c s).length ≤ s.size + 1 := by
  unfold cutB
  rw [List.length_map, Go.ParseMath.cutL_length]
  have : s.data.toList.count c ≤ s.data.toList.length := List.count_le_length
  rw [Array.length_toList] at this
  exact Nat.succ_le_succ this
theorem cutB_size {c : UInt8} {s x : ByteArray} (h : x ∈ cutB c s) : x.size ≤ s.size := by
  unfold cutB at h
  obtain ⟨l, hl, rfl⟩ := List.mem_map.1 h
  have := (Go.ParseMath.cutL_mem hl).2
  rw [Array.length_toList] at this
  show l.toArray.size ≤ s.data.size
  rw [List.size_toArray]
  exact this

set_option maxHeartbeats 1000000 in
theorem cutS (s : ByteArray) (hs : s.size ≤ 100000000) (c : UInt8) (w : World) :
    Calls Tryz.prog 15 #[.string s, .int .u8 c.toNat] w fun e w' => ∃ v, e = .returned v ∧ OwnS w' w.heap.size v (cutB c s) ∧ Below w.heap.size w w' := by
  obtain ⟨cn, hcn⟩ : ∃ cn, c.toNat = cn := ⟨_, rfl⟩
  rw [hcn]
  have HCN := Lib.hid hcn
  clear hcn
  go_enter Tryz.func15, Tryz.ntmps15
  go_wp2_with fail
  go_loopw [5, 6, 7] (fun v a i wr => ∃ (pre : List ByteArray) (f k : Nat), i = .int .i64 k ∧ a = .int .i64 f ∧ f ≤ k ∧ k ≤ s.size ∧ Hid (cutB c s = pre ++ cutB c (s.extract f s.size)) ∧ Hid (c ∉ (s.data.toList.take k).drop f) ∧ pre.length ≤ k ∧
    OwnS wr w.heap.size v pre ∧ Below w.heap.size w wr) (fun _ _ i _ => s.size - (intOf i).toNat)
  case atStart =>
    refine ⟨[], 0, 0, rfl, rfl, Nat.le_refl _, Nat.zero_le _, Lib.hid (by rw [cutB_all]; rfl), Lib.hid (not_none 0), Nat.le_refl _, ?_, (Below.refl _ _).alloc (Nat.le_refl _) _⟩
    have := World.ownsRow_lit (base := w.heap.size) (e := 9) (size := 1) w #[] 0 (Nat.le_refl _) (by unfold maxLen; omega) (by simp)
    simpa [OwnS] using this
  case round =>
    obtain ⟨pre, f, k, rfl, rfl, hfk, hk, HC, HN, hpl, ho, hb⟩ := hrel
    have HO := Lib.hid ho
    have HB := Lib.hid hb
    have hsz := hb.size
    clear ho hb
    by_cases hlt : k < s.size
    · by_cases hx : s[k]'hlt = c
      · have hq : (((s[k]'hlt).toNat : Int) == (cn : Int)) = true := byte_yes HCN.out hx
        have HCS := Lib.hid (cut_step hfk hlt HN.out hx)
        have hfki : (f : Int) ≤ (k : Int) := by omega
        have hks : k ≤ s.size := by omega
        clear hx
        go_wp2_with (at_builtin; refine wpList_appH eltS rfl (.tmp 20) (.tmp 25) rfl w.heap.size _ _ _ rfl HO.out [.string (s.extract f k)] rfl (by intro u hu; simp at hu; subst hu; rfl) rfl wr.heap.size (by simp) rfl ?c1 hsz ?_)
        case c1 => omega
        intro v' w2 ho2 hb2 _
        have HO2 : Hid (OwnS w2 w.heap.size v' (pre ++ [s.extract f k])) := Lib.hid (by unfold OwnS; rw [List.length_append, List.map_append]; exact ho2)
        have HB2 := Lib.hid (HB.out.trans hb2)
        clear ho2 hb2
        go_wp2_with fail
        go_roundw
        case rel => exact ⟨pre ++ [s.extract f k], k + 1, k + 1, by go_num, by go_num, Nat.le_refl _, by omega, Lib.hid (by rw [HC.out, HCS.out, List.append_assoc]; rfl), Lib.hid (not_none _), by simp; omega, HO2.out, HB2.out⟩
        case measure => simp [intOf]; omega
      · have hq : (((s[k]'hlt).toNat : Int) == (cn : Int)) = false := byte_no HCN.out hx
        have HN2 := Lib.hid (not_more hfk hlt HN.out hx)
        clear hx
        go_wp2_with fail
        go_roundw
        case rel => exact ⟨pre, f, k + 1, by go_num, rfl, by omega, by omega, HC, HN2, by omega, HO.out, HB.out⟩
        case measure => simp [intOf]; omega
    · obtain rfl : k = s.size := by omega
      have HCE := Lib.hid (cut_end HN.out)
      have hfki : (f : Int) ≤ (s.size : Int) := by omega
      go_wp2_with (at_builtin; refine wpList_appH eltS rfl (.tmp 29) (.tmp 33) rfl w.heap.size _ _ _ rfl HO.out [.string (s.extract f s.size)] rfl (by intro u hu; simp at hu; subst hu; rfl) rfl wr.heap.size (by simp) rfl ?c1 hsz ?_)
      case c1 => omega
      intro v' w2 ho2 hb2 _
      have HO2 : Hid (OwnS w2 w.heap.size v' (pre ++ [s.extract f s.size])) := Lib.hid (by unfold OwnS; rw [List.length_append, List.map_append]; exact ho2)
      have HB2 := Lib.hid (HB.out.trans hb2)
      clear ho2 hb2
      go_wp2_with fail
      go_ret
      exact ⟨v', rfl, by rw [HC.out, HCE.out]; exact HO2.out, HB2.out⟩

set_option maxHeartbeats 1000000 in
theorem numS_any (s : ByteArray) (hs : s.size ≤ 100000000) (w : World) :
    Calls Tryz.prog 92 #[.string s] w fun e w' => e = .returned (.int .i64 (numS s.data.toList)) ∧ w = w' := by
  by_cases h4 : 1 ≤ s.size ∧ s.size ≤ 4
  · have HNS := Lib.hid (show numS s.data.toList = digS 0 s.data.toList by unfold numS; rw [Array.length_toList]; exact if_pos h4)
    obtain ⟨h1, h2⟩ := h4
    go_enter Tryz.func92, Tryz.ntmps92
    go_wp2_with fail
    refine (in_yes _ _ _ _ (by omega) (by omega)).mono ?_
    rintro e w' ⟨rfl, rfl⟩
    go_wp2_with fail
    go_loop [3, 4] (fun a i => ∃ (k n : Nat), i = .int .i64 k ∧ a = .int .i64 n ∧ k ≤ s.size ∧ n < 10 ^ k ∧ Hid (digS 0 s.data.toList = digS n (s.data.toList.drop k))) (fun _ i => s.size - (intOf i).toNat)
    case atStart => exact ⟨0, 0, rfl, rfl, Nat.zero_le _, by decide, Lib.hid rfl⟩
    case round =>
      obtain ⟨k, n, rfl, rfl, hk, hn, HD⟩ := hrel
      by_cases hlt : k < s.size
      · have hn9 : n ≤ 999 := by
          have : k = 0 ∨ k = 1 ∨ k = 2 ∨ k = 3 := by omega
          rcases this with rfl | rfl | rfl | rfl <;> omega
        have hcons : s.data.toList.drop k = s[k]'hlt :: s.data.toList.drop (k + 1) := List.drop_eq_getElem_cons (by rw [Array.length_toList]; exact hlt)
        have hxb : (s[k]'hlt).toNat < 256 := (s[k]'hlt).toNat_lt
        obtain ⟨x, hx⟩ : ∃ x, (s[k]'hlt).toNat = x := ⟨_, rfl⟩
        have HDC := Lib.hid (show digS n (s.data.toList.drop k) = if x < 48 ∨ 57 < x then -1 else digS (10 * n + ((x : Int) - 48)) (s.data.toList.drop (k + 1)) by rw [hcons, Go.ParseMath.digS_cons, hx])
        rw [hx] at hxb
        have HX := Lib.hid hx
        have HPW := Lib.hid hn
        clear hn hcons
        by_cases hlo : x < 48
        · have HV := Lib.hid (show numS s.data.toList = -1 by rw [HNS.out, HD.out, HDC.out, if_pos (.inl hlo)])
          have hloi : (x : Int) < 48 := by omega
          go_wp2_with fail
          go_ret
          exact ⟨by rw [HV.out]; rfl, rfl⟩
        · by_cases hhi : 57 < x
          · have HV := Lib.hid (show numS s.data.toList = -1 by rw [HNS.out, HD.out, HDC.out, if_pos (.inr hhi)])
            go_wp2_with fail
            go_ret
            exact ⟨by rw [HV.out]; rfl, rfl⟩
          · have HV := Lib.hid (show digS 0 s.data.toList = digS ((10 * n + (x - 48) : Nat) : Int) (s.data.toList.drop (k + 1)) by
              rw [HD.out, HDC.out, if_neg (by omega)]
              congr 1
              omega)
            go_wp2_with fail
            go_round
            case rel =>
              refine ⟨k + 1, 10 * n + (x - 48), by go_num, int_eq (by omega), by omega, ?_, HV⟩
              have hp := HPW.out
              rw [Nat.pow_succ]
              obtain ⟨P, hP⟩ : ∃ P, 10 ^ k = P := ⟨_, rfl⟩
              rw [hP] at hp ⊢
              omega
            case measure => simp [intOf]; omega
      · obtain rfl : k = s.size := by omega
        have HV := Lib.hid (show numS s.data.toList = n by rw [HNS.out, HD.out, List.drop_of_length_le (by rw [Array.length_toList]; exact Nat.le_refl _)]; rfl)
        clear hn
        go_wp2_with fail
        go_ret
        exact ⟨by rw [HV.out]; rfl, rfl⟩
  · have HNS := Lib.hid (show numS s.data.toList = -1 by unfold numS; rw [Array.length_toList]; exact if_neg h4)
    have h4i : ¬ ((1 : Int) ≤ (s.size : Int) ∧ (s.size : Int) ≤ 4) := by omega
    go_enter Tryz.func92, Tryz.ntmps92
    go_wp2_with fail
    refine (in_no _ _ _ _ h4i).mono ?_
    rintro e w' ⟨rfl, rfl⟩
    go_wp2_with fail
    go_ret
    exact ⟨by rw [HNS.out]; rfl, rfl⟩
end Go.Proofs.YtlmlchkolcmhpaaGreatDoor
end

section
/-
  Contracts: spec.l51Number, spec.l51Numbers.
-/
namespace Go.Proofs.YtlmlchkolcmhpaaGreatDoor
open Go.RowKit
open Go.ParseMath (numS)

set_option maxHeartbeats 1000000 in
theorem scrS (x : ByteArray) (hs : x.size ≤ 100000000) (w : World) :
    Calls Tryz.prog 57 #[.string x] w fun e w' => e = .returned (.int .i64 (scrN x.data.toList)) ∧ w = w' := by
  have HC := Lib.hid (numS_any x hs w)
  obtain ⟨n, hn⟩ : ∃ n, numS x.data.toList = n := ⟨_, rfl⟩
  rw [hn] at HC
  by_cases h1 : x.data.toList = [45]
  · have HX := Lib.hid (word_is h1)
    have HS := Lib.hid (show scrN x.data.toList = -1 by unfold scrN; rw [if_pos h1])
    obtain ⟨z, hz⟩ : ∃ z, scrN x.data.toList = z := ⟨_, rfl⟩
    rw [hz] at HS ⊢
    have h2 : (x.toList == [45]) = true := by rw [Lib.toList_data, h1]; rfl
    clear hn h1 hz
    go_enter Tryz.func57, Tryz.ntmps57
    go_wp2_with fail
    refine (HC.out).mono ?_
    rintro e w' ⟨rfl, rfl⟩
    go_wp2_with fail
    go_ret
    exact ⟨by rw [HS.out]; rfl, rfl⟩
  · have HN : Hid (scrN x.data.toList = if n < 0 then 10000 else n) := Lib.hid (by unfold scrN; rw [if_neg h1, hn])
    obtain ⟨z, hz⟩ : ∃ z, scrN x.data.toList = z := ⟨_, rfl⟩
    rw [hz] at HN ⊢
    have h2 : (x.toList == [45]) = false := by rw [beq_eq_false_iff_ne, Lib.toList_data]; exact h1
    clear hn h1 hz
    by_cases h0 : n < 0
    · have HZ := Lib.hid (show z = 10000 by rw [HN.out, if_pos h0])
      clear HN
      go_enter Tryz.func57, Tryz.ntmps57
      go_wp2_with fail
      refine (HC.out).mono ?_
      rintro e w' ⟨rfl, rfl⟩
      go_wp2_with fail
      go_ret
      exact ⟨by rw [HZ.out]; rfl, rfl⟩
    · have HZ := Lib.hid (show z = n by rw [HN.out, if_neg h0])
      have h0' : 0 ≤ n := by omega
      clear HN h0
      go_enter Tryz.func57, Tryz.ntmps57
      go_wp2_with fail
      refine (HC.out).mono ?_
      rintro e w' ⟨rfl, rfl⟩
      go_wp2_with fail
      go_ret
      exact ⟨by rw [HZ.out]; rfl, rfl⟩

/-- The numbers behind the first word, read till now. -/
theorem numsB_take {ss : List ByteArray} {k : Nat} (h : k + 1 < ss.length) : (numsB ss).take (k + 1) = (numsB ss).take k ++ [scrN (ss.getD (k + 1) ⟨#[]⟩).data.toList] := by
  rw [nums_take (by rw [numsB_len]; omega), numsB_at ss h]

set_option maxHeartbeats 2000000 in
theorem scrsS (sb scap : Nat) (ss : List ByteArray) (w : World) (hrow : RowS w (some ⟨sb, 0, none⟩) sb 0 ss) (hl0 : 1 ≤ ss.length) (hl : ss.length ≤ 100000) (hsz : ∀ x ∈ ss, x.size ≤ 100000000) :
    Calls Tryz.prog 29 #[.slice (some ⟨sb, 0, none⟩) ss.length scap] w fun e w' => ∃ v, e = .returned v ∧ Own w' w.heap.size v (numsB ss) ∧ Below w.heap.size w w' := by
  have HROW := Lib.hid hrow
  have HSZ := Lib.hid hsz
  have h0 := hrow.2 0 (by omega)
  have hsb : sb < w.heap.size := World.block_lt_of_cell? _ _ h0
  clear hrow hsz h0
  go_enter Tryz.func29, Tryz.ntmps29
  go_wp2_with fail
  go_loopw [3, 4] (fun v i wr => ∃ k : Nat, k + 1 ≤ ss.length ∧ i = .int .i64 ((k + 1 : Nat) : Int) ∧ Own wr w.heap.size v ((numsB ss).take k) ∧ Below w.heap.size w wr) (fun _ i _ => ss.length - (intOf i).toNat)
  case atStart =>
    refine ⟨0, hl0, rfl, ?_, (Below.refl _ _).alloc (Nat.le_refl _) _⟩
    exact Own.lit [] (Nat.le_refl _) (by simp)
  case round =>
    obtain ⟨k, hk, rfl, ho, hb⟩ := hrel
    have HO := Lib.hid ho
    have HB := Lib.hid hb
    have hsw := hb.size
    by_cases hlt : k + 1 < ss.length
    · have hc : wr.cell? ⟨sb, k + 1, none⟩ = some (.string (ss.getD (k + 1) ⟨#[]⟩)) := (hb.cell (p := ⟨sb, k + 1, none⟩) hsb).trans (by have := HROW.out.2 (k + 1) hlt; rwa [Nat.zero_add] at this)
      have HT := Lib.hid (numsB_take hlt)
      obtain ⟨x, hx⟩ : ∃ x, ss.getD (k + 1) ⟨#[]⟩ = x := ⟨_, rfl⟩
      rw [hx] at hc HT
      have HXS := Lib.hid (show x.size ≤ 100000000 by
        rw [← hx, List.getD_eq_getElem?_getD, List.getElem?_eq_getElem hlt, Option.getD_some]
        exact HSZ.out _ (List.getElem_mem _))
      obtain ⟨zs, hzs⟩ : ∃ zs, (numsB ss).take k = zs := ⟨_, rfl⟩
      have hj9 : Hid (zs.length ≤ 1000000000) := Lib.hid (by rw [← hzs, List.length_take]; omega)
      rw [hzs] at HO HT
      have hki : ((k + 1 : Nat) : Int) < (ss.length : Int) := by omega
      clear ho hb hx hzs
      go_wp2_with fail
      refine (scrS x HXS.out wr).mono ?_
      rintro e w1 ⟨rfl, rfl⟩
      go_wp2_with (at_builtin; refine wpList_app eltI rfl (.tmp 12) (.tmp 18) rfl w.heap.size _ _ _ rfl HO.out [.int .i64 (scrN x.data.toList)] rfl (by intro u hu; simp at hu; subst hu; rfl) rfl rfl hj9.out hsw ?_)
      intro v' w2 ho2 hb2 _
      have HO2 := Lib.hid (show Own w2 w.heap.size v' ((numsB ss).take (k + 1)) by
        rw [HT.out]
        unfold Own
        rw [List.length_append, List.length_singleton, List.map_append, List.map_singleton]
        exact ho2)
      have HB2 := Lib.hid (HB.out.trans hb2)
      clear ho2 hb2
      go_wp2_with fail
      go_roundw
      case rel => exact ⟨k + 1, by omega, by go_num, HO2.out, HB2.out⟩
      case measure => simp [intOf]; omega
    · have hke : k + 1 = ss.length := by omega
      rw [List.take_of_length_le (by rw [numsB_len]; omega)] at ho
      have HO := Lib.hid ho
      have hki : ¬ ((k + 1 : Nat) : Int) < (ss.length : Int) := by omega
      clear ho hb hke
      go_wp2_with fail
      go_ret
      exact ⟨_, rfl, HO.out, HB.out⟩
end Go.Proofs.YtlmlchkolcmhpaaGreatDoor
end

section
/-
  Contracts: slices.Delete of one person; PeopleWithout of the program and of the reference.
-/
namespace Go.Proofs.YtlmlchkolcmhpaaGreatDoor
open Go.RowKit

/-- Some cells stored anew. -/
def setL (cs : List Value) : Nat → List Value → List Value
  | _, [] => cs
  | o, v :: r => setL (cs.set o v) (o + 1) r
theorem setL_len (cs : List Value) : ∀ (vs : List Value) (o : Nat), (setL cs o vs).length = cs.length := by
  intro vs
  induction vs generalizing cs with
  | nil => intro o; rfl
  | cons v r ih => intro o; rw [setL, ih, List.length_set]
theorem setL_at (vs : List Value) : ∀ (cs : List Value) (o i : Nat), o + vs.length ≤ cs.length → (setL cs o vs)[i]? = if o ≤ i ∧ i < o + vs.length then vs[i - o]? else cs[i]? := by
  induction vs with
  | nil => intro cs o i _; rw [setL, if_neg (by rintro ⟨h1, h2⟩; rw [List.length_nil] at h2; omega)]
  | cons v r ih =>
    intro cs o i h
    rw [List.length_cons] at h ⊢
    rw [setL, ih _ _ _ (by rw [List.length_set]; omega), List.getElem?_set]
    by_cases h1 : o = i
    · subst h1
      rw [if_neg (by omega), if_pos rfl, if_pos (by omega), if_pos (by omega), Nat.sub_self]
      first | done | rfl
    · rw [if_neg h1]
      by_cases h2 : o ≤ i ∧ i < o + (r.length + 1)
      · rw [if_pos (by omega), if_pos h2, show i - o = (i - (o + 1)) + 1 by omega, List.getElem?_cons_succ]
      · rw [if_neg (by omega), if_neg h2]
theorem orow_sets {base size n b m cap : Nat} {e : TypeId} (vs : List Value) : ∀ {w : World} {cs : List Value} (o : Nat), w.ownsRow base e size (.slice (some ⟨b, 0, none⟩) m cap) n cs → (w.setCells b o vs).ownsRow base e size (.slice (some ⟨b, 0, none⟩) m cap) n (setL cs o vs) := by
  induction vs with
  | nil => intro w cs o h; exact h
  | cons v r ih => intro w cs o h; exact ih (o + 1) (orow_set h)
theorem orow_less {w : World} {base size n n' b m cap : Nat} {e : TypeId} {cs : List Value} (h : w.ownsRow base e size (.slice (some ⟨b, 0, none⟩) m cap) n cs) (hn : n' ≤ n) : w.ownsRow base e size (.slice (some ⟨b, 0, none⟩) n' cap) n' (cs.take (n' * size)) := by
  have hle : n' * size ≤ n * size := Nat.mul_le_mul_right _ hn
  refine ⟨by rw [List.length_take, h.1]; omega, ?_⟩
  rcases h.2 with ⟨h0, _⟩ | ⟨g, c2, cur, hv, hg, hh, h1, h2, h3, h4⟩
  · cases h0
  · injection hv with e1 e2 e3
    injection e1 with e1
    injection e1 with e1 _ _
    subst e1 e2 e3
    refine .inr ⟨b, cap, cur, rfl, hg, hh, by omega, h2, h3, ?_⟩
    rw [← h4, List.take_take, Nat.min_eq_left hle]
theorem below_sets {b B : Nat} (hB : B ≤ b) (vs : List Value) : ∀ (w w0 : World) (o : Nat), Below B w0 w → Below B w0 (w.setCells b o vs) := by
  induction vs with
  | nil => intro w w0 o h; exact h
  | cons v r ih => intro w w0 o h; exact ih _ _ _ (h.setCell (p := ⟨b, o, none⟩) hB _)
theorem pc_append (A B : List Per) : pc (A ++ B) = pc A ++ pc B := by
  induction A with
  | nil => rfl
  | cons p A ih => show _ :: _ :: _ :: _ :: pc (A ++ B) = _; rw [ih]; rfl
theorem pc_drop : ∀ (L : List Per) (k : Nat), (pc L).drop (k * 4) = pc (L.drop k)
  | L, 0 => by simp
  | [], k + 1 => by simp [pc]
  | p :: L, k + 1 => by
    have := pc_drop L k
    rw [List.drop_succ_cons, ← this, show (k + 1) * 4 = k * 4 + 4 by omega]
    rfl
theorem pc_take (L : List Per) (k : Nat) (hk : k ≤ L.length) : (pc L).take (k * 4) = pc (L.take k) := by
  have h1 : pc L = pc (L.take k) ++ pc (L.drop k) := by rw [← pc_append, List.take_append_drop]
  rw [h1, List.take_append_of_le_length (by rw [pc_len, List.length_take]; omega), List.take_of_length_le (by rw [pc_len, List.length_take]; omega)]
/-- What the shift to the left leaves. -/
theorem shift_pc {L : List Per} {k : Nat} (hk : k < L.length) (zs : List Value) (hz : zs.length = 4) :
    (setL (setL (pc L) (k * 4) (pc (L.drop (k + 1)))) ((L.length - 1) * 4) zs).take ((L.length - 1) * 4) = pc (without L k) := by
  have hl := pc_len L
  have hd : (pc (L.drop (k + 1))).length = (L.length - (k + 1)) * 4 := by rw [pc_len, List.length_drop]
  apply List.ext_getElem?
  intro i
  rw [List.getElem?_take]
  have hw : (pc (without L k)).length = (L.length - 1) * 4 := by rw [pc_len]; have := without_len hk; omega
  by_cases hi : i < (L.length - 1) * 4
  · rw [if_pos hi, setL_at _ _ _ _ (by rw [setL_len, hl, hz]; omega), if_neg (by omega), setL_at _ _ _ _ (by rw [hd, hl]; omega)]
    unfold without
    rw [pc_append]
    have ht : (pc (L.take k)).length = k * 4 := by rw [pc_len, List.length_take]; omega
    by_cases h2 : k * 4 ≤ i
    · rw [if_pos (by omega), List.getElem?_append_right (by omega), ht]
    · rw [if_neg (by omega), List.getElem?_append_left (by omega), ← pc_take L k (by omega), List.getElem?_take, if_pos (by omega)]
  · rw [if_neg hi, List.getElem?_eq_none (by omega)]

/-- append within the room that there is. -/
theorem wp_room {o : Oper} {a : Act} {w : World} {K : Act → World → Prop} {Q : Exit → Act → World → Prop} (s x : Operand) (t : TypeId) (hop : o.op = Op.call { callee := Callee.builtin Builtin.append, args := #[s, x], argTypes := #[t, t] })
    (e : TypeId) (i : TypeInfo) (size : Nat) (h1 : Tryz.prog.underlying t = some (.slice e)) (h2 : Tryz.prog.info? e = some i) (h4 : i.size = size)
    (b off n cap : Nat) (hs : a.eval s = .slice (some ⟨b, off, none⟩) n cap)
    (ad : Addr) (m c : Nat) (news : List Value) (hx : a.eval x = .slice (some ad) m c) (hn : news.length = m * size) (hc : ∀ j u, news[j]? = some u → w.cell? (ad.add j) = some u) (h1c : ∀ u ∈ news, u.oneCell' = true)
    (hroom : n + m ≤ cap) (hspare : ∀ j, j < news.length → (w.cell? ⟨b, off + n * size + j, none⟩).isSome = true ∧ w.frozen? ⟨b, off + n * size + j, none⟩ = false)
    (hK : K (a.put o.dst (.slice (some ⟨b, off, none⟩) (n + m) cap)) (w.setCells b (off + n * size) news)) : Oper.wp Tryz.prog o a w K Q := by
  subst h4
  have hrun := run_append_room_cells (P := Tryz.prog) w t o.type e i h1 h2 b off n cap ad m c news hn hc h1c hroom (fun j hj => (hspare j hj).1) (fun j hj => (hspare j hj).2)
  unfold Oper.wp
  simp [execOp, hop, resolve, invoke, builtin, hs, hx, hrun, Result.andThen]
  exact hK
def z4 : List Value := [.int .i64 0, .int .i64 0, .int .i64 0, .int .i64 0]
theorem clear_one (w : World) (ty : TypeId) (b o c : Nat) (hc : ∀ j, j < 4 → (w.cell? ⟨b, o + j, none⟩).isSome = true) (hf : ∀ j, j < 4 → w.frozen? ⟨b, o + j, none⟩ = false) :
    (Builtin.clear_ #[27] ty #[.slice (some ⟨b, o, none⟩) 1 c]).run Tryz.prog w = .ok (.tuple #[]) (w.setCells b o z4) := by
  have hst := run_storeCells_cells (P := Tryz.prog) b o z4 0 w (by simpa [z4] using hc) (by simpa [z4] using hf) (by intro v hv; simp [z4] at hv; subst hv; rfl)
  simp only [Nat.add_zero] at hst
  have hz : (Builtin.zeroCells (Value.agg #[.int .i64 0, .int .i64 0, .int .i64 0, .int .i64 0]).cells 1).toList = z4 := by kernel_rfl
  simp [Builtin.clear_, run_underlying Tryz.underlying27, Tryz.zeroValue69, hz, hst]

theorem orow_at {w : World} {base b m n cap size : Nat} {e : TypeId} {cs : List Value} (h : w.ownsRow base e size (.slice (some ⟨b, 0, none⟩) m cap) n cs) {j : Nat} (hj : j < n * size) : (w.cell? ⟨b, j, none⟩).isSome = true ∧ w.frozen? ⟨b, j, none⟩ = false := by
  have h1 := World.ownsRow.cells (g := b) h rfl j (cs[j]'(by rw [h.1]; exact hj)) (List.getElem?_eq_getElem _)
  rw [add_none, Nat.zero_add] at h1
  refine ⟨by rw [h1]; rfl, ?_⟩
  rcases h.2 with ⟨h0, _⟩ | ⟨g2, cap2, cur2, hv2, hb2, hh2, hn2, hm2, hs2, _⟩
  · cases h0
  · injection hv2 with e1 e2 e3
    injection e1 with e1
    injection e1 with e1 _ _
    subst e1
    simp [World.frozen?, hh2]
theorem own_at {w : World} {base b n cap : Nat} {L : List Per} (h : OwnPpl w base (.slice (some ⟨b, 0, none⟩) n cap) L) {j : Nat} (hj : j < L.length * 4) : (w.cell? ⟨b, j, none⟩).isSome = true ∧ w.frozen? ⟨b, j, none⟩ = false := by
  refine ⟨?_, own_frozen h j⟩
  have := World.ownsRow.cells (g := b) h rfl j ((pc L)[j]'(by rw [pc_len]; exact hj)) (List.getElem?_eq_getElem _)
  rw [add_none, Nat.zero_add] at this
  rw [this]
  rfl

set_option maxRecDepth 100000 in
set_option maxHeartbeats 2000000 in
theorem delP (base b cap : Nat) (L : List Per) (k j : Nat) (w : World) (ho : OwnPpl w base (.slice (some ⟨b, 0, none⟩) L.length cap) L) (hk : k < L.length) (hj : j = k + 1) (h40 : L.length ≤ 1000) :
    Calls Tryz.prog 73 #[.slice (some ⟨b, 0, none⟩) L.length cap, .int .i64 (k : Int), .int .i64 (j : Int)] w fun e w' =>
      e = .returned (.slice (some ⟨b, 0, none⟩) (L.length - 1) cap) ∧ OwnPpl w' base (.slice (some ⟨b, 0, none⟩) (L.length - 1) cap) (without L k) ∧ Below base w w' := by
  obtain ⟨ao', b', cap', hv, hc1, hc2, hlow, hpl⟩ := ho.ppl
  injection hv with e1 _ e3
  subst e3
  obtain ⟨e2, hbB, -⟩ := hlow (by omega)
  rw [← e1] at e2
  injection e2 with e2
  injection e2 with e2 _ _
  subst e2
  obtain ⟨i0, hi0, hz0, hz1, hz2⟩ := info_parts eltP.info
  obtain ⟨news, hnews⟩ : ∃ news, news = pc (L.drop j) := ⟨_, rfl⟩
  have hlen : news.length = (L.length - j) * 4 := by rw [hnews, pc_len, List.length_drop]
  have hget : ∀ t u, news[t]? = some u → w.drew.cell? ⟨b, j * 4 + t, none⟩ = some u := by
    intro t u hu
    rw [hnews, ← pc_drop, List.getElem?_drop] at hu
    have := ppl_cells hpl _ u hu
    rw [Nat.zero_add] at this
    exact this
  obtain ⟨A, hA, hsrc⟩ : ∃ A : Addr, (if cap = j then (some ⟨b, 0, none⟩ : Option Addr) else some ⟨b, j * 4, none⟩) = some A ∧ Hid (∀ t u, news[t]? = some u → w.drew.cell? (A.add t) = some u) := by
    by_cases h : cap = j
    · refine ⟨⟨b, 0, none⟩, by simp [h], fun t u hu => ?_⟩
      have h0 : news.length = 0 := by rw [hlen]; omega
      rw [List.length_eq_zero_iff.1 h0] at hu
      simp at hu
    · refine ⟨⟨b, j * 4, none⟩, by simp [h], fun t u hu => ?_⟩
      rw [Addr.add_lit]
      exact hget t u hu
  have HNL := Lib.hid hlen
  have HNW := Lib.hid hnews
  have H1C : Hid (∀ u ∈ news, u.oneCell' = true) := Lib.hid (by rw [hnews]; exact pc_one _)
  have HO := Lib.hid ho
  have hkn : L.length - 1 = k + (L.length - j) := by omega
  have HKN := Lib.hid hkn
  have HJ := Lib.hid hj
  have hki : (k : Int) ≤ (j : Int) := by omega
  have hkj : k ≤ j := by omega
  have hji : (j : Int) ≤ (L.length : Int) := by omega
  have hjl : j ≤ L.length := by omega
  have hne : ((k : Int) == (j : Int)) = false := by simp; omega
  have hjc : j ≤ cap := by omega
  have hkc : k ≤ cap := by omega
  clear hj hnews hget hlen hpl e1 hkn ho
  go_enter Tryz.func73, Tryz.ntmps73
  go_wp2_with fail
  go_still_tail 6, (by kernel_rfl)
  change wpList _ _ _ _ _ w.drew
  refine wpList_want rfl fun _ hK => wp_room (.tmp 22) (.tmp 25) _ rfl _ i0 4 eltP.und hi0 hz1 b 0 k cap rfl A (L.length - j) (cap - j) news rfl HNL.out hsrc.out H1C.out (by omega) (fun t ht => ?_) ?_
  · rw [HNL.out] at ht
    rw [Nat.zero_add]
    exact own_at (show OwnPpl w.drew base _ L from HO.out) (by omega)
  refine hK _ _ ?_
  rw [Nat.zero_add, ← HKN.out]
  have hO1 : w.drew.ownsRow base 69 4 (.slice (some ⟨b, 0, none⟩) L.length cap) L.length (pc L) := HO.out
  have hO2 := orow_sets news (k * 4) hO1
  have hB2 := below_sets hbB news w.drew w (k * 4) ((Below.refl base w).drew)
  obtain ⟨W2, hW2⟩ : ∃ W2, w.drew.setCells b (k * 4) news = W2 := ⟨_, rfl⟩
  rw [hW2] at hO2 hB2 ⊢
  have HO2 := Lib.hid hO2
  have HB2 := Lib.hid hB2
  obtain ⟨m, hm⟩ : ∃ m, L.length - 1 = m := ⟨_, rfl⟩
  obtain ⟨n, hn⟩ : ∃ n, L.length = n := ⟨_, rfl⟩
  have HM := Lib.hid hm
  have HN := Lib.hid hn
  have hml : m ≤ n := by omega
  have hmi : (m : Int) ≤ (n : Int) := by omega
  have hmc : m ≤ cap := by omega
  have hnc : n ≤ cap := by omega
  have hmne : ¬ cap = m := by omega
  have hmn : n - m = 1 := by omega
  have hcl : ∀ ty, (Builtin.clear_ #[27] ty #[.slice (some ⟨b, m * 4, none⟩) 1 (cap - m)]).run Tryz.prog W2 = .ok (.tuple #[]) (W2.setCells b (m * 4) z4) := fun ty =>
    clear_one W2 ty b (m * 4) (cap - m) (fun t ht => (orow_at hO2 (show m * 4 + t < L.length * 4 by omega)).1) (fun t ht => (orow_at hO2 (show m * 4 + t < L.length * 4 by omega)).2)
  clear hO1 hO2 hB2 hW2 hK HO hsrc HNL H1C
  rw [hm, hn]
  clear hm hn
  go_wp2_with fail
  go_ret
  have h1 := orow_less (n' := m) (orow_sets z4 (m * 4) HO2.out) (by rw [HN.out]; exact hml)
  have h2 := shift_pc hk z4 rfl
  rw [HNW.out, HJ.out, ← HM.out] at h1
  rw [h2] at h1
  refine ⟨by rw [HM.out]; rfl, ?_, below_sets hbB z4 W2 w _ HB2.out⟩
  unfold OwnPpl
  have h3 : (without L k).length = L.length - 1 := by have := without_len hk; omega
  rw [h3, ← HM.out]
  exact h1

set_option maxHeartbeats 1000000 in
theorem withoutI_f (ao : Option Addr) (b cap : Nat) (L : List Per) (k : Int) (w : World) (hr : Ppl w ao b 0 L) (hl : L.length ≤ 100) (hv : ¬ (pplB L = true ∧ 0 ≤ k ∧ k < L.length)) :
    Calls Tryz.prog 39 #[.slice ao L.length cap, .int .i64 k] w fun e w' => e = .returned (.tuple #[.slice none 0 0, .bool false]) ∧ Below w.heap.size w w' := by
  have HC := Lib.hid (peopleI ao b 0 cap L w hr (by omega))
  have HV := Lib.hid hv
  clear hr hv
  go_enter Tryz.func39, Tryz.ntmps39
  go_wp2_with fail
  refine (HC.out).mono ?_
  rintro e w1 ⟨rfl, hb1⟩
  have HB1 := Lib.hid hb1
  clear hb1
  cases hp : pplB L with
  | false =>
    go_wp2_with fail
    go_ret2
    exact ⟨rfl, HB1.out⟩
  | true =>
    by_cases h0 : k < 0
    · clear hp
      go_wp2_with fail
      go_ret2
      exact ⟨rfl, HB1.out⟩
    · have hge : (L.length : Int) ≤ k := by
        have := HV.out
        rw [hp] at this
        by_cases h : k < (L.length : Int)
        · exact absurd ⟨rfl, by omega, h⟩ this
        · omega
      clear hp
      go_wp2_with fail
      go_ret2
      exact ⟨rfl, HB1.out⟩

set_option maxHeartbeats 1000000 in
theorem withoutI (ao : Option Addr) (b cap : Nat) (L : List Per) (k : Nat) (w : World) (hr : Ppl w ao b 0 L) (hv : pplB L = true) (hk : k < L.length) (hc : L.length ≤ cap) (hn : ao = none → cap = 0) :
    Calls Tryz.prog 39 #[.slice ao L.length cap, .int .i64 (k : Int)] w fun e w' => ∃ v, e = .returned (.tuple #[v, .bool true]) ∧ OwnPpl w' w.heap.size v (without L k) ∧ Below w.heap.size w w' := by
  have h40 := (ppl_t.1 hv).1
  have HC := Lib.hid (peopleI ao b 0 cap L w hr (by omega))
  have HV := Lib.hid hv
  have HR := Lib.hid hr
  have HK := Lib.hid (show ∀ W : World, Ppl W ao b 0 L → _ from fun W h => cloneP ao b cap L W h (by omega) hc hn)
  have hk0 : ¬ (k : Int) < 0 := by omega
  have hk1 : ¬ (L.length : Int) ≤ (k : Int) := by omega
  have hwr : IntKind.i64.wrap ((k : Int) + 1) = ((k + 1 : Nat) : Int) := by rw [IntWalk.i64_in _ ⟨by omega, by omega⟩]; rfl
  obtain ⟨j, hj⟩ : ∃ j, k + 1 = j := ⟨_, rfl⟩
  rw [hj] at hwr
  have HJ := Lib.hid hj
  have HH := Lib.hid hk
  clear hr hv hj hn
  go_enter Tryz.func39, Tryz.ntmps39
  go_wp2_with fail
  refine (HC.out).mono ?_
  rintro e w1 ⟨rfl, hb1⟩
  rw [HV.out]
  have HB1 := Lib.hid hb1
  have HR1 := Lib.hid (HR.out.keep hb1 (Nat.le_refl _))
  clear hb1
  go_wp2_with fail
  refine (HK.out _ HR1.out).mono ?_
  rintro e w2 ⟨v, rfl, ho, hb2⟩
  have HB2 := Lib.hid (HB1.out.trans (hb2.mono HB1.out.size))
  obtain ⟨av, bv, cv, rfl, k1, k2, k3, -⟩ := ho.ppl
  obtain ⟨rfl, -, -⟩ := k3 (by omega)
  have HO := Lib.hid (own_mono ho HB1.out.size)
  clear ho hb2
  go_wp2_with fail
  refine (delP w.heap.size bv cv L k j w2 HO.out HH.out HJ.out.symm (by omega)).mono ?_
  rintro e w3 ⟨rfl, ho3, hb3⟩
  have HO3 := Lib.hid ho3
  have HB3 := Lib.hid (HB2.out.trans hb3)
  clear ho3 hb3
  go_wp2_with fail
  go_ret2
  exact ⟨_, rfl, HO3.out, HB3.out⟩
end Go.Proofs.YtlmlchkolcmhpaaGreatDoor
end

section
/-
  Contracts: spec.DrawPeopleValid; lengths of people's lines.
-/
namespace Go.Proofs.YtlmlchkolcmhpaaGreatDoor
open Go.RowKit
open Go.TextMath (text word)
open Go.ParseMath

def slen : Value → Nat
  | .slice _ n _ => n
  | _ => 0
/-- Drawn people: few, or too many. -/
def PplV (w : World) (e : Ending) (w' : World) : Prop :=
  ∃ (ao : Option Addr) (b cap : Nat) (L : List Per), e = .returned (.slice ao L.length cap) ∧ Ppl w' ao b 0 L ∧ L.length ≤ cap ∧ cap ≤ 9223372036854775807 ∧ (L.length ≤ 12 ∨ L.length = 41) ∧ Below w.heap.size w w'

end Go.Proofs.YtlmlchkolcmhpaaGreatDoor
end

section
/-
  Contracts: spec.PeopleWithout, spec.DrawPeopleWithout.
-/
namespace Go.Proofs.YtlmlchkolcmhpaaGreatDoor
open Go.RowKit

set_option maxHeartbeats 1000000 in
theorem withoutS_f (ao : Option Addr) (b cap : Nat) (L : List Per) (k : Int) (w : World) (hr : Ppl w ao b 0 L) (hl : L.length ≤ 100) (hv : ¬ (pplB L = true ∧ 0 ≤ k ∧ k < L.length)) :
    Calls Tryz.prog 58 #[.slice ao L.length cap, .int .i64 k] w fun e w' => ∃ a, e = .returned (.tuple #[.slice a 0 0, .bool false]) ∧ Below w.heap.size w w' := by
  have HC := Lib.hid (peopleS ao b 0 cap L w hr (by omega))
  have HV := Lib.hid hv
  have hwr : IntKind.i64.wrap ((L.length : Int) - 1) = (L.length : Int) - 1 := IntWalk.i64_in _ ⟨by omega, by omega⟩
  clear hr hv
  go_enter Tryz.func58, Tryz.ntmps58
  go_wp2_with fail
  refine (HC.out).mono ?_
  rintro e w1 ⟨rfl, hb1⟩
  have HB1 := Lib.hid hb1
  clear hb1
  cases hp : pplB L with
  | false =>
    go_wp2_with fail
    go_ret2
    exact ⟨_, rfl, HB1.out.alloc HB1.out.size _⟩
  | true =>
    have HN := Lib.hid (show ¬ (0 ≤ k ∧ k ≤ (L.length : Int) - 1) from fun h => HV.out ⟨hp, h.1, by omega⟩)
    clear hp
    go_wp2_with fail
    refine (in_no _ _ _ _ HN.out).mono ?_
    rintro e w2 ⟨rfl, rfl⟩
    go_wp2_with fail
    go_ret2
    exact ⟨_, rfl, HB1.out.alloc HB1.out.size _⟩

/-- Drawn people and a place, or none. -/
def PplK (w : World) (e : Ending) (w' : World) : Prop :=
  ∃ (ao : Option Addr) (b cap : Nat) (L : List Per) (k : Int), e = .returned (.tuple #[.slice ao L.length cap, .int .i64 k]) ∧ Ppl w' ao b 0 L ∧ L.length ≤ cap ∧ cap ≤ 9223372036854775807 ∧ L.length ≤ 12 ∧ (ao = none → cap = 0) ∧ Below w.heap.size w w'
end Go.Proofs.YtlmlchkolcmhpaaGreatDoor
end

section
/-
  Plain mathematics: the map of the groups' sizes, as it reads.
-/
namespace Go.Proofs.YtlmlchkolcmhpaaGreatDoor
open Go.RowKit Go.Maps Go.WideShapes

/-- How the keys of people stand to their groups. -/
structure GKey (K : Per → Lit) : Prop where
  key : ∀ p, PerOk p → WideAt.IsKeyLit (K p)
  same : ∀ p q, PerOk p → PerOk q → (K p = K q ↔ sameG p q = true)

theorem sameG_comm (p q : Per) : sameG p q = sameG q p := by
  unfold sameG
  rw [Bool.eq_iff_iff]
  simp only [decide_eq_true_eq]
  constructor <;> rintro ⟨h1, h2, h3⟩ <;> exact ⟨h1.symm, h2.symm, h3.symm⟩
theorem sameG_trans {p q : Per} (h : sameG p q = true) (r : Per) : sameG p r = sameG q r := by
  unfold sameG at h ⊢
  simp only [decide_eq_true_eq] at h
  obtain ⟨h1, h2, h3⟩ := h
  rw [h1, h2, h3]
theorem sizeG_same {L : List Per} {p q : Per} (h : sameG p q = true) : sizeG L p = sizeG L q := by
  unfold sizeG
  exact congrArg (fun f => L.countP f) (funext fun r => sameG_trans h r)

/-- The map of the sizes of the groups of some people. -/
structure MapG (K : Per → Lit) (L : List Per) (D : DataW Unit) : Prop where
  tidy : Tidy D
  at_ : ∀ p, PerOk p → D.atKey (K p) (dn 0) = dn (sizeG L p)
  has : ∀ p, PerOk p → Maps.has D (K p) = L.any (sameG p)
  from_ : ∀ kl, Maps.has D kl = true → ∃ p ∈ L, kl = K p
  size : Maps.size D = manyG L

theorem MapG.nil (K : Per → Lit) : MapG K [] (.map []) where
  tidy := tidy_empty
  at_ p _ := rfl
  has p _ := rfl
  from_ kl h := by cases h
  size := rfl

theorem MapG.snoc {K : Per → Lit} (hK : GKey K) {L : List Per} {D : DataW Unit} (h : MapG K L D) {p : Per} (hp : PerOk p) : MapG K (L ++ [p]) (D.put (K p) (dn (sizeG L p + 1))) where
  tidy := h.tidy.put (hK.key p hp) _
  at_ q hq := by
    by_cases e : K q = K p
    · rw [e, atKey_put_same h.tidy.isMap (hK.key p hp), sizeG_snoc]
      have hs := (hK.same q p hq hp).1 e
      rw [sizeG_same hs, if_pos hs]
      rfl
    · rw [atKey_put_other e, h.at_ q hq, sizeG_snoc, if_neg (fun hs => e ((hK.same q p hq hp).2 hs))]
      rfl
  has q hq := by
    rw [List.any_append]
    by_cases e : K q = K p
    · rw [e, has_put_same h.tidy.isMap (hK.key p hp)]
      simp [(hK.same q p hq hp).1 e]
    · rw [has_put_other e, h.has q hq]
      have hs : sameG q p = false := by
        rw [Bool.eq_false_iff]
        exact fun hs => e ((hK.same q p hq hp).2 hs)
      simp [hs]
  from_ kl hk := by
    by_cases e : kl = K p
    · exact ⟨p, by simp, e⟩
    · rw [has_put_other e] at hk
      obtain ⟨q, hq, he⟩ := h.from_ kl hk
      exact ⟨q, by simp [hq], he⟩
  size := by
    rw [size_put h.tidy, h.has p hp, manyG_snoc, h.size]
    split <;> simp_all

/-- The least size found till now, by what is still to come. -/
def LeastS (K : Per → Lit) (L : List Per) (left : Lit → Bool) (v : Int) : Prop :=
  v ≤ L.length ∧ (∀ p ∈ L, left (K p) = false → v ≤ sizeG L p) ∧ (v = L.length ∨ ∃ p ∈ L, v = sizeG L p)
theorem LeastS.start {K : Per → Lit} {L : List Per} {D : DataW Unit} (h : MapG K L D) (hL : ∀ p ∈ L, PerOk p) : LeastS K L (Maps.has D) L.length :=
  ⟨Int.le_refl _, fun p hp hl => (by
    rw [h.has p (hL p hp)] at hl
    have : L.any (sameG p) = true := List.any_eq_true.2 ⟨p, hp, sameG_refl p⟩
    rw [hl] at this
    cases this), .inl rfl⟩
theorem LeastS.step {K : Per → Lit} (hK : GKey K) {L : List Per} (hL : ∀ p ∈ L, PerOk p) {left : Lit → Bool} {v : Int} (h : LeastS K L left v) {p : Per} (hp : p ∈ L) : LeastS K L (fun z => left z && !z.sameKey (K p)) (min v (sizeG L p)) := by
  obtain ⟨h1, h2, h3⟩ := h
  refine ⟨by omega, fun q hq hl => ?_, ?_⟩
  · simp only [Bool.and_eq_false_iff, Bool.not_eq_false'] at hl
    rcases hl with hl | hl
    · have := h2 q hq hl; omega
    · have := sizeG_same (L := L) ((hK.same q p (hL q hq) (hL p hp)).1 (WideAt.sameKey_eq hl))
      omega
  · rcases Int.le_total v (sizeG L p) with hle | hle
    · rw [Int.min_eq_left hle]; exact h3
    · rw [Int.min_eq_right hle]; exact .inr ⟨p, hp, rfl⟩
theorem LeastS.done {K : Per → Lit} {L : List Per} {left : Lit → Bool} {v : Int} (h : LeastS K L left v) (hl : ∀ kl, left kl = false) : leastG L = v :=
  leastG_of h.1 (fun p hp => h.2.1 p hp (hl _)) h.2.2
end Go.Proofs.YtlmlchkolcmhpaaGreatDoor
end
