/-
  Plain mathematics: the map of the groups' sizes, as it reads.
-/
import Derived.Maps.OwnSet
import Derived.Maps.Views
import Derived.Test.YtcjhenfofekofaaGreatDoorJ3
namespace Go.Proofs.YtcjhenfofekofaaGreatDoor
open Go.RowKit Go.Maps Go.WideShapes

/-- How the keys of people stand to their groups. -/
structure GKey (K : Per → Lit) : Prop where
  key : ∀ p, PerOk p → WideAt.IsKeyLit (K p)
  same : ∀ p q, PerOk p → PerOk q → (K p = K q ↔ sameG p q = true)

theorem sameG_comm (p q : Per) : sameG p q = sameG q p := by
  unfold sameG
  rw [Bool.eq_iff_iff]
  simp only [decide_eq_true_eq]
  constructor <;> rintro ⟨h1, h2, h3⟩ <;> exact ⟨h1.symm, h2.symm, h3.symm⟩
theorem sameG_trans {p q : Per} (h : sameG p q = true) (r : Per) : sameG p r = sameG q r := by
  unfold sameG at h ⊢
  simp only [decide_eq_true_eq] at h
  obtain ⟨h1, h2, h3⟩ := h
  rw [h1, h2, h3]
theorem sizeG_same {L : List Per} {p q : Per} (h : sameG p q = true) : sizeG L p = sizeG L q := by
  unfold sizeG
  exact congrArg (fun f => L.countP f) (funext fun r => sameG_trans h r)

/-- The map of the sizes of the groups of some people. -/
structure MapG (K : Per → Lit) (L : List Per) (D : DataW Unit) : Prop where
  tidy : Tidy D
  at_ : ∀ p, PerOk p → D.atKey (K p) (dn 0) = dn (sizeG L p)
  has : ∀ p, PerOk p → Maps.has D (K p) = L.any (sameG p)
  from_ : ∀ kl, Maps.has D kl = true → ∃ p ∈ L, kl = K p
  size : Maps.size D = manyG L

theorem MapG.nil (K : Per → Lit) : MapG K [] (.map []) where
  tidy := tidy_empty
  at_ p _ := rfl
  has p _ := rfl
  from_ kl h := by cases h
  size := rfl

theorem MapG.snoc {K : Per → Lit} (hK : GKey K) {L : List Per} {D : DataW Unit} (h : MapG K L D) {p : Per} (hp : PerOk p) : MapG K (L ++ [p]) (D.put (K p) (dn (sizeG L p + 1))) where
  tidy := h.tidy.put (hK.key p hp) _
  at_ q hq := by
    by_cases e : K q = K p
    · rw [e, atKey_put_same h.tidy.isMap (hK.key p hp), sizeG_snoc]
      have hs := (hK.same q p hq hp).1 e
      rw [sizeG_same hs, if_pos hs]
      rfl
    · rw [atKey_put_other e, h.at_ q hq, sizeG_snoc, if_neg (fun hs => e ((hK.same q p hq hp).2 hs))]
      rfl
  has q hq := by
    rw [List.any_append]
    by_cases e : K q = K p
    · rw [e, has_put_same h.tidy.isMap (hK.key p hp)]
      simp [(hK.same q p hq hp).1 e]
    · rw [has_put_other e, h.has q hq]
      have hs : sameG q p = false := by
        rw [Bool.eq_false_iff]
        exact fun hs => e ((hK.same q p hq hp).2 hs)
      simp [hs]
  from_ kl hk := by
    by_cases e : kl = K p
    · exact ⟨p, by simp, e⟩
    · rw [has_put_other e] at hk
      obtain ⟨q, hq, he⟩ := h.from_ kl hk
      exact ⟨q, by simp [hq], he⟩
  size := by
    rw [size_put h.tidy, h.has p hp, manyG_snoc, h.size]
    split <;> simp_all

/-- The least size found till now, by what is still to come. -/
def LeastS (K : Per → Lit) (L : List Per) (left : Lit → Bool) (v : Int) : Prop :=
  v ≤ L.length ∧ (∀ p ∈ L, left (K p) = false → v ≤ sizeG L p) ∧ (v = L.length ∨ ∃ p ∈ L, v = sizeG L p)
theorem LeastS.start {K : Per → Lit} {L : List Per} {D : DataW Unit} (h : MapG K L D) (hL : ∀ p ∈ L, PerOk p) : LeastS K L (Maps.has D) L.length :=
  ⟨Int.le_refl _, fun p hp hl => (by
    rw [h.has p (hL p hp)] at hl
    have : L.any (sameG p) = true := List.any_eq_true.2 ⟨p, hp, sameG_refl p⟩
    rw [hl] at this
    cases this), .inl rfl⟩
theorem LeastS.step {K : Per → Lit} (hK : GKey K) {L : List Per} (hL : ∀ p ∈ L, PerOk p) {left : Lit → Bool} {v : Int} (h : LeastS K L left v) {p : Per} (hp : p ∈ L) : LeastS K L (fun z => left z && !z.sameKey (K p)) (min v (sizeG L p)) := by
  obtain ⟨h1, h2, h3⟩ := h
  refine ⟨by omega, fun q hq hl => ?_, ?_⟩
  · simp only [Bool.and_eq_false_iff, Bool.not_eq_false'] at hl
    rcases hl with hl | hl
    · have := h2 q hq hl; omega
    · have := sizeG_same (L := L) ((hK.same q p (hL q hq) (hL p hp)).1 (WideAt.sameKey_eq hl))
      omega
  · rcases Int.le_total v (sizeG L p) with hle | hle
    · rw [Int.min_eq_left hle]; exact h3
    · rw [Int.min_eq_right hle]; exact .inr ⟨p, hp, rfl⟩
theorem LeastS.done {K : Per → Lit} {L : List Per} {left : Lit → Bool} {v : Int} (h : LeastS K L left v) (hl : ∀ kl, left kl = false) : leastG L = v :=
  leastG_of h.1 (fun p hp => h.2.1 p hp (hl _)) h.2.2
end Go.Proofs.YtcjhenfofekofaaGreatDoor
