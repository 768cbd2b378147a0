/-
  Plain mathematics of ranks: spans of integer rows, elimination by columns, minors, Bareiss' identity, the two programs' runs, and what the statements say of ranks.
-/
import Derived.Test.YtjglikccikeejabRows
namespace Go.AskMath

abbrev Row := Nat → Int

def scal (a : Int) (u : Row) : Row := fun j => a * u j
def comb (a : Int) (u : Row) (b : Int) (v : Row) : Row := fun j => a * u j + b * v j

/-- What some rows span over the rational numbers: integer combinations, and whatever has a multiple other than zero in it. -/
inductive Sp (L : List Row) : Row → Prop
  | zero : Sp L (fun _ => 0)
  | mem {v : Row} : v ∈ L → Sp L v
  | comb {u v : Row} (a b : Int) : Sp L u → Sp L v → Sp L (comb a u b v)
  | div {v : Row} (d : Int) : d ≠ 0 → Sp L (scal d v) → Sp L v

theorem Sp.mono {L M : List Row} (h : ∀ v ∈ L, Sp M v) {v : Row} (hv : Sp L v) : Sp M v := by
  induction hv with
  | zero => exact .zero
  | mem hm => exact h _ hm
  | comb a b _ _ hu hv => exact .comb a b hu hv
  | div d hd _ ih => exact .div d hd ih

theorem Sp.sub {L M : List Row} (h : ∀ v ∈ L, v ∈ M) {v : Row} (hv : Sp L v) : Sp M v := Sp.mono (fun v hv => .mem (h v hv)) hv

theorem Sp.scal {L : List Row} (a : Int) {u : Row} (h : Sp L u) : Sp L (scal a u) := by
  have := Sp.comb a 0 h h
  have e : AskMath.comb a u 0 u = AskMath.scal a u := by funext j; simp [AskMath.comb, AskMath.scal]
  rwa [e] at this

/-- A column that is zero in all rows is zero in all that they span. -/
theorem Sp.col {L : List Row} {c : Nat} (h : ∀ v ∈ L, v c = 0) {v : Row} (hv : Sp L v) : v c = 0 := by
  induction hv with
  | zero => rfl
  | mem hm => exact h _ hm
  | comb a b _ _ hu hv => simp [AskMath.comb, hu, hv]
  | div d hd _ ih =>
    simp only [AskMath.scal] at ih
    rcases Int.mul_eq_zero.1 ih with h | h
    · exact absurd h hd
    · exact h

/-- One row less a multiple of the pivot's, so that the column becomes zero. -/
def elim (c : Nat) (p : Row) (v : Row) : Row := fun j => p c * v j - v c * p j

theorem elim_eq (c : Nat) (p v : Row) : elim c p v = comb (p c) v (-(v c)) p := by
  funext j; simp [elim, comb, Int.neg_mul, Int.sub_eq_add_neg]

theorem Sp.elim_sub {L : List Row} {c : Nat} {p v : Row} (hp : Sp L p) (hv : Sp L v) : Sp L (elim c p v) := by
  rw [elim_eq]; exact .comb _ _ hv hp

theorem Sp.elim_map {L : List Row} {c : Nat} {p : Row} {v : Row} (hv : Sp L v) : Sp (L.map (elim c p)) (elim c p v) := by
  induction hv with
  | zero =>
    have e : elim c p (fun _ => 0) = fun _ => 0 := by funext j; simp [elim]
    rw [e]; exact .zero
  | mem hm => exact .mem (List.mem_map_of_mem hm)
  | @comb u v a b _ _ hu hv =>
    have e : elim c p (AskMath.comb a u b v) = AskMath.comb a (elim c p u) b (elim c p v) := by
      funext j; simp only [elim, AskMath.comb]; grind
    rw [e]; exact .comb a b hu hv
  | @div v d hd _ ih =>
    have e : elim c p (AskMath.scal d v) = AskMath.scal d (elim c p v) := by
      funext j; simp only [elim, AskMath.scal]; grind
    rw [e] at ih; exact .div d hd ih

theorem Sp.elim_iff {L : List Row} {c : Nat} {p : Row} (hp : p ∈ L) (hc : p c ≠ 0) (v : Row) : Sp (L.map (elim c p)) v ↔ Sp L v ∧ v c = 0 := by
  constructor
  · intro h
    refine ⟨Sp.mono ?_ h, Sp.col ?_ h⟩
    · intro u hu
      obtain ⟨w, hw, rfl⟩ := List.mem_map.1 hu
      exact Sp.elim_sub (.mem hp) (.mem hw)
    · intro u hu
      obtain ⟨w, hw, rfl⟩ := List.mem_map.1 hu
      simp only [elim]; rw [Int.mul_comm]; omega
  · rintro ⟨h, h0⟩
    have := Sp.elim_map (c := c) (p := p) h
    have e : elim c p v = AskMath.scal (p c) v := by funext j; simp [elim, AskMath.scal, h0]
    rw [e] at this
    exact .div _ hc this

/-- The rank, column by column. -/
def rk : List Nat → List Row → Nat
  | [], _ => 0
  | c :: cs, L => match L.find? (fun v => v c != 0) with
    | none => rk cs L
    | some p => rk cs (L.map (elim c p)) + 1

theorem find_none {L : List Row} {c : Nat} (h : L.find? (fun v => v c != 0) = none) : ∀ v ∈ L, v c = 0 := by
  intro v hv
  have := List.find?_eq_none.1 h v hv
  simpa using this

theorem find_some {L : List Row} {c : Nat} {p : Row} (h : L.find? (fun v => v c != 0) = some p) : p ∈ L ∧ p c ≠ 0 := by
  refine ⟨List.mem_of_find?_eq_some h, ?_⟩
  have := List.find?_some h
  simpa using this

theorem rk_none {c : Nat} {cs : List Nat} {L : List Row} (h : ∀ v ∈ L, v c = 0) : rk (c :: cs) L = rk cs L := by
  have e : L.find? (fun v => v c != 0) = none := List.find?_eq_none.2 (fun v hv => by simp [h v hv])
  simp [rk, e]

/-- The rank hangs on the span alone. -/
theorem rk_span (cs : List Nat) : ∀ {L M : List Row}, (∀ v, Sp L v ↔ Sp M v) → rk cs L = rk cs M := by
  induction cs with
  | nil => intros; rfl
  | cons c cs ih =>
    intro L M h
    cases hl : L.find? (fun v => v c != 0) with
    | none =>
      have h0 := find_none hl
      have h1 : ∀ v ∈ M, v c = 0 := fun v hv => Sp.col h0 ((h v).2 (.mem hv))
      rw [rk_none h0, rk_none h1]
      exact ih h
    | some p =>
      obtain ⟨hp, hpc⟩ := find_some hl
      cases hm : M.find? (fun v => v c != 0) with
      | none =>
        have h0 := find_none hm
        exact absurd (Sp.col h0 ((h p).1 (.mem hp))) hpc
      | some q =>
        obtain ⟨hq, hqc⟩ := find_some hm
        simp only [rk, hl, hm]
        congr 1
        refine ih fun v => ?_
        rw [Sp.elim_iff hp hpc, Sp.elim_iff hq hqc, h v]

/-- The rank with whatever pivot. -/
theorem rk_pivot {c : Nat} {cs : List Nat} {L : List Row} {p : Row} (hp : p ∈ L) (hc : p c ≠ 0) : rk (c :: cs) L = rk cs (L.map (elim c p)) + 1 := by
  cases hl : L.find? (fun v => v c != 0) with
  | none => exact absurd (find_none hl p hp) hc
  | some q =>
    obtain ⟨hq, hqc⟩ := find_some hl
    simp only [rk, hl]
    congr 1
    refine rk_span cs fun v => ?_
    rw [Sp.elim_iff hp hc, Sp.elim_iff hq hqc]

theorem rk_in {cs : List Nat} {L : List Row} {v : Row} (h : Sp L v) : rk cs (L ++ [v]) = rk cs L := by
  refine rk_span cs fun u => ⟨Sp.mono fun w hw => ?_, Sp.sub fun w hw => List.mem_append_left _ hw⟩
  rcases List.mem_append.1 hw with hw | hw
  · exact .mem hw
  · simp at hw; subst hw; exact h

/-- A row that the others don't span raises the rank by one. -/
theorem rk_out (cs : List Nat) : ∀ {L : List Row} {v : Row}, (∀ u ∈ L ++ [v], ∀ j, j ∉ cs → u j = 0) → ¬ Sp L v → rk cs (L ++ [v]) = rk cs L + 1 := by
  induction cs with
  | nil =>
    intro L v h0 hv
    have : v = fun _ => 0 := by funext j; exact h0 v (by simp) j (by simp)
    exact absurd (this ▸ Sp.zero) hv
  | cons c cs ih =>
    intro L v h0 hv
    cases hl : L.find? (fun v => v c != 0) with
    | some p =>
      obtain ⟨hp, hpc⟩ := find_some hl
      rw [rk_pivot (List.mem_append_left _ hp) hpc, rk_pivot hp hpc, List.map_append]
      simp only [List.map_cons, List.map_nil]
      rw [ih]
      · intro u hu j hj
        have hu' : ∃ w ∈ L ++ [v], elim c p w = u := by
          rcases List.mem_append.1 hu with h | h
          · obtain ⟨w, hw, rfl⟩ := List.mem_map.1 h; exact ⟨w, List.mem_append_left _ hw, rfl⟩
          · simp at h; exact ⟨v, by simp, h.symm⟩
        obtain ⟨w, hw, rfl⟩ := hu'
        by_cases hjc : j = c
        · subst hjc; simp only [elim]; rw [Int.mul_comm]; omega
        · have h1 := h0 w hw j (by simp [hjc, hj])
          have h2 := h0 p (List.mem_append_left _ hp) j (by simp [hjc, hj])
          simp [elim, h1, h2]
      · intro hs
        have h1 : Sp L (elim c p v) := ((Sp.elim_iff hp hpc _).1 hs).1
        have h2 : Sp L (comb 1 (elim c p v) (v c) p) := .comb _ _ h1 (.mem hp)
        have e : comb 1 (elim c p v) (v c) p = scal (p c) v := by funext j; simp only [comb, elim, scal]; grind
        rw [e] at h2
        exact hv (.div _ hpc h2)
    | none =>
      have hz := find_none hl
      by_cases hvc : v c = 0
      · rw [rk_none hz, rk_none, ih]
        · intro u hu j hj
          by_cases hjc : j = c
          · subst hjc
            rcases List.mem_append.1 hu with h | h
            · exact hz u h
            · simp at h; subst h; exact hvc
          · exact h0 u hu j (by simp [hjc, hj])
        · exact hv
        · intro u hu
          rcases List.mem_append.1 hu with h | h
          · exact hz u h
          · simp at h; subst h; exact hvc
      · rw [rk_none hz, rk_pivot (p := v) (by simp) hvc]
        congr 1
        refine rk_span cs fun u => ⟨Sp.mono ?_, Sp.mono ?_⟩
        · intro w hw
          obtain ⟨x, hx, rfl⟩ := List.mem_map.1 hw
          rcases List.mem_append.1 hx with h | h
          · have e : elim c v x = AskMath.scal (v c) x := by funext j; simp [elim, AskMath.scal, hz x h]
            rw [e]; exact .scal _ (.mem h)
          · simp at h; subst h
            have e : elim c x x = fun _ => 0 := by funext j; simp [elim]
            rw [e]; exact .zero
        · intro w hw
          refine .div (v c) hvc (.mem (List.mem_map.2 ⟨w, List.mem_append_left _ hw, ?_⟩))
          funext j; simp [elim, AskMath.scal, hz w hw]

end Go.AskMath
namespace Go.AskMath

/-- The expansion along a row 'x': 'F' gives the minors of the other rows. -/
def dl (x : Nat → Int) : (List Nat → Int) → List Nat → Int
  | _, [] => 0
  | F, c :: cs => x c * F cs - dl x (fun l => F (c :: l)) cs

/-- The minor of some rows (the newest first) at some columns (the newest first). -/
def W : List (Nat → Int) → List Nat → Int
  | [] => fun _ => 1
  | x :: ps => dl x (W ps)

theorem dl_fun (x : Nat → Int) (a b : Int) (cs : List Nat) : ∀ F G : List Nat → Int, dl x (fun l => a * F l + b * G l) cs = a * dl x F cs + b * dl x G cs := by
  induction cs with
  | nil => intros; simp [dl]
  | cons c cs ih => intro F G; simp only [dl, ih]; grind

theorem dl_zero (x : Nat → Int) (cs : List Nat) : ∀ F : List Nat → Int, (∀ l, F l = 0) → dl x F cs = 0 := by
  induction cs with
  | nil => intros; rfl
  | cons c cs ih => intro F h; show x c * F cs - dl x (fun l => F (c :: l)) cs = 0; rw [ih _ (fun l => h (c :: l)), h]; simp

theorem dl_swap (x y : Nat → Int) (cs : List Nat) : ∀ F : List Nat → Int, dl x (dl y F) cs + dl y (dl x F) cs = 0 := by
  induction cs with
  | nil => intros; simp [dl]
  | cons c cs ih =>
    intro F
    have hx : (fun l => dl y F (c :: l)) = fun l => y c * F l + (-1) * dl y (fun m => F (c :: m)) l := by funext l; simp only [dl]; grind
    have hy : (fun l => dl x F (c :: l)) = fun l => x c * F l + (-1) * dl x (fun m => F (c :: m)) l := by funext l; simp only [dl]; grind
    have h := ih (fun m => F (c :: m))
    have e1 : dl x (dl y F) (c :: cs) = x c * dl y F cs - dl x (fun l => dl y F (c :: l)) cs := rfl
    have e2 : dl y (dl x F) (c :: cs) = y c * dl x F cs - dl y (fun l => dl x F (c :: l)) cs := rfl
    rw [e1, e2, hx, hy, dl_fun, dl_fun]
    grind

theorem W_mem (x : Nat → Int) : ∀ (ps : List (Nat → Int)) (_ : x ∈ ps) (cs : List Nat), W (x :: ps) cs = 0 := by
  intro ps
  induction ps with
  | nil => intro h; cases h
  | cons y qs ih =>
    intro h cs
    have hs := dl_swap x y cs (W qs)
    rcases List.mem_cons.1 h with rfl | h
    · have : W (x :: x :: qs) cs = dl x (dl x (W qs)) cs := rfl
      rw [this]; omega
    · have h0 : dl y (dl x (W qs)) cs = 0 := dl_zero y cs _ (fun l => ih h l)
      have : W (x :: y :: qs) cs = dl x (dl y (W qs)) cs := rfl
      rw [this]; omega

/-- A function of a row that looks at some columns alone, and is linear there. -/
def Sup : List Nat → ((Nat → Int) → Int) → Prop
  | [], f => ∀ y, f y = 0
  | c :: cs, f => ∃ k g, Sup cs g ∧ ∀ y, f y = k * y c + g y

theorem Sup.lin {cs : List Nat} (a b : Int) : ∀ {f g : (Nat → Int) → Int}, Sup cs f → Sup cs g → Sup cs (fun y => a * f y + b * g y) := by
  induction cs with
  | nil => intro f g hf hg y; simp [hf y, hg y]
  | cons c cs ih =>
    rintro f g ⟨k, f', hf, ef⟩ ⟨l, g', hg, eg⟩
    exact ⟨a * k + b * l, _, ih hf hg, fun y => by show a * f y + b * g y = _; rw [ef, eg]; grind⟩

theorem Sup.of_eq {cs : List Nat} {f g : (Nat → Int) → Int} (h : Sup cs f) (e : ∀ y, g y = f y) : Sup cs g := by
  have : g = f := funext e
  rwa [this]

theorem sup_dl (cs : List Nat) : ∀ F : List Nat → Int, Sup cs (fun y => dl y F cs) := by
  induction cs with
  | nil => intro F y; rfl
  | cons c cs ih =>
    intro F
    refine ⟨F cs, fun y => (-1) * dl y (fun l => F (c :: l)) cs + 0 * dl y (fun l => F (c :: l)) cs, Sup.lin _ _ (ih _) (ih _), fun y => ?_⟩
    simp only [dl]; grind

/-- None of the leading minors is zero. -/
def NZ : List (Nat → Int) → List Nat → Prop
  | [], [] => True
  | p :: ps, c :: cs => W (p :: ps) (c :: cs) ≠ 0 ∧ NZ ps cs
  | _, _ => False

theorem NZ.ne : ∀ {ps : List (Nat → Int)} {cs : List Nat}, NZ ps cs → W ps cs ≠ 0
  | [], [], _ => by simp [W]
  | _ :: _, _ :: _, h => h.1

theorem NZ.len : ∀ {ps : List (Nat → Int)} {cs : List Nat}, NZ ps cs → ps.length = cs.length
  | [], [], _ => rfl
  | _ :: _, _ :: _, h => by simp [NZ.len h.2]

theorem W_cons (y : Nat → Int) (ps : List (Nat → Int)) (c : Nat) (cs : List Nat) : W (y :: ps) (c :: cs) = y c * W ps cs - dl y (fun l => W ps (c :: l)) cs := rfl

/-- A linear function at the pivots' columns that is zero at the pivots' rows is zero. -/
theorem sup_zero : ∀ {ps : List (Nat → Int)} {cs : List Nat} {f : (Nat → Int) → Int}, NZ ps cs → Sup cs f → (∀ p ∈ ps, f p = 0) → ∀ y, f y = 0
  | [], [], _, _, hs, _ => hs
  | p :: ps, c :: cs, f, hn, ⟨k, g, hg, ef⟩, h0 => by
    have hz : ∀ y, W ps cs * f y + (-k) * W (y :: ps) (c :: cs) = 0 := by
      refine sup_zero (f := fun y => W ps cs * f y + (-k) * W (y :: ps) (c :: cs)) hn.2 ?_ ?_
      · refine (Sup.lin (W ps cs) k hg (sup_dl cs (fun l => W ps (c :: l)))).of_eq fun y => ?_
        rw [ef, W_cons]; grind
      · intro q hq
        have h1 := h0 q (List.mem_cons_of_mem _ hq)
        have h2 := W_mem q ps hq (c :: cs)
        simp only [h1, h2]; simp
    have hp := hz p
    rw [h0 p (List.mem_cons_self ..)] at hp
    have hk : k = 0 := by
      have : k * W (p :: ps) (c :: cs) = 0 := by grind
      rcases Int.mul_eq_zero.1 this with h | h
      · exact h
      · exact absurd h hn.1
    intro y
    have hy := hz y
    rw [hk] at hy
    have : W ps cs * f y = 0 := by grind
    rcases Int.mul_eq_zero.1 this with h | h
    · exact absurd h hn.2.ne
    · exact h

/-- Bareiss' identity. -/
theorem bareiss {ps : List (Nat → Int)} {cs : List Nat} (hn : NZ ps cs) (p : Nat → Int) (c j : Nat) (y : Nat → Int) :
    W (p :: ps) (c :: cs) * W (y :: ps) (j :: cs) - W (y :: ps) (c :: cs) * W (p :: ps) (j :: cs) = W ps cs * W (y :: p :: ps) (j :: c :: cs) := by
  have hz := sup_zero (f := fun y => W (p :: ps) (c :: cs) * W (y :: ps) (j :: cs) - W (y :: ps) (c :: cs) * W (p :: ps) (j :: cs) - W ps cs * W (y :: p :: ps) (j :: c :: cs)) hn ?_ ?_ y
  · have := hz; omega
  · have hA := sup_dl cs (fun l => W ps (j :: l))
    have hB := sup_dl cs (fun l => W ps (c :: l))
    have hC := sup_dl cs (fun l => W (p :: ps) (j :: c :: l))
    refine (Sup.lin 1 1 (Sup.lin (-(W (p :: ps) (c :: cs))) (W (p :: ps) (j :: cs)) hA hB) (Sup.lin (-(W ps cs)) 0 hC hC)).of_eq fun y => ?_
    have e : W (y :: p :: ps) (j :: c :: cs) = y j * W (p :: ps) (c :: cs) - (y c * W (p :: ps) (j :: cs) - dl y (fun l => W (p :: ps) (j :: c :: l)) cs) := rfl
    rw [e, W_cons y ps j cs, W_cons y ps c cs]
    grind
  · intro q hq
    have h1 := W_mem q ps hq (j :: cs)
    have h2 := W_mem q ps hq (c :: cs)
    have h3 := W_mem q (p :: ps) (List.mem_cons_of_mem _ hq) (j :: c :: cs)
    simp only [h1, h2, h3]; simp

/-! Rows of zeros and ones -/
def Bin (x : Nat → Int) : Prop := ∀ j, x j = 0 ∨ x j = 1

theorem dl_bound {x : Nat → Int} (hx : Bin x) (B : Int) (cs : List Nat) : ∀ (F : List Nat → Int), (∀ l, l.length + 1 = cs.length → -B ≤ F l ∧ F l ≤ B) →
    -(cs.length * B) ≤ dl x F cs ∧ dl x F cs ≤ cs.length * B := by
  induction cs with
  | nil => intro F _; simp [dl]
  | cons c cs ih =>
    intro F h
    have h1 := h cs (by simp)
    have h2 := ih (fun l => F (c :: l)) (fun l hl => h (c :: l) (by simp [hl]))
    simp only [dl, List.length_cons]
    have e : ((cs.length + 1 : Nat) : Int) * B = cs.length * B + B := by push_cast; grind
    rw [e]
    rcases hx c with h0 | h0 <;> rw [h0] <;> omega

/-- The four minors of three rows at four columns, signed, and the bounds of their sums. -/
def m3 (a b c d e f g h i : Int) : Int := a * (e * i - f * h) - b * (d * i - f * g) + c * (d * h - e * g)
def bi (b : Bool) : Int := cond b 1 0
def pos (n : Int) : Int := if 0 ≤ n then n else 0
def neg (n : Int) : Int := if 0 ≤ n then 0 else n
def ok4 (a b c d : Int) : Bool := decide (pos a + pos b + pos c + pos d ≤ 3) && decide (-3 ≤ neg a + neg b + neg c + neg d)

def allB (p : Bool → Bool) : Bool := p true && p false

theorem allB_at {p : Bool → Bool} (h : allB p = true) : ∀ b, p b = true := by
  simp only [allB, Bool.and_eq_true] at h
  intro b; cases b
  · exact h.2
  · exact h.1

def all4 : Bool :=
  allB fun a0 => allB fun a1 => allB fun a2 => allB fun a3 => allB fun b0 => allB fun b1 => allB fun b2 => allB fun b3 => allB fun c0 => allB fun c1 => allB fun c2 => allB fun c3 =>
    ok4 (m3 (bi a1) (bi a2) (bi a3) (bi b1) (bi b2) (bi b3) (bi c1) (bi c2) (bi c3)) (-(m3 (bi a0) (bi a2) (bi a3) (bi b0) (bi b2) (bi b3) (bi c0) (bi c2) (bi c3)))
      (m3 (bi a0) (bi a1) (bi a3) (bi b0) (bi b1) (bi b3) (bi c0) (bi c1) (bi c3)) (-(m3 (bi a0) (bi a1) (bi a2) (bi b0) (bi b1) (bi b2) (bi c0) (bi c1) (bi c2)))

theorem all4_true : all4 = true := by decide +kernel

theorem Bin.bi {x : Nat → Int} (h : Bin x) (j : Nat) : ∃ b, x j = AskMath.bi b := by
  rcases h j with h | h
  · exact ⟨false, h⟩
  · exact ⟨true, h⟩

theorem pick {a b c d w x y z : Int} (h : ok4 a b c d = true) (hw : w = 0 ∨ w = 1) (hx : x = 0 ∨ x = 1) (hy : y = 0 ∨ y = 1) (hz : z = 0 ∨ z = 1) :
    -3 ≤ w * a + x * b + y * c + z * d ∧ w * a + x * b + y * c + z * d ≤ 3 := by
  simp only [ok4, Bool.and_eq_true, decide_eq_true_eq] at h
  obtain ⟨h1, h2⟩ := h
  have ep : ∀ n w : Int, (w = 0 ∨ w = 1) → neg n ≤ w * n ∧ w * n ≤ pos n := by
    intro n w hw
    unfold neg pos
    rcases hw with rfl | rfl <;> split <;> omega
  have := ep a w hw; have := ep b x hx; have := ep c y hy; have := ep d z hz
  omega

theorem W4_bound {x1 x2 x3 x4 : Nat → Int} (h1 : Bin x1) (h2 : Bin x2) (h3 : Bin x3) (h4 : Bin x4) (a b c d : Nat) :
    -3 ≤ W [x1, x2, x3, x4] [a, b, c, d] ∧ W [x1, x2, x3, x4] [a, b, c, d] ≤ 3 := by
  obtain ⟨a0, ha0⟩ := h2.bi a; obtain ⟨a1, ha1⟩ := h2.bi b; obtain ⟨a2, ha2⟩ := h2.bi c; obtain ⟨a3, ha3⟩ := h2.bi d
  obtain ⟨b0, hb0⟩ := h3.bi a; obtain ⟨b1, hb1⟩ := h3.bi b; obtain ⟨b2, hb2⟩ := h3.bi c; obtain ⟨b3, hb3⟩ := h3.bi d
  obtain ⟨c0, hc0⟩ := h4.bi a; obtain ⟨c1, hc1⟩ := h4.bi b; obtain ⟨c2, hc2⟩ := h4.bi c; obtain ⟨c3, hc3⟩ := h4.bi d
  have hok := allB_at (allB_at (allB_at (allB_at (allB_at (allB_at (allB_at (allB_at (allB_at (allB_at (allB_at (allB_at all4_true a0) a1) a2) a3) b0) b1) b2) b3) c0) c1) c2) c3
  have hp := pick hok (h1 a) (h1 b) (h1 c) (h1 d)
  have e : W [x1, x2, x3, x4] [a, b, c, d] = x1 a * (m3 (bi a1) (bi a2) (bi a3) (bi b1) (bi b2) (bi b3) (bi c1) (bi c2) (bi c3)) + x1 b * (-(m3 (bi a0) (bi a2) (bi a3) (bi b0) (bi b2) (bi b3) (bi c0) (bi c2) (bi c3)))
      + x1 c * (m3 (bi a0) (bi a1) (bi a3) (bi b0) (bi b1) (bi b3) (bi c0) (bi c1) (bi c3)) + x1 d * (-(m3 (bi a0) (bi a1) (bi a2) (bi b0) (bi b1) (bi b2) (bi c0) (bi c1) (bi c2))) := by
    simp only [W, dl, ha0, ha1, ha2, ha3, hb0, hb1, hb2, hb3, hc0, hc1, hc2, hc3, m3]
    grind
  rw [e]; exact hp

theorem W_bound_next {x : Nat → Int} (hx : Bin x) {ps : List (Nat → Int)} {B : Int} {n : Nat} (h : ∀ l : List Nat, l.length = n → -B ≤ W ps l ∧ W ps l ≤ B) :
    ∀ l : List Nat, l.length = n + 1 → -((n + 1 : Nat) * B) ≤ W (x :: ps) l ∧ W (x :: ps) l ≤ (n + 1 : Nat) * B := by
  intro l hl
  have := dl_bound hx B l (W ps) (fun m hm => h m (by omega))
  rw [hl] at this
  exact this

/-- Minors of up to six rows of zeros and ones are at most 90. -/
theorem W_bound {ps : List (Nat → Int)} (hb : ∀ p ∈ ps, Bin p) (hn : ps.length ≤ 6) (cs : List Nat) (hl : cs.length = ps.length) : -90 ≤ W ps cs ∧ W ps cs ≤ 90 := by
  have w0 : ∀ l : List Nat, l.length = 0 → -1 ≤ W [] l ∧ W [] l ≤ 1 := by intro l _; simp [W]
  have w4 : ∀ {x1 x2 x3 x4 : Nat → Int}, Bin x1 → Bin x2 → Bin x3 → Bin x4 → ∀ l : List Nat, l.length = 4 → -3 ≤ W [x1, x2, x3, x4] l ∧ W [x1, x2, x3, x4] l ≤ 3 := by
    intro x1 x2 x3 x4 h1 h2 h3 h4 l hl
    match l, hl with
    | [a, b, c, d], _ => exact W4_bound h1 h2 h3 h4 a b c d
  match ps, hb, hn, hl with
  | [], _, _, hl => have := w0 cs hl; omega
  | [x1], hb, _, hl =>
    have := W_bound_next (hb x1 (by simp)) w0 cs hl
    omega
  | [x1, x2], hb, _, hl =>
    have := W_bound_next (hb x1 (by simp)) (W_bound_next (hb x2 (by simp)) w0) cs hl
    omega
  | [x1, x2, x3], hb, _, hl =>
    have := W_bound_next (hb x1 (by simp)) (W_bound_next (hb x2 (by simp)) (W_bound_next (hb x3 (by simp)) w0)) cs hl
    omega
  | [x1, x2, x3, x4], hb, _, hl =>
    have := w4 (hb x1 (by simp)) (hb x2 (by simp)) (hb x3 (by simp)) (hb x4 (by simp)) cs hl
    omega
  | [x0, x1, x2, x3, x4], hb, _, hl =>
    have := W_bound_next (hb x0 (by simp)) (w4 (hb x1 (by simp)) (hb x2 (by simp)) (hb x3 (by simp)) (hb x4 (by simp))) cs hl
    omega
  | [y, x0, x1, x2, x3, x4], hb, _, hl =>
    have := W_bound_next (hb y (by simp)) (W_bound_next (hb x0 (by simp)) (w4 (hb x1 (by simp)) (hb x2 (by simp)) (hb x3 (by simp)) (hb x4 (by simp)))) cs hl
    omega
  | _ :: _ :: _ :: _ :: _ :: _ :: _ :: _, _, hn, _ => simp at hn

end Go.AskMath
namespace Go.AskMath

/-- A row's minors beside the pivots: what stands in its place, j < n. -/
def V (n : Nat) (ps : List Row) (cs : List Nat) (x : Row) : Row := fun j => if j < n then W (x :: ps) (j :: cs) else 0

def rest (n m r : Nat) (ps : List Row) (cs : List Nat) (y : Nat → Row) : List Row := (List.range' r (m - r)).map fun i => V n ps cs (y i)

theorem mem_rest {n m r : Nat} {ps : List Row} {cs : List Nat} {y : Nat → Row} {v : Row} : v ∈ rest n m r ps cs y ↔ ∃ i, r ≤ i ∧ i < m ∧ V n ps cs (y i) = v := by
  simp only [rest, List.mem_map, List.mem_range'_1]
  constructor
  · rintro ⟨i, ⟨h1, h2⟩, rfl⟩; exact ⟨i, h1, by omega, rfl⟩
  · rintro ⟨i, h1, h2, rfl⟩; exact ⟨i, ⟨h1, by omega⟩, rfl⟩

/-- What holds when the columns below c are done: r pivots ('ps' at the columns 'cs'), the other rows 'y i', r ≤ i < m; 'tot' is the rank of all. -/
structure Com (n m tot c r : Nat) (ps : List Row) (cs : List Nat) (y : Nat → Row) : Prop where
  nz : NZ ps cs
  len : ps.length = r
  le : r ≤ c
  bin : ∀ p ∈ ps, Bin p
  biny : ∀ i, Bin (y i)
  rank : tot = r + rk (List.range' c (n - c)) (rest n m r ps cs y)

theorem Com.start (n m : Nat) (y : Nat → Row) (hy : ∀ i, Bin (y i)) : Com n m (rk (List.range n) (rest n m 0 [] [] y)) 0 0 [] [] y :=
  ⟨trivial, rfl, Nat.le_refl _, by simp, hy, by simp [List.range_eq_range']⟩

theorem Com.clen {n m tot c r : Nat} {ps : List Row} {cs : List Nat} {y : Nat → Row} (h : Com n m tot c r ps cs y) : cs.length = r := by rw [← h.nz.len, h.len]

/-- All that stands is at most 90. -/
theorem Com.bound {n m tot c r : Nat} {ps : List Row} {cs : List Nat} {y : Nat → Row} (h : Com n m tot c r ps cs y) (hr : r ≤ 5) (i j : Nat) : -90 ≤ W (y i :: ps) (j :: cs) ∧ W (y i :: ps) (j :: cs) ≤ 90 := by
  refine W_bound ?_ ?_ _ ?_
  · intro p hp
    rcases List.mem_cons.1 hp with rfl | hp
    · exact h.biny i
    · exact h.bin p hp
  · simp [h.len]; omega
  · simp [h.len, h.clen]

theorem Com.boundD {n m tot c r : Nat} {ps : List Row} {cs : List Nat} {y : Nat → Row} (h : Com n m tot c r ps cs y) (hr : r ≤ 6) : -90 ≤ W ps cs ∧ W ps cs ≤ 90 ∧ W ps cs ≠ 0 := by
  have := W_bound h.bin (by rw [h.len]; exact hr) cs (by rw [h.clen, h.len])
  exact ⟨this.1, this.2, h.nz.ne⟩

theorem range'_step {c n : Nat} (h : c < n) : List.range' c (n - c) = c :: List.range' (c + 1) (n - (c + 1)) := by
  obtain ⟨k, rfl⟩ : ∃ k, n = c + (k + 1) := ⟨n - c - 1, by omega⟩
  rw [show c + (k + 1) - c = k + 1 from by omega, show c + (k + 1) - (c + 1) = k from by omega, List.range'_succ]

/-- A column in which nothing stands. -/
theorem Com.skip {n m tot c r : Nat} {ps : List Row} {cs : List Nat} {y : Nat → Row} (h : Com n m tot c r ps cs y) (hc : c < n) (h0 : ∀ i, r ≤ i → i < m → W (y i :: ps) (c :: cs) = 0) : Com n m tot (c + 1) r ps cs y := by
  refine ⟨h.nz, h.len, by have := h.le; omega, h.bin, h.biny, ?_⟩
  rw [h.rank, range'_step hc, rk_none]
  intro v hv
  obtain ⟨i, h1, h2, rfl⟩ := mem_rest.1 hv
  simp [V, hc, h0 i h1 h2]

def swp (y : Nat → Row) (r k : Nat) : Nat → Row := fun i => if i = r then y k else if i = k then y r else y i

/-- A column with a pivot. -/
theorem Com.step {n m tot c r : Nat} {ps : List Row} {cs : List Nat} {y : Nat → Row} (h : Com n m tot c r ps cs y) (hc : c < n) (k : Nat) (hk1 : r ≤ k) (hk2 : k < m) (hp : W (y k :: ps) (c :: cs) ≠ 0) :
    Com n m tot (c + 1) (r + 1) (y k :: ps) (c :: cs) (swp y r k) := by
  refine ⟨⟨hp, h.nz⟩, by simp [h.len], by have := h.le; omega, ?_, ?_, ?_⟩
  · intro p hp
    rcases List.mem_cons.1 hp with rfl | hp
    · exact h.biny k
    · exact h.bin p hp
  · intro i; unfold swp; split
    · exact h.biny k
    · split
      · exact h.biny r
      · exact h.biny i
  · have hV : V n ps cs (y k) c ≠ 0 := by simpa [V, hc] using hp
    have hmem : V n ps cs (y k) ∈ rest n m r ps cs y := mem_rest.2 ⟨k, hk1, hk2, rfl⟩
    have hd := h.nz.ne
    have key : ∀ x : Row, elim c (V n ps cs (y k)) (V n ps cs x) = scal (W ps cs) (V n (y k :: ps) (c :: cs) x) := by
      intro x; funext j
      simp only [elim, scal, V, hc, if_true]
      by_cases hj : j < n
      · simp only [hj, if_true]; exact bareiss h.nz (y k) c j x
      · simp [hj]
    rw [h.rank, range'_step hc, rk_pivot hmem hV]
    have : rk (List.range' (c + 1) (n - (c + 1))) ((rest n m r ps cs y).map (elim c (V n ps cs (y k)))) = rk (List.range' (c + 1) (n - (c + 1))) (rest n m (r + 1) (y k :: ps) (c :: cs) (swp y r k)) := by
      refine rk_span _ fun v => ⟨Sp.mono ?_, Sp.mono ?_⟩
      · intro u hu
        obtain ⟨w, hw, rfl⟩ := List.mem_map.1 hu
        obtain ⟨i, h1, h2, rfl⟩ := mem_rest.1 hw
        rw [key]
        by_cases hik : i = k
        · subst hik
          have e : V n (y i :: ps) (c :: cs) (y i) = fun _ => 0 := by
            funext j; simp only [V]; split
            · exact W_mem _ _ (List.mem_cons_self ..) _
            · rfl
          rw [e]
          have e2 : scal (W ps cs) (fun _ => 0) = fun _ => 0 := by funext j; simp [scal]
          rw [e2]; exact .zero
        · refine Sp.scal _ (.mem (mem_rest.2 ?_))
          by_cases hir : i = r
          · subst hir
            exact ⟨k, by omega, hk2, by have : k ≠ i := fun e => hik e.symm; simp [swp, this]⟩
          · exact ⟨i, by omega, h2, by simp [swp, hik, hir]⟩
      · intro u hu
        obtain ⟨i, h1, h2, rfl⟩ := mem_rest.1 hu
        refine .div _ hd ?_
        rw [← key]
        refine .mem (List.mem_map_of_mem (mem_rest.2 ?_))
        by_cases hik : i = k
        · subst hik
          exact ⟨r, Nat.le_refl _, by omega, by simp [swp]; rw [if_neg (by omega)]⟩
        · exact ⟨i, by omega, h2, by simp only [swp]; rw [if_neg (by omega), if_neg hik]⟩
    rw [this]; omega

/-- All columns are done. -/
theorem Com.done {n m tot c r : Nat} {ps : List Row} {cs : List Nat} {y : Nat → Row} (h : Com n m tot c r ps cs y) (hc : n ≤ c) : tot = r := by
  have := h.rank
  rw [show n - c = 0 from by omega] at this
  simpa [rk] using this

end Go.AskMath
namespace Go.AskMath

abbrev Mat := Nat → Nat → Int

def swpM (R : Mat) (r k : Nat) : Mat := fun i => if i = r then R k else if i = k then R r else R i

/-- The run of an elimination, m rows: when the columns below c are done, the rows are R, r pivots have been found, the last one was d. -/
inductive Path (nx : Mat → Nat → Int → Nat → Nat → Mat) (m : Nat) (R0 : Mat) : Nat → Mat → Nat → Int → Prop
  | start : Path nx m R0 0 R0 0 1
  | skip {c : Nat} {R : Mat} {r : Nat} {d : Int} : Path nx m R0 c R r d → (∀ k, r ≤ k → k < m → R k c = 0) → Path nx m R0 (c + 1) R r d
  | step {c : Nat} {R : Mat} {r : Nat} {d : Int} (k : Nat) : Path nx m R0 c R r d → r ≤ k → k < m → R k c ≠ 0 → (∀ j, r ≤ j → j < k → R j c = 0) → Path nx m R0 (c + 1) (nx R r d c k) (r + 1) (R k c)

/-- Bareiss' step. -/
def barN (R : Mat) (r : Nat) (d : Int) (c k : Nat) : Mat := fun i j =>
  if i ≤ r then swpM R r k i j else (R k c * swpM R r k i j - swpM R r k i c * R k j).tdiv d

/-- The step modulo 101. -/
def modN (R : Mat) (r : Nat) (_ : Int) (c k : Nat) : Mat := fun i j =>
  if i ≤ r then swpM R r k i j else ((swpM R r k i j * R k c - R k j * swpM R r k i c).tmod 101 + 101).tmod 101

theorem swp_at {y : Nat → Row} {r k i : Nat} (hi : r + 1 ≤ i) : swp y r k i = if i = k then y r else y i := by
  unfold swp; rw [if_neg (by omega)]

theorem swpM_at {R : Mat} {r k i : Nat} (hi : r + 1 ≤ i) : swpM R r k i = if i = k then R r else R i := by
  unfold swpM; rw [if_neg (by omega)]

/-- What Bareiss' run holds. -/
theorem bar_inv {n m : Nat} {R0 : Mat} {y0 : Nat → Row} (hy : ∀ i, Bin (y0 i)) (h0 : ∀ i, i < m → ∀ j, j < n → R0 i j = y0 i j) (_hn : n ≤ 6) {c : Nat} {R : Mat} {r : Nat} {d : Int}
    (h : Path barN m R0 c R r d) : c ≤ n → ∃ ps cs y, Com n m (rk (List.range n) (rest n m 0 [] [] y0)) c r ps cs y ∧ d = W ps cs ∧ ∀ i, r ≤ i → i < m → ∀ j, j < n → R i j = W (y i :: ps) (j :: cs) := by
  induction h with
  | start =>
    intro _
    refine ⟨[], [], y0, Com.start n m y0 hy, rfl, fun i _ hi j hj => ?_⟩
    rw [h0 i hi j hj]; simp [W, dl]
  | @skip c R r d _ hz ih =>
    intro hc
    obtain ⟨ps, cs, y, hC, hd, hR⟩ := ih (by omega)
    refine ⟨ps, cs, y, hC.skip (by omega) (fun i h1 h2 => ?_), hd, hR⟩
    rw [← hR i h1 h2 c (by omega)]; exact hz i h1 h2
  | @step c R r d k _ hk1 hk2 hne hfst ih =>
    intro hc
    obtain ⟨ps, cs, y, hC, hd, hR⟩ := ih (by omega)
    have hpk := hR k hk1 hk2
    have hW : W (y k :: ps) (c :: cs) ≠ 0 := by rw [← hpk c (by omega)]; exact hne
    refine ⟨y k :: ps, c :: cs, swp y r k, hC.step (by omega) k hk1 hk2 hW, hpk c (by omega), fun i h1 h2 j hj => ?_⟩
    have hx : ∀ l, l < n → swpM R r k i l = W (swp y r k i :: ps) (l :: cs) := by
      intro l hl
      rw [swpM_at h1, swp_at h1]
      by_cases hik : i = k
      · rw [if_pos hik, if_pos hik]; exact hR r (Nat.le_refl _) (by omega) l hl
      · rw [if_neg hik, if_neg hik]; exact hR i (by omega) h2 l hl
    simp only [barN]
    rw [if_neg (by omega), hx j hj, hx c (by omega), hpk c (by omega), hpk j hj, bareiss hC.nz, hd]
    exact Int.mul_tdiv_cancel_left _ hC.nz.ne

/-- .. its numbers are small, and none of the divisors is zero. -/
theorem bar_small {n m : Nat} {R0 : Mat} {y0 : Nat → Row} (hy : ∀ i, Bin (y0 i)) (h0 : ∀ i, i < m → ∀ j, j < n → R0 i j = y0 i j) (hn : n ≤ 6) {c : Nat} {R : Mat} {r : Nat} {d : Int}
    (h : Path barN m R0 c R r d) (hc : c < n) : (∀ i, r ≤ i → i < m → ∀ j, j < n → -90 ≤ R i j ∧ R i j ≤ 90) ∧ -90 ≤ d ∧ d ≤ 90 ∧ d ≠ 0 ∧ r ≤ c := by
  obtain ⟨ps, cs, y, hC, hd, hR⟩ := bar_inv hy h0 hn h (by omega)
  have hr := hC.le
  refine ⟨fun i h1 h2 j hj => ?_, ?_⟩
  · rw [hR i h1 h2 j hj]; exact hC.bound (by omega) i j
  · rw [hd]; have := hC.boundD (by omega); exact ⟨this.1, this.2.1, this.2.2, hr⟩

theorem bar_rank {n m : Nat} {R0 : Mat} {y0 : Nat → Row} (hy : ∀ i, Bin (y0 i)) (h0 : ∀ i, i < m → ∀ j, j < n → R0 i j = y0 i j) (hn : n ≤ 6) {R : Mat} {r : Nat} {d : Int}
    (h : Path barN m R0 n R r d) : rk (List.range n) (rest n m 0 [] [] y0) = r := by
  obtain ⟨ps, cs, y, hC, _, _⟩ := bar_inv hy h0 hn h (Nat.le_refl _)
  exact hC.done (Nat.le_refl _)

/-! Modulo 101 -/
def Inv (u : Int) : Prop := ∃ v s, u * v = 1 + 101 * s

theorem Inv.mul {a b : Int} (ha : Inv a) (hb : Inv b) : Inv (a * b) := by
  obtain ⟨v, s, hv⟩ := ha
  obtain ⟨w, t, hw⟩ := hb
  refine ⟨v * w, s + t + 101 * s * t, ?_⟩
  have : a * b * (v * w) = (a * v) * (b * w) := by grind
  rw [this, hv, hw]; grind

def invTab : Bool := (List.range 181).all fun i => ((i : Int) - 90 == 0) || (List.range 101).any fun v => (((i : Int) - 90) * v) % 101 == 1
theorem invTab_true : invTab = true := by decide +kernel

theorem inv_small {d : Int} (h1 : -90 ≤ d) (h2 : d ≤ 90) (h3 : d ≠ 0) : Inv d := by
  have h := invTab_true
  unfold invTab at h
  rw [List.all_eq_true] at h
  have h := h (d + 90).toNat (List.mem_range.2 (by omega))
  have e : (((d + 90).toNat : Nat) : Int) - 90 = d := by omega
  rw [e] at h
  simp only [Bool.or_eq_true, beq_iff_eq, h3, false_or, List.any_eq_true] at h
  obtain ⟨v, _, hv⟩ := h
  exact ⟨v, d * v / 101, by omega⟩

theorem mod_form (x : Int) : ∃ t, (x.tmod 101 + 101).tmod 101 = x + 101 * t ∧ 0 ≤ (x.tmod 101 + 101).tmod 101 ∧ (x.tmod 101 + 101).tmod 101 ≤ 100 := by
  have h1 : x.tmod 101 = x - 101 * x.tdiv 101 := by have := Int.tmod_add_mul_tdiv x 101; omega
  have h2 : -101 < x.tmod 101 := by have := Int.lt_tmod_of_pos x (show (0 : Int) < 101 by decide); omega
  have h3 : (x.tmod 101 + 101).tmod 101 = (x.tmod 101 + 101) % 101 := Int.tmod_eq_emod_of_nonneg (by omega)
  refine ⟨-(x.tdiv 101) + 1 - (x.tmod 101 + 101) / 101, ?_, ?_⟩
  · rw [h3]; omega
  · rw [h3]; omega

theorem mod_zero {u w x t : Int} (hu : Inv u) (hw1 : -90 ≤ w) (hw2 : w ≤ 90) (hx : x = u * w + 101 * t) (h0 : 0 ≤ x) (h1 : x ≤ 100) : x = 0 ↔ w = 0 := by
  constructor
  · intro hz
    obtain ⟨v, s, hv⟩ := hu
    have h2 : v * (u * w + 101 * t) = 0 := by rw [← hx, hz]; simp
    have h3 : w = 101 * (-(s * w) - v * t) := by
      have : v * (u * w + 101 * t) = (u * v) * w + 101 * (v * t) := by grind
      rw [this, hv] at h2
      grind
    omega
  · intro hz
    rw [hz] at hx
    simp at hx
    omega

/-- What the run modulo 101 holds. -/
theorem mod_inv {n m : Nat} {R0 : Mat} {y0 : Nat → Row} (hy : ∀ i, Bin (y0 i)) (h0 : ∀ i, i < m → ∀ j, j < n → R0 i j = y0 i j) (hn : n ≤ 6) {c : Nat} {R : Mat} {r : Nat} {d : Int}
    (h : Path modN m R0 c R r d) : c ≤ n → ∃ ps cs y u, Com n m (rk (List.range n) (rest n m 0 [] [] y0)) c r ps cs y ∧ Inv u ∧ ∀ i, r ≤ i → i < m → ∀ j, j < n → (∃ t, R i j = u * W (y i :: ps) (j :: cs) + 101 * t) ∧ 0 ≤ R i j ∧ R i j ≤ 100 := by
  induction h with
  | start =>
    intro _
    refine ⟨[], [], y0, 1, Com.start n m y0 hy, ⟨1, 0, by decide⟩, fun i _ hi j hj => ?_⟩
    rw [h0 i hi j hj]
    refine ⟨⟨0, by simp [W, dl]⟩, ?_⟩
    rcases hy i j with h | h <;> rw [h] <;> decide
  | @skip c R r d _ hz ih =>
    intro hc
    obtain ⟨ps, cs, y, u, hC, hu, hR⟩ := ih (by omega)
    refine ⟨ps, cs, y, u, hC.skip (by omega) (fun i h1 h2 => ?_), hu, hR⟩
    obtain ⟨⟨t, ht⟩, ha, hb⟩ := hR i h1 h2 c (by omega)
    have hle := hC.le
    have hB := hC.bound (by omega) i c
    exact (mod_zero hu hB.1 hB.2 ht ha hb).1 (hz i h1 h2)
  | @step c R r d k _ hk1 hk2 hne hfst ih =>
    intro hc
    obtain ⟨ps, cs, y, u, hC, hu, hR⟩ := ih (by omega)
    have hle := hC.le
    obtain ⟨⟨t, ht⟩, ha, hb⟩ := hR k hk1 hk2 c (by omega)
    have hB := hC.bound (by omega) k c
    have hW : W (y k :: ps) (c :: cs) ≠ 0 := fun e => hne ((mod_zero hu hB.1 hB.2 ht ha hb).2 e)
    have hD := hC.boundD (by omega)
    refine ⟨y k :: ps, c :: cs, swp y r k, u * u * W ps cs, hC.step (by omega) k hk1 hk2 hW, (hu.mul hu).mul (inv_small hD.1 hD.2.1 hD.2.2), fun i h1 h2 j hj => ?_⟩
    have hx : ∀ l, l < n → ∃ t, swpM R r k i l = u * W (swp y r k i :: ps) (l :: cs) + 101 * t := by
      intro l hl
      rw [swpM_at h1, swp_at h1]
      by_cases hik : i = k
      · rw [if_pos hik, if_pos hik]; exact (hR r (Nat.le_refl _) (by omega) l hl).1
      · rw [if_neg hik, if_neg hik]; exact (hR i (by omega) h2 l hl).1
    obtain ⟨t1, e1⟩ := hx j hj
    obtain ⟨t2, e2⟩ := hx c (by omega)
    obtain ⟨t3, e3⟩ := (hR k hk1 hk2 j hj).1
    have hb := bareiss hC.nz (y k) c j (swp y r k i)
    simp only [modN]
    rw [if_neg (by omega)]
    obtain ⟨t4, e4, e5, e6⟩ := mod_form (swpM R r k i j * R k c - R k j * swpM R r k i c)
    refine ⟨?_, e5, e6⟩
    rw [e4, e1, e2, e3, ht]
    generalize W (swp y r k i :: ps) (j :: cs) = A at *
    generalize W (swp y r k i :: ps) (c :: cs) = B at *
    generalize W (y k :: ps) (c :: cs) = P at *
    generalize W (y k :: ps) (j :: cs) = Q at *
    generalize W (swp y r k i :: y k :: ps) (j :: c :: cs) = M at *
    generalize W ps cs = D at *
    refine ⟨u * A * t + t1 * u * P + 101 * t1 * t - (u * Q * t2 + t3 * u * B + 101 * t3 * t2) + t4, ?_⟩
    have : u * u * D * M = u * u * (P * A - B * Q) := by rw [hb]; grind
    rw [this]; grind

theorem mod_small {n m : Nat} {R0 : Mat} {y0 : Nat → Row} (hy : ∀ i, Bin (y0 i)) (h0 : ∀ i, i < m → ∀ j, j < n → R0 i j = y0 i j) (hn : n ≤ 6) {c : Nat} {R : Mat} {r : Nat} {d : Int}
    (h : Path modN m R0 c R r d) (hc : c < n) : (∀ i, r ≤ i → i < m → ∀ j, j < n → 0 ≤ R i j ∧ R i j ≤ 100) ∧ r ≤ c := by
  obtain ⟨ps, cs, y, u, hC, hu, hR⟩ := mod_inv hy h0 hn h (by omega)
  exact ⟨fun i h1 h2 j hj => (hR i h1 h2 j hj).2, hC.le⟩

theorem mod_rank {n m : Nat} {R0 : Mat} {y0 : Nat → Row} (hy : ∀ i, Bin (y0 i)) (h0 : ∀ i, i < m → ∀ j, j < n → R0 i j = y0 i j) (hn : n ≤ 6) {R : Mat} {r : Nat} {d : Int}
    (h : Path modN m R0 n R r d) : rk (List.range n) (rest n m 0 [] [] y0) = r := by
  obtain ⟨ps, cs, y, u, hC, _⟩ := mod_inv hy h0 hn h (Nat.le_refl _)
  exact hC.done (Nat.le_refl _)

end Go.AskMath
namespace Go.AskMath

/-- A question's row. -/
def bits (n : Nat) (q : Int) : Row := fun j => if j < n then q / 2 ^ j % 2 else 0

theorem bits_bin (n : Nat) (q : Int) : Bin (bits n q) := by
  intro j; unfold bits; split
  · omega
  · exact .inl rfl

def rows (n : Nat) (qs : List Int) : List Row := qs.map (bits n)

/-- The rank of questions. -/
def rnk (n : Nat) (qs : List Int) : Nat := rk (List.range n) (rows n qs)

theorem rest_rows (n : Nat) (qs : List Int) : rest n qs.length 0 [] [] (fun i => bits n (qs.getD i 0)) = rows n qs := by
  apply List.ext_getElem
  · simp [rest, rows]
  · intro i h1 h2
    simp only [rest, rows, List.getElem_map, List.getElem_range', Nat.zero_add, Nat.one_mul]
    have hi : i < qs.length := by simpa [rows] using h2
    simp only [List.getD_eq_getElem?_getD, List.getElem?_eq_getElem hi, Option.getD_some]
    funext j
    simp only [V, W, dl, bits]
    split <;> simp

theorem bar_rnk {n : Nat} {qs : List Int} {R0 : Mat} (h0 : ∀ i, i < qs.length → ∀ j, j < n → R0 i j = bits n (qs.getD i 0) j) (hn : n ≤ 6) {R : Mat} {r : Nat} {d : Int} (h : Path barN qs.length R0 n R r d) : r = rnk n qs := by
  have := bar_rank (y0 := fun i => bits n (qs.getD i 0)) (fun i => bits_bin n _) h0 hn h
  rw [rest_rows] at this
  exact this.symm

theorem mod_rnk {n : Nat} {qs : List Int} {R0 : Mat} (h0 : ∀ i, i < qs.length → ∀ j, j < n → R0 i j = bits n (qs.getD i 0) j) (hn : n ≤ 6) {R : Mat} {r : Nat} {d : Int} (h : Path modN qs.length R0 n R r d) : r = rnk n qs := by
  have := mod_rank (y0 := fun i => bits n (qs.getD i 0)) (fun i => bits_bin n _) h0 hn h
  rw [rest_rows] at this
  exact this.symm

/-- A question's row is in the span of others. -/
def inn (n : Nat) (qs : List Int) (q : Int) : Prop := Sp (rows n qs) (bits n q)

theorem rnk_app_in {n : Nat} {qs : List Int} {q : Int} (h : inn n qs q) : rnk n (qs ++ [q]) = rnk n qs := by
  unfold rnk rows; rw [List.map_append]; exact rk_in h

theorem rnk_app_out {n : Nat} {qs : List Int} {q : Int} (h : ¬ inn n qs q) : rnk n (qs ++ [q]) = rnk n qs + 1 := by
  unfold rnk rows; rw [List.map_append]
  refine rk_out _ (fun u hu j hj => ?_) h
  have : ∃ q, bits n q = u := by
    rcases List.mem_append.1 hu with h | h
    · obtain ⟨q, _, rfl⟩ := List.mem_map.1 h; exact ⟨q, rfl⟩
    · simp at h; exact ⟨q, h.symm⟩
  obtain ⟨q, rfl⟩ := this
  simp only [List.mem_range, Nat.not_lt] at hj
  simp [bits]; omega

theorem rnk_app {n : Nat} (qs : List Int) (q : Int) : rnk n (qs ++ [q]) = rnk n qs ∨ rnk n (qs ++ [q]) = rnk n qs + 1 := by
  by_cases h : inn n qs q
  · exact .inl (rnk_app_in h)
  · exact .inr (rnk_app_out h)

theorem rnk_app_le {n : Nat} (qs : List Int) (q : Int) : rnk n qs ≤ rnk n (qs ++ [q]) := by
  rcases rnk_app (n := n) qs q with h | h <;> omega

theorem rnk_same {n : Nat} {a b : List Int} (h : ∀ q, q ∈ a ↔ q ∈ b) : rnk n a = rnk n b := by
  refine rk_span _ fun v => ⟨Sp.sub ?_, Sp.sub ?_⟩
  · intro u hu; obtain ⟨q, hq, rfl⟩ := List.mem_map.1 hu; exact List.mem_map_of_mem ((h q).1 hq)
  · intro u hu; obtain ⟨q, hq, rfl⟩ := List.mem_map.1 hu; exact List.mem_map_of_mem ((h q).2 hq)

theorem inn_mem {n : Nat} {qs : List Int} {q : Int} (h : q ∈ qs) : inn n qs q := .mem (List.mem_map_of_mem h)

theorem inn_sub {n : Nat} {a b : List Int} (h : ∀ q ∈ a, inn n b q) {q : Int} (hq : inn n a q) : inn n b q := by
  refine Sp.mono ?_ hq
  intro v hv; obtain ⟨p, hp, rfl⟩ := List.mem_map.1 hv; exact h p hp

theorem inn_mono {n : Nat} {a b : List Int} (h : ∀ q ∈ a, q ∈ b) {q : Int} (hq : inn n a q) : inn n b q := inn_sub (fun p hp => inn_mem (h p hp)) hq

/-- More rows, no smaller rank. -/
theorem rnk_le_append {n : Nat} (a b : List Int) : rnk n a ≤ rnk n (a ++ b) := by
  induction b generalizing a with
  | nil => simp
  | cons q b ih =>
    have := ih (a ++ [q])
    rw [List.append_assoc, List.singleton_append] at this
    exact Nat.le_trans (rnk_app_le a q) this

theorem rnk_sub {n : Nat} {a b : List Int} (h : ∀ q ∈ a, inn n b q) : rnk n a ≤ rnk n b := by
  have h1 : rnk n (b ++ a) = rnk n b := by
    refine rk_span _ fun v => ⟨Sp.mono ?_, Sp.sub ?_⟩
    · intro u hu; obtain ⟨q, hq, rfl⟩ := List.mem_map.1 hu
      rcases List.mem_append.1 hq with hq | hq
      · exact .mem (List.mem_map_of_mem hq)
      · exact h q hq
    · intro u hu; obtain ⟨q, hq, rfl⟩ := List.mem_map.1 hu; exact List.mem_map_of_mem (List.mem_append_left _ hq)
  have h2 : rnk n (a ++ b) = rnk n (b ++ a) := rnk_same fun q => by simp [or_comm]
  have := rnk_le_append (n := n) a b
  omega

theorem rnk_nil (n : Nat) : rnk n [] = 0 := by
  unfold rnk rows; simp only [List.map_nil]
  induction List.range n with
  | nil => rfl
  | cons c cs ih => rw [rk_none (by simp)]; exact ih

theorem rnk_le_length {n : Nat} (qs : List Int) : rnk n qs ≤ qs.length := by
  have aux : ∀ b a : List Int, rnk n (a ++ b) ≤ rnk n a + b.length := by
    intro b
    induction b with
    | nil => intro a; simp
    | cons q b ih =>
      intro a
      have h1 := ih (a ++ [q])
      rw [List.append_assoc, List.singleton_append] at h1
      have h2 := rnk_app (n := n) a q
      simp only [List.length_cons]; omega
  have := aux qs []
  simpa [rnk_nil] using this

/-! The questions for one person each -/
def unit (i : Nat) : Int := 2 ^ i

theorem bits_unit {n i : Nat} (hi : i < n) (j : Nat) : bits n (unit i) j = if j = i then 1 else 0 := by
  unfold bits unit
  by_cases hj : j < n
  · rw [if_pos hj]
    by_cases e : j = i
    · subst e
      rw [if_pos rfl, Int.ediv_self (Int.ne_of_gt (Int.pow_pos (by decide)))]
      rfl
    · rw [if_neg e]
      rcases Nat.lt_or_gt_of_ne e with h | h
      · obtain ⟨k, rfl⟩ : ∃ k, i = j + (k + 1) := ⟨i - j - 1, by omega⟩
        rw [Int.pow_add, Int.mul_ediv_cancel_left _ (Int.ne_of_gt (Int.pow_pos (by decide))), Int.pow_succ]
        omega
      · have h1 : (2 : Int) ^ i < 2 ^ j := by
          obtain ⟨k, rfl⟩ : ∃ k, j = i + (k + 1) := ⟨j - i - 1, by omega⟩
          rw [Int.pow_add, Int.pow_succ]
          have ha : (0 : Int) < 2 ^ i := Int.pow_pos (by decide)
          have hb : (0 : Int) < 2 ^ k := Int.pow_pos (by decide)
          have hc : (2 : Int) ^ i * 1 < 2 ^ i * (2 ^ k * 2) := Int.mul_lt_mul_of_pos_left (by omega) ha
          omega
        rw [Int.ediv_eq_zero_of_lt (Int.le_of_lt (Int.pow_pos (by decide))) h1]
        rfl
  · rw [if_neg hj, if_neg (by omega)]

def units (n : Nat) : List Int := (List.range n).map unit

/-- They span all rows. -/
theorem inn_units (n : Nat) (q : Int) : inn n (units n) q := by
  have aux : ∀ k, k ≤ n → Sp (rows n (units n)) (fun j => if j < k then bits n q j else 0) := by
    intro k
    induction k with
    | zero => intro _; simpa using Sp.zero
    | succ k ih =>
      intro hk
      have h1 := ih (by omega)
      have h2 : Sp (rows n (units n)) (bits n (unit k)) := .mem (List.mem_map_of_mem (List.mem_map_of_mem (List.mem_range.2 (by omega))))
      have h3 := Sp.comb 1 (bits n q k) h1 h2
      have e : comb 1 (fun j => if j < k then bits n q j else 0) (bits n q k) (bits n (unit k)) = fun j => if j < k + 1 then bits n q j else 0 := by
        funext j
        simp only [comb, bits_unit (show k < n by omega) j]
        by_cases ha : j = k
        · subst ha; simp
        · by_cases hb : j < k
          · simp [ha, hb, show j < k + 1 by omega]
          · simp [ha, hb, show ¬ j < k + 1 by omega]
      rwa [e] at h3
  have h := aux n (Nat.le_refl _)
  have e : (fun j => if j < n then bits n q j else 0) = bits n q := by
    funext j; by_cases hj : j < n
    · simp [hj]
    · simp [hj, bits]
  rw [e] at h
  exact h

/-- None of them is a sum of others. -/
theorem not_inn_units {n i : Nat} (hi : i < n) {qs : List Int} (h : ∀ q ∈ qs, ∃ k, k < n ∧ k ≠ i ∧ q = unit k) : ¬ inn n qs (unit i) := by
  intro hs
  have := Sp.col (c := i) (fun v hv => by
    obtain ⟨q, hq, rfl⟩ := List.mem_map.1 hv
    obtain ⟨k, hk, hne, rfl⟩ := h q hq
    rw [bits_unit hk]; simp [Ne.symm hne]) hs
  rw [bits_unit hi] at this
  simp at this

theorem rnk_units_list {n : Nat} : ∀ (is : List Nat), (∀ i ∈ is, i < n) → is.Nodup → rnk n (is.map unit) = is.length := by
  intro is
  suffices h : ∀ is : List Nat, (∀ i ∈ is, i < n) → is.Nodup → rnk n (is.reverse.map unit) = is.length by
    intro h1 h2
    have := h is h1 h2
    rw [← this]
    exact rnk_same fun q => by simp
  intro is
  induction is with
  | nil => intros; exact rnk_nil n
  | cons i is ih =>
    intro h1 h2
    rw [List.reverse_cons, List.map_append]
    simp only [List.map_cons, List.map_nil]
    rw [rnk_app_out, ih (fun k hk => h1 k (List.mem_cons_of_mem _ hk)) (List.nodup_cons.1 h2).2]
    · simp
    · refine not_inn_units (h1 i (List.mem_cons_self ..)) fun q hq => ?_
      obtain ⟨k, hk, rfl⟩ := List.mem_map.1 hq
      have hk' : k ∈ is := List.mem_reverse.1 hk
      exact ⟨k, h1 k (List.mem_cons_of_mem _ hk'), fun e => (List.nodup_cons.1 h2).1 (e ▸ hk'), rfl⟩

theorem rnk_units {n k : Nat} (hk : k ≤ n) : rnk n ((List.range k).map unit) = k := by
  have := rnk_units_list (n := n) (List.range k) (fun i hi => by have := List.mem_range.1 hi; omega) List.nodup_range
  simpa using this

theorem rnk_le (n : Nat) (qs : List Int) : rnk n qs ≤ n := by
  have h := rnk_sub (n := n) (a := qs) (b := units n) (fun q _ => inn_units n q)
  have := rnk_units (n := n) (Nat.le_refl n)
  unfold units at h
  omega

/-! Told persons -/
def tel (n : Nat) (qs : List Int) (i : Nat) : Bool := decide (rnk n (qs ++ [unit i]) = rnk n qs)

theorem tel_iff {n : Nat} {qs : List Int} {i : Nat} : tel n qs i = true ↔ inn n qs (unit i) := by
  unfold tel
  rw [decide_eq_true_eq]
  constructor
  · intro h
    by_cases hi : inn n qs (unit i)
    · exact hi
    · have := rnk_app_out hi; omega
  · exact rnk_app_in

/-- How many persons, of those below k, are told. -/
def tld (n : Nat) (qs : List Int) : Nat → Nat
  | 0 => 0
  | k + 1 => tld n qs k + if tel n qs k then 1 else 0

theorem tld_le (n : Nat) (qs : List Int) (k : Nat) : tld n qs k ≤ k := by
  induction k with
  | zero => simp [tld]
  | succ k ih => simp only [tld]; split <;> omega

theorem tld_mono {n : Nat} {a b : List Int} (h : ∀ i, tel n a i = true → tel n b i = true) (k : Nat) : tld n a k ≤ tld n b k := by
  induction k with
  | zero => simp [tld]
  | succ k ih =>
    simp only [tld]
    have := h k
    cases ha : tel n a k <;> cases hb : tel n b k <;> simp_all <;> omega

theorem tld_zero {n : Nat} {qs : List Int} {k : Nat} : tld n qs k = 0 ↔ ∀ i, i < k → tel n qs i = false := by
  induction k with
  | zero => simp [tld]
  | succ k ih =>
    simp only [tld]
    constructor
    · intro h i hi
      have h1 : tld n qs k = 0 := by omega
      by_cases e : i = k
      · subst e
        cases ht : tel n qs i
        · rfl
        · rw [ht] at h; simp at h
      · exact ih.1 h1 i (by omega)
    · intro h
      rw [ih.2 (fun i hi => h i (by omega)), h k (by omega)]; rfl

/-- The told ones' questions. -/
def tolds (n : Nat) (qs : List Int) (k : Nat) : List Nat := (List.range k).filter (tel n qs)

theorem tld_eq (n : Nat) (qs : List Int) (k : Nat) : tld n qs k = (tolds n qs k).length := by
  induction k with
  | zero => rfl
  | succ k ih =>
    simp only [tld, tolds, List.range_succ, List.filter_append, List.length_append]
    rw [ih]
    cases h : tel n qs k <;> simp [h, tolds]

theorem tld_le_rnk (n : Nat) (qs : List Int) : tld n qs n ≤ rnk n qs := by
  have h1 := rnk_units_list (n := n) (tolds n qs n) (fun i hi => List.mem_range.1 (List.mem_filter.1 hi).1) (List.nodup_range.filter _)
  have h2 := rnk_sub (n := n) (a := (tolds n qs n).map unit) (b := qs) (fun q hq => by
    obtain ⟨i, hi, rfl⟩ := List.mem_map.1 hq
    exact tel_iff.1 (List.mem_filter.1 hi).2)
  rw [tld_eq]; omega

theorem tld_all (n : Nat) (qs : List Int) : tld n qs n = n ↔ rnk n qs = n := by
  constructor
  · intro h
    have h1 := tld_le_rnk n qs
    have h2 := rnk_le n qs
    omega
  · intro h
    have all : ∀ i, i < n → tel n qs i = true := by
      intro i _
      unfold tel
      rw [decide_eq_true_eq]
      have h1 := rnk_app_le (n := n) qs (unit i)
      have h2 := rnk_le n (qs ++ [unit i])
      omega
    have : ∀ k, k ≤ n → tld n qs k = k := by
      intro k
      induction k with
      | zero => intro _; rfl
      | succ k ih => intro hk; simp only [tld]; rw [ih (by omega), all k (by omega)]; rfl
    exact this n (Nat.le_refl _)

theorem tel_mono {n : Nat} {a b : List Int} (h : ∀ q ∈ a, q ∈ b) (i : Nat) (ht : tel n a i = true) : tel n b i = true := tel_iff.2 (inn_mono h (tel_iff.1 ht))

theorem tel_same {n : Nat} {a b : List Int} (h : ∀ q, q ∈ a ↔ q ∈ b) (i : Nat) : tel n a i = tel n b i := by
  rw [Bool.eq_iff_iff]
  exact ⟨tel_mono (fun q hq => (h q).1 hq) i, tel_mono (fun q hq => (h q).2 hq) i⟩

theorem tld_same {n : Nat} {a b : List Int} (h : ∀ q, q ∈ a ↔ q ∈ b) (k : Nat) : tld n a k = tld n b k := by
  have h1 := tld_mono (n := n) (a := a) (b := b) (fun i => by rw [tel_same h i]; exact id) k
  have h2 := tld_mono (n := n) (a := b) (b := a) (fun i => by rw [tel_same h i]; exact id) k
  omega

end Go.AskMath
