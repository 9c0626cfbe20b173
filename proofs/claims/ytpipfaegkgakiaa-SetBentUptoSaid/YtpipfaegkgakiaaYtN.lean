/- Sums by rows: the plain part of what is made of items. What is proved: contracts of the program's functions over abstract values, or plain facts on which these lean; the conditions stand in each theorem. -/
import Derived.Test.YtpipfaegkgakiaaYtM
set_option linter.all false
/-! Sums by rows: the plain part of what is made of items. -/
namespace Yt
open Go Go.Vc Go.Proofs
set_option linter.unusedSimpArgs false
set_option linter.unusedVariables false
/-- What the items of a row come to. -/
def tot (r : List V) : List It → Int
  | [] => 0
  | t :: z => (if cmpR t.row r = 0 then t.w else 0) + tot r z
theorem tot_append (r : List V) (x y : List It) : tot r (x ++ y) = tot r x + tot r y := by
  induction x with
  | nil => simp [tot]
  | cons t x ih => simp only [List.cons_append, tot, ih]; omega
theorem tot_perm {r : List V} {x y : List It} (h : x.Perm y) : tot r x = tot r y := by
  induction h with
  | nil => rfl
  | cons t _ ih => simp only [tot, ih]
  | swap a b l => simp only [tot]; omega
  | trans _ _ h1 h2 => exact h1.trans h2
/-- All weights. -/
def sumW : List It → Int
  | [] => 0
  | t :: z => t.w + sumW z
theorem sumW_append (x y : List It) : sumW (x ++ y) = sumW x + sumW y := by
  induction x with
  | nil => simp [sumW]
  | cons t x ih => simp only [List.cons_append, sumW, ih]; omega
theorem tot_same {r : List V} {x : List It} (h : ∀ t ∈ x, cmpR t.row r = 0) : tot r x = sumW x := by
  induction x with
  | nil => rfl
  | cons t x ih => simp only [tot, sumW, h t (by simp), if_true, ih fun u hu => h u (by simp [hu])]
theorem tot_none {r : List V} {x : List It} (h : ∀ t ∈ x, cmpR t.row r ≠ 0) : tot r x = 0 := by
  induction x with
  | nil => rfl
  | cons t x ih => simp only [tot, h t (by simp), if_false, ih fun u hu => h u (by simp [hu])]; rfl
/-- Items made: rows rise, no weight is 0, none too great. -/
structure Made (o : List It) : Prop where
  pw : o.Pairwise fun a b => cI a b < 0
  nz : ∀ t ∈ o, t.w ≠ 0 ∧ okW t.w = true
theorem cI_eq {a b : It} : cI a b = 0 ↔ a.row = b.row := ⟨lin_cmpR.eq _ _, fun h => by simp only [cI, h]; exact lin_cmpR.self _⟩
theorem tot_made {o : List It} (h : Made o) {t : It} (ht : t ∈ o) : tot t.row o = t.w := by
  obtain ⟨hp, hz⟩ := h
  clear hz
  induction o with
  | nil => cases ht
  | cons u o ih =>
    rw [List.pairwise_cons] at hp
    simp only [tot]
    cases ht with
    | head =>
      rw [if_pos (lin_cmpR.self _), tot_none (fun v hv => ?_)]
      · omega
      · have := hp.1 v hv
        have hn := lin_cmpR.neg t.row v.row
        simp only [cI] at this
        omega
    | tail _ ht =>
      have := hp.1 t ht
      simp only [cI] at this
      rw [if_neg (by omega), ih ht hp.2]; omega
/-- What is made is told by what it comes to. -/
theorem made_eq {x y : List It} (hx : Made x) (hy : Made y) (h : ∀ r, tot r x = tot r y) : x = y := by
  have key : ∀ {x y : List It}, Made x → Made y → (∀ r, tot r x = tot r y) → ∀ t ∈ x, t ∈ y := by
    intro x y hx hy h t ht
    have h1 := tot_made hx ht
    have h2 := h t.row
    rw [h1] at h2
    have hnz := (hx.nz t ht).1
    have : ∃ u ∈ y, cmpR u.row t.row = 0 := by
      apply Classical.byContradiction
      intro hno
      have := tot_none (r := t.row) (x := y) fun u hu e => hno ⟨u, hu, e⟩
      omega
    obtain ⟨u, hu, e⟩ := this
    have hrow := lin_cmpR.eq _ _ e
    have h3 := tot_made hy hu
    rw [hrow, ← h2] at h3
    have : t = u := by
      obtain ⟨a, b⟩ := t; obtain ⟨a', b'⟩ := u
      simp only at hrow h3
      subst hrow; subst h3; rfl
    rw [this]; exact hu
  have nd : ∀ {x : List It}, Made x → x.Nodup := fun hx => hx.pw.imp fun {a b} hab e => by
    subst e; have := (cI_eq (a := a) (b := a)).2 rfl; omega
  have hperm : x.Perm y := (List.perm_ext_iff_of_nodup (nd hx) (nd hy)).2 fun t => ⟨key hx hy h t, key hy hx (fun r => (h r).symm) t⟩
  exact hperm.eq_of_pairwise (fun a b _ _ h1 h2 => by
    have := lin_cmpR.neg a.row b.row
    simp only [cI] at h1 h2; omega) hx.pw hy.pw
end Yt
