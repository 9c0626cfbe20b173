/- How rows are ordered; the stable sort of items by rows. What is proved: contracts of the program's functions over abstract values, or plain facts on which these lean; the conditions stand in each theorem. -/
import Derived.Test.YtpipfaegkgakiaaYtH
set_option linter.all false
/-! How rows are ordered; the stable sort of items by rows. -/
namespace Yt
open Go Go.Vc Go.Proofs
set_option maxRecDepth 10000
set_option linter.unusedSimpArgs false
set_option linter.unusedVariables false
theorem s39 (g : Nat) (c : It → It → Int) (hc : Cmp c) (B : It → Prop) (hg : ∀ x y, B x → B y → Spec0 Try.prog g [.ag x.c, .ag y.c] (· = iA (c x y))) (z : List It) (hB : ∀ x ∈ z, B x) (hl : z.length < 576460752303423488) :
    SpecO Try.prog 39 [.rf 0 0 z.length, .fn g []] (so z) (fun r o' => r = .tu [] ∧ ∃ z', o' = so z' ∧ Win z z' 0 z.length ∧ SR c z' 0 z.length) := by
  refine specO_of_vc tabOk elems ord39 Try.func39 rfl (rl := []) rfl (by kernel_rfl) rfl ?_
  (simp -implicitDefEqProofs only [go_sem, so]; repeat (refine GO ?_; simp -implicitDefEqProofs only [go_sem, so]))
  refine .obj 0 (so z) _ _ (s60 g c hc B hg z hB hl) rfl (so_leafy z) rfl rfl fun r o' hr _ _ => ?_
  obtain ⟨rfl, y, rfl, hw, hs⟩ := hr
  (simp -implicitDefEqProofs only [go_sem]; repeat (refine GO ?_; simp -implicitDefEqProofs only [go_sem]))
  refine FIN_O (o' := so y) rfl ?_ (so_leafy y) ?_
  · rfl
  · exact ⟨so y, ⟨⟨rfl, y, rfl, hw, hs⟩, rfl⟩, so_leafy y, rfl⟩

-- bytes, in the order of a dictionary
theorem bl_irr (x : List UInt8) : Op.bytesLess x x = false := by
  induction x with
  | nil => rfl
  | cons a r ih => simp [Op.bytesLess, ih]
theorem bl_asymm : ∀ (x y : List UInt8), Op.bytesLess x y = true → Op.bytesLess y x = false
  | _, [], h => by simp [Op.bytesLess] at h
  | [], _ :: _, h => rfl
  | a :: x, b :: y, h => by
    simp only [Op.bytesLess, Bool.or_eq_true, decide_eq_true_eq, Bool.and_eq_true, beq_iff_eq] at h
    simp only [Op.bytesLess, Bool.or_eq_false_iff, decide_eq_false_iff_not, Bool.and_eq_false_imp, beq_iff_eq]
    rcases h with h | ⟨h1, h2⟩
    · exact ⟨fun g => by rw [UInt8.lt_iff_toNat_lt] at *; omega, fun e => by subst e; rw [UInt8.lt_iff_toNat_lt] at h; omega⟩
    · subst h1; exact ⟨fun g => by rw [UInt8.lt_iff_toNat_lt] at g; omega, fun _ => bl_asymm x y h2⟩
theorem bl_tri : ∀ (x y : List UInt8), Op.bytesLess x y = false → Op.bytesLess y x = false → x = y
  | [], [], _, _ => rfl
  | [], _ :: _, h, _ => by simp [Op.bytesLess] at h
  | _ :: _, [], _, h => by simp [Op.bytesLess] at h
  | a :: x, b :: y, h, g => by
    simp only [Op.bytesLess, Bool.or_eq_false_iff, decide_eq_false_iff_not, Bool.and_eq_false_imp, beq_iff_eq] at h g
    have hab : a = b := by
      apply UInt8.toNat_inj.1
      have h1 := h.1; have g1 := g.1
      rw [UInt8.lt_iff_toNat_lt] at h1 g1
      omega
    subst hab
    rw [bl_tri x y (h.2 rfl) (g.2 rfl)]
theorem bl_trans : ∀ (x y z : List UInt8), Op.bytesLess x y = true → Op.bytesLess y z = true → Op.bytesLess x z = true
  | _, [], _, h, _ => by simp [Op.bytesLess] at h
  | _, _ :: _, [], _, g => by simp [Op.bytesLess] at g
  | [], _ :: _, _ :: _, _, _ => rfl
  | a :: x, b :: y, c :: z, h, g => by
    simp only [Op.bytesLess, Bool.or_eq_true, decide_eq_true_eq, Bool.and_eq_true, beq_iff_eq] at h g ⊢
    rcases h with h | ⟨h1, h2⟩
    · rcases g with g | ⟨g1, g2⟩
      · left; rw [UInt8.lt_iff_toNat_lt] at *; omega
      · subst g1; left; exact h
    · subst h1
      rcases g with g | ⟨g1, g2⟩
      · left; exact g
      · right; exact ⟨g1, bl_trans x y z h2 g2⟩

/-- A comparison by sign: each two things are one or in order. -/
structure Lin {α : Type} (f : α → α → Int) : Prop where
  neg : ∀ x y, f y x = - f x y
  eq : ∀ x y, f x y = 0 → x = y
  trans : ∀ x y z, f x y < 0 → f y z < 0 → f x z < 0
theorem Lin.self {α : Type} {f : α → α → Int} (h : Lin f) (x : α) : f x x = 0 := by have := h.neg x x; omega
theorem lin_cmpI : Lin cmpI := by
  refine ⟨fun x y => ?_, fun x y h => ?_, fun x y z h g => ?_⟩
  · simp only [cmpI]; split <;> split <;> (try split) <;> omega
  · simp only [cmpI] at h; split at h
    · omega
    · split at h <;> omega
  · simp only [cmpI] at h g ⊢
    split at h
    · split at g
      · rw [if_pos (by omega)]; omega
      · split at g <;> omega
    · split at h <;> omega
theorem cmpS_lt {x y : ByteArray} : cmpS x y < 0 ↔ Op.bytesLess x.toList y.toList = true := by
  simp only [cmpS]
  split
  · simp [*]
  · rename_i h; split <;> simp [h]
theorem cmpS_zero {x y : ByteArray} : cmpS x y = 0 ↔ x = y := by
  simp only [cmpS]
  split
  · rename_i h
    constructor
    · intro e; omega
    · intro e; subst e; rw [bl_irr] at h; cases h
  · rename_i h
    split
    · rename_i g
      constructor
      · intro e; omega
      · intro e; subst e; simp at g
    · rename_i g
      simp only [Bool.not_eq_true, Bool.not_eq_false', Bool.or_eq_true, decide_eq_true_eq] at g h
      simp only [h, Bool.false_eq_true, false_or] at g
      simp [g]
theorem lin_cmpS : Lin cmpS := by
  refine ⟨fun x y => ?_, fun x y h => cmpS_zero.1 h, fun x y z h g => ?_⟩
  · have v : ∀ a b : ByteArray, cmpS a b = -1 ∨ cmpS a b = 0 ∨ cmpS a b = 1 := by
      intro a b; simp only [cmpS]; split
      · simp
      · split <;> simp
    have k1 : cmpS x y < 0 → ¬ cmpS y x < 0 := fun h => by
      rw [cmpS_lt] at h ⊢
      rw [bl_asymm _ _ h]; simp
    have k2 : ¬ cmpS x y < 0 → ¬ cmpS y x < 0 → cmpS x y = 0 ∧ cmpS y x = 0 := fun h g => by
      rw [cmpS_lt] at h g
      have : x = y := toList_inj (bl_tri _ _ (by simpa using h) (by simpa using g))
      exact ⟨cmpS_zero.2 this, cmpS_zero.2 this.symm⟩
    have k3 : cmpS x y = 0 → cmpS y x = 0 := fun h => cmpS_zero.2 (cmpS_zero.1 h).symm
    have k4 : cmpS y x = 0 → cmpS x y = 0 := fun h => cmpS_zero.2 (cmpS_zero.1 h).symm
    rcases v x y with a | a | a <;> rcases v y x with b | b | b <;> first | omega | (have := k1 (by omega); omega) | (have := k2 (by omega) (by omega); omega) | (have := k3 (by omega); omega) | (have := k4 (by omega); omega)
  · rw [cmpS_lt] at *; exact bl_trans _ _ _ h g
theorem lin_cmpV : Lin cmpV := by
  refine ⟨fun x y => ?_, fun x y h => ?_, fun x y z h g => ?_⟩
  · simp only [cmpV, nz, lin_cmpI.neg x.k y.k, lin_cmpI.neg x.i y.i, lin_cmpS.neg x.s y.s]
    repeat' split
    all_goals omega
  · simp only [cmpV, nz] at h
    split at h
    · rename_i h1
      split at h
      · rename_i h2
        split at h
        · rename_i h3
          obtain ⟨a, b, c⟩ := x; obtain ⟨a', b', c'⟩ := y
          simp only [V.mk.injEq]
          exact ⟨lin_cmpI.eq _ _ h1, lin_cmpI.eq _ _ h2, lin_cmpS.eq _ _ h3⟩
        · exact absurd h (by assumption)
      · exact absurd h (by assumption)
    · exact absurd h (by assumption)
  · have t1 := lin_cmpI.trans x.k y.k z.k
    have t2 := lin_cmpI.trans x.i y.i z.i
    have t3 := lin_cmpS.trans x.s y.s z.s
    have e1 : cmpI x.k y.k = 0 → cmpI x.k z.k = cmpI y.k z.k := fun h => by rw [lin_cmpI.eq _ _ h]
    have e2 : cmpI y.k z.k = 0 → cmpI x.k z.k = cmpI x.k y.k := fun h => by rw [lin_cmpI.eq _ _ h]
    have e3 : cmpI x.i y.i = 0 → cmpI x.i z.i = cmpI y.i z.i := fun h => by rw [lin_cmpI.eq _ _ h]
    have e4 : cmpI y.i z.i = 0 → cmpI x.i z.i = cmpI x.i y.i := fun h => by rw [lin_cmpI.eq _ _ h]
    have e5 : cmpS x.s y.s = 0 → cmpS x.s z.s = cmpS y.s z.s := fun h => by rw [lin_cmpS.eq _ _ h]
    have e6 : cmpS y.s z.s = 0 → cmpS x.s z.s = cmpS x.s y.s := fun h => by rw [lin_cmpS.eq _ _ h]
    simp only [cmpV, nz] at h g ⊢
    repeat' split at h
    all_goals repeat' split at g
    all_goals repeat' split
    all_goals omega
theorem lin_cmpR : Lin cmpR := by
  have hneg : ∀ x y, cmpR y x = - cmpR x y := by
    intro x
    induction x with
    | nil => intro y; cases y <;> simp [cmpR]
    | cons a r ih =>
      intro y
      cases y with
      | nil => simp [cmpR]
      | cons b r' =>
        simp only [cmpR, lin_cmpV.neg a b, ih r']
        repeat' split
        all_goals omega
  refine ⟨hneg, fun x => ?_, fun x => ?_⟩
  · induction x with
    | nil => intro y h; cases y with
      | nil => rfl
      | cons b r => simp [cmpR] at h
    | cons a r ih =>
      intro y h
      cases y with
      | nil => simp [cmpR] at h
      | cons b r' =>
        simp only [cmpR] at h
        split at h
        · rename_i h1; rw [lin_cmpV.eq _ _ h1, ih _ h]
        · exact absurd h (by assumption)
  · induction x with
    | nil => intro y z h g; cases y with
      | nil => exact g
      | cons b r => cases z with
        | nil => simp [cmpR] at g
        | cons c r' => simp [cmpR]
    | cons a r ih =>
      intro y z h g
      cases y with
      | nil => simp [cmpR] at h
      | cons b r' => cases z with
        | nil => simp [cmpR] at g
        | cons c r'' =>
          have e1 : cmpV a b = 0 → cmpV a c = cmpV b c := fun h => by rw [lin_cmpV.eq _ _ h]
          have e2 : cmpV b c = 0 → cmpV a c = cmpV a b := fun h => by rw [lin_cmpV.eq _ _ h]
          have t := lin_cmpV.trans a b c
          simp only [cmpR] at h g ⊢
          split at h
          · rename_i h1
            split at g
            · rename_i g1
              rw [if_pos (by rw [e1 h1]; exact g1)]; exact ih _ _ h g
            · rename_i g1
              rw [if_neg (by rw [e1 h1]; exact g1), e1 h1]; exact g
          · rename_i h1
            split at g
            · rename_i g1
              rw [if_neg (by rw [e2 g1]; exact h1), e2 g1]; exact h
            · have := t h g
              rw [if_neg (by omega)]; exact this
/-- Items, by their rows. -/
def cI (a b : It) : Int := cmpR a.row b.row
theorem cmp_cI : Cmp cI := by
  refine ⟨fun x y h => ?_, fun x y z h g => ?_⟩
  · have := lin_cmpR.neg y.row x.row
    simp only [cI] at *; omega
  · simp only [cI] at *
    have t := lin_cmpR.trans x.row y.row z.row
    by_cases e1 : cmpR x.row y.row = 0
    · rw [lin_cmpR.eq _ _ e1]; exact g
    · by_cases e2 : cmpR y.row z.row = 0
      · rw [← lin_cmpR.eq _ _ e2]; exact h
      · have := t (by omega) (by omega); omega
end Yt
