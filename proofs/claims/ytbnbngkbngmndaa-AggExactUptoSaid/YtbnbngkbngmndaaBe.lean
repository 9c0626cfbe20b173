/- Contracts of the program's functions over abstract values and states, plain facts on which these lean, and the framework of these values over the model: How rows are ordered; the stable sort of items by rows. Items: found, weighed. Copies; sums that are kept in two parts. What the laws leave aside; rows that are equal. Rows that are equal; sets that may be. Sums by rows: the plain part of what is made of items. Group by group: the plain part. What is made of items: the walk. Is a set right; its size. The law SetSorted. Sets added; sets compared. Rows and values by the page; the set of rows. The page's comparison of rows, its check of sets. The page's sort. What is made of items, by the page; tame sets. Sets added. The law SetEnds. The law SetMakes. Tame sets. The law SetMany. Sets twinned and turned about. The law SetGroup. The law SetBent. Predicates; items deleted; sets filtered. Items deleted in place; sets filtered. Sets filtered, united, taken off. Columns picked; sets projected. The wake of chapter 16; what is left aside. Freezing; what is filtered is small. Plain facts of what is projected. Distinct rows; sets as what their makers answer, let go. Plain facts of distinct rows; the wake of chapter 18. The conditions stand in each theorem. -/
import Derived.Test.YtbnbngkbngmndaaBd
import Derived.Test.YtbnbngkbngmndaaBb
set_option linter.all false
namespace Yt
open Go Go.Vc Go.Proofs
set_option maxRecDepth 10000
set_option linter.unusedSimpArgs false
set_option linter.unusedVariables false
theorem s39 (g : Nat) (c : It → It → Int) (hc : Cmp c) (B : It → Prop) (hg : ∀ x y, B x → B y → Spec0 Try.prog g [.ag x.c, .ag y.c] (· = iA (c x y))) (z : List It) (hB : ∀ x ∈ z, B x) (hl : z.length < 576460752303423488) :
    SpecO Try.prog 120 [.rf 0 0 z.length, .fn g []] (so z) (fun r o' => r = .tu [] ∧ ∃ z', o' = so z' ∧ Win z z' 0 z.length ∧ SR c z' 0 z.length) := by
  refine specO_of_vc tabOk elems ord120 Try.func120 rfl (rl := []) rfl (by kernel_rfl) rfl ?_
  (simp -implicitDefEqProofs only [go_sem, so]; repeat (refine GO ?_; simp -implicitDefEqProofs only [go_sem, so]))
  refine .obj 0 (so z) _ _ (s60 g c hc B hg z hB hl) rfl (so_leafy z) rfl rfl fun r o' hr _ _ => ?_
  obtain ⟨rfl, y, rfl, hw, hs⟩ := hr
  (simp -implicitDefEqProofs only [go_sem]; repeat (refine GO ?_; simp -implicitDefEqProofs only [go_sem]))
  refine FIN_O (o' := so y) rfl ?_ (so_leafy y) ?_
  · rfl
  · exact ⟨so y, ⟨⟨rfl, y, rfl, hw, hs⟩, rfl⟩, so_leafy y, rfl⟩

-- bytes, in the order of a dictionary
theorem bl_irr (x : List UInt8) : Op.bytesLess x x = false := by
  induction x with
  | nil => rfl
  | cons a r ih => simp [Op.bytesLess, ih]
theorem bl_asymm : ∀ (x y : List UInt8), Op.bytesLess x y = true → Op.bytesLess y x = false
  | _, [], h => by simp [Op.bytesLess] at h
  | [], _ :: _, h => rfl
  | a :: x, b :: y, h => by
    simp only [Op.bytesLess, Bool.or_eq_true, decide_eq_true_eq, Bool.and_eq_true, beq_iff_eq] at h
    simp only [Op.bytesLess, Bool.or_eq_false_iff, decide_eq_false_iff_not, Bool.and_eq_false_imp, beq_iff_eq]
    rcases h with h | ⟨h1, h2⟩
    · exact ⟨fun g => by rw [UInt8.lt_iff_toNat_lt] at *; omega, fun e => by subst e; rw [UInt8.lt_iff_toNat_lt] at h; omega⟩
    · subst h1; exact ⟨fun g => by rw [UInt8.lt_iff_toNat_lt] at g; omega, fun _ => bl_asymm x y h2⟩
theorem bl_tri : ∀ (x y : List UInt8), Op.bytesLess x y = false → Op.bytesLess y x = false → x = y
  | [], [], _, _ => rfl
  | [], _ :: _, h, _ => by simp [Op.bytesLess] at h
  | _ :: _, [], _, h => by simp [Op.bytesLess] at h
  | a :: x, b :: y, h, g => by
    simp only [Op.bytesLess, Bool.or_eq_false_iff, decide_eq_false_iff_not, Bool.and_eq_false_imp, beq_iff_eq] at h g
    have hab : a = b := by
      apply UInt8.toNat_inj.1
      have h1 := h.1; have g1 := g.1
      rw [UInt8.lt_iff_toNat_lt] at h1 g1
      omega
    subst hab
    rw [bl_tri x y (h.2 rfl) (g.2 rfl)]
theorem bl_trans : ∀ (x y z : List UInt8), Op.bytesLess x y = true → Op.bytesLess y z = true → Op.bytesLess x z = true
  | _, [], _, h, _ => by simp [Op.bytesLess] at h
  | _, _ :: _, [], _, g => by simp [Op.bytesLess] at g
  | [], _ :: _, _ :: _, _, _ => rfl
  | a :: x, b :: y, c :: z, h, g => by
    simp only [Op.bytesLess, Bool.or_eq_true, decide_eq_true_eq, Bool.and_eq_true, beq_iff_eq] at h g ⊢
    rcases h with h | ⟨h1, h2⟩
    · rcases g with g | ⟨g1, g2⟩
      · left; rw [UInt8.lt_iff_toNat_lt] at *; omega
      · subst g1; left; exact h
    · subst h1
      rcases g with g | ⟨g1, g2⟩
      · left; exact g
      · right; exact ⟨g1, bl_trans x y z h2 g2⟩

structure Lin {α : Type} (f : α → α → Int) : Prop where
  neg : ∀ x y, f y x = - f x y
  eq : ∀ x y, f x y = 0 → x = y
  trans : ∀ x y z, f x y < 0 → f y z < 0 → f x z < 0
theorem Lin.self {α : Type} {f : α → α → Int} (h : Lin f) (x : α) : f x x = 0 := by have := h.neg x x; omega
theorem lin_cmpI : Lin cmpI := by
  refine ⟨fun x y => ?_, fun x y h => ?_, fun x y z h g => ?_⟩
  · simp only [cmpI]; split <;> split <;> (try split) <;> omega
  · simp only [cmpI] at h; split at h
    · omega
    · split at h <;> omega
  · simp only [cmpI] at h g ⊢
    split at h
    · split at g
      · rw [if_pos (by omega)]; omega
      · split at g <;> omega
    · split at h <;> omega
theorem cmpS_lt {x y : ByteArray} : cmpS x y < 0 ↔ Op.bytesLess x.toList y.toList = true := by
  simp only [cmpS]
  split
  · simp [*]
  · rename_i h; split <;> simp [h]
theorem cmpS_zero {x y : ByteArray} : cmpS x y = 0 ↔ x = y := by
  simp only [cmpS]
  split
  · rename_i h
    constructor
    · intro e; omega
    · intro e; subst e; rw [bl_irr] at h; cases h
  · rename_i h
    split
    · rename_i g
      constructor
      · intro e; omega
      · intro e; subst e; simp at g
    · rename_i g
      simp only [Bool.not_eq_true, Bool.not_eq_false', Bool.or_eq_true, decide_eq_true_eq] at g h
      simp only [h, Bool.false_eq_true, false_or] at g
      simp [g]
theorem lin_cmpS : Lin cmpS := by
  refine ⟨fun x y => ?_, fun x y h => cmpS_zero.1 h, fun x y z h g => ?_⟩
  · have v : ∀ a b : ByteArray, cmpS a b = -1 ∨ cmpS a b = 0 ∨ cmpS a b = 1 := by
      intro a b; simp only [cmpS]; split
      · simp
      · split <;> simp
    have k1 : cmpS x y < 0 → ¬ cmpS y x < 0 := fun h => by
      rw [cmpS_lt] at h ⊢
      rw [bl_asymm _ _ h]; simp
    have k2 : ¬ cmpS x y < 0 → ¬ cmpS y x < 0 → cmpS x y = 0 ∧ cmpS y x = 0 := fun h g => by
      rw [cmpS_lt] at h g
      have : x = y := toList_inj (bl_tri _ _ (by simpa using h) (by simpa using g))
      exact ⟨cmpS_zero.2 this, cmpS_zero.2 this.symm⟩
    have k3 : cmpS x y = 0 → cmpS y x = 0 := fun h => cmpS_zero.2 (cmpS_zero.1 h).symm
    have k4 : cmpS y x = 0 → cmpS x y = 0 := fun h => cmpS_zero.2 (cmpS_zero.1 h).symm
    rcases v x y with a | a | a <;> rcases v y x with b | b | b <;> first | omega | (have := k1 (by omega); omega) | (have := k2 (by omega) (by omega); omega) | (have := k3 (by omega); omega) | (have := k4 (by omega); omega)
  · rw [cmpS_lt] at *; exact bl_trans _ _ _ h g
theorem lin_cmpV : Lin cmpV := by
  refine ⟨fun x y => ?_, fun x y h => ?_, fun x y z h g => ?_⟩
  · simp only [cmpV, nz, lin_cmpI.neg x.k y.k, lin_cmpI.neg x.i y.i, lin_cmpS.neg x.s y.s]
    repeat' split
    all_goals omega
  · simp only [cmpV, nz] at h
    split at h
    · rename_i h1
      split at h
      · rename_i h2
        split at h
        · rename_i h3
          obtain ⟨a, b, c⟩ := x; obtain ⟨a', b', c'⟩ := y
          simp only [V.mk.injEq]
          exact ⟨lin_cmpI.eq _ _ h1, lin_cmpI.eq _ _ h2, lin_cmpS.eq _ _ h3⟩
        · exact absurd h (by assumption)
      · exact absurd h (by assumption)
    · exact absurd h (by assumption)
  · have t1 := lin_cmpI.trans x.k y.k z.k
    have t2 := lin_cmpI.trans x.i y.i z.i
    have t3 := lin_cmpS.trans x.s y.s z.s
    have e1 : cmpI x.k y.k = 0 → cmpI x.k z.k = cmpI y.k z.k := fun h => by rw [lin_cmpI.eq _ _ h]
    have e2 : cmpI y.k z.k = 0 → cmpI x.k z.k = cmpI x.k y.k := fun h => by rw [lin_cmpI.eq _ _ h]
    have e3 : cmpI x.i y.i = 0 → cmpI x.i z.i = cmpI y.i z.i := fun h => by rw [lin_cmpI.eq _ _ h]
    have e4 : cmpI y.i z.i = 0 → cmpI x.i z.i = cmpI x.i y.i := fun h => by rw [lin_cmpI.eq _ _ h]
    have e5 : cmpS x.s y.s = 0 → cmpS x.s z.s = cmpS y.s z.s := fun h => by rw [lin_cmpS.eq _ _ h]
    have e6 : cmpS y.s z.s = 0 → cmpS x.s z.s = cmpS x.s y.s := fun h => by rw [lin_cmpS.eq _ _ h]
    simp only [cmpV, nz] at h g ⊢
    repeat' split at h
    all_goals repeat' split at g
    all_goals repeat' split
    all_goals omega
theorem lin_cmpR : Lin cmpR := by
  have hneg : ∀ x y, cmpR y x = - cmpR x y := by
    intro x
    induction x with
    | nil => intro y; cases y <;> simp [cmpR]
    | cons a r ih =>
      intro y
      cases y with
      | nil => simp [cmpR]
      | cons b r' =>
        simp only [cmpR, lin_cmpV.neg a b, ih r']
        repeat' split
        all_goals omega
  refine ⟨hneg, fun x => ?_, fun x => ?_⟩
  · induction x with
    | nil => intro y h; cases y with
      | nil => rfl
      | cons b r => simp [cmpR] at h
    | cons a r ih =>
      intro y h
      cases y with
      | nil => simp [cmpR] at h
      | cons b r' =>
        simp only [cmpR] at h
        split at h
        · rename_i h1; rw [lin_cmpV.eq _ _ h1, ih _ h]
        · exact absurd h (by assumption)
  · induction x with
    | nil => intro y z h g; cases y with
      | nil => exact g
      | cons b r => cases z with
        | nil => simp [cmpR] at g
        | cons c r' => simp [cmpR]
    | cons a r ih =>
      intro y z h g
      cases y with
      | nil => simp [cmpR] at h
      | cons b r' => cases z with
        | nil => simp [cmpR] at g
        | cons c r'' =>
          have e1 : cmpV a b = 0 → cmpV a c = cmpV b c := fun h => by rw [lin_cmpV.eq _ _ h]
          have e2 : cmpV b c = 0 → cmpV a c = cmpV a b := fun h => by rw [lin_cmpV.eq _ _ h]
          have t := lin_cmpV.trans a b c
          simp only [cmpR] at h g ⊢
          split at h
          · rename_i h1
            split at g
            · rename_i g1
              rw [if_pos (by rw [e1 h1]; exact g1)]; exact ih _ _ h g
            · rename_i g1
              rw [if_neg (by rw [e1 h1]; exact g1), e1 h1]; exact g
          · rename_i h1
            split at g
            · rename_i g1
              rw [if_neg (by rw [e2 g1]; exact h1), e2 g1]; exact h
            · have := t h g
              rw [if_neg (by omega)]; exact this
def cI (a b : It) : Int := cmpR a.row b.row
theorem cmp_cI : Cmp cI := by
  refine ⟨fun x y h => ?_, fun x y z h g => ?_⟩
  · have := lin_cmpR.neg y.row x.row
    simp only [cI] at *; omega
  · simp only [cI] at *
    have t := lin_cmpR.trans x.row y.row z.row
    by_cases e1 : cmpR x.row y.row = 0
    · rw [lin_cmpR.eq _ _ e1]; exact g
    · by_cases e2 : cmpR y.row z.row = 0
      · rw [← lin_cmpR.eq _ _ e2]; exact h
      · have := t (by omega) (by omega); omega
end Yt
namespace Yt
open Go Go.Vc Go.Proofs
set_option maxRecDepth 10000
set_option linter.unusedSimpArgs false
set_option linter.unusedVariables false
theorem s47 (g : Nat) (caps : List AV) (hc : noIds caps = true) (p : It → Bool) (B : It → Prop) (hg : ∀ t : It, B t → Spec0 Try.prog g (.ag t.c :: caps) (· = bA (p t))) (a : List It) (hB : ∀ t ∈ a, B t) (ha : a.length < 4611686018427387904) :
    Spec0 Try.prog 91 [setA a, .fn g caps] (· = idxA p a) := by
  refine spec0_of_vc tabOk elems ord91 Try.func91 rfl (rl := [.tmp 4]) rfl (by kernel_rfl) rfl ?_
  (simp -implicitDefEqProofs only [go_sem, setA]; repeat (refine GO ?_; simp -implicitDefEqProofs only [go_sem, setA]))
  refine LOOP.mk (ι := { i : Nat // i ≤ a.length ∧ ∀ j (hj : j < a.length), j < i → p a[j] = false }) (fun i => mkS [(0, setA a), (1, .fn g caps), (7, .pr (.int .i64 a.length)), (8, .pr (.int .i64 i.1))] [] []) (fun i => a.length - i.1)
    ⟨0, by simp⟩ [] rfl rfl ?_ (fun i => ?_)
  · (simp -implicitDefEqProofs only [go_sem, setA]; repeat (refine GO ?_; simp -implicitDefEqProofs only [go_sem, setA]))
    simp [wks_noId caps hc]
  · obtain ⟨i, hi, hz⟩ := i
    (simp -implicitDefEqProofs only [go_sem, setA]; repeat (refine GO ?_; simp -implicitDefEqProofs only [go_sem, setA]))
    refine ⟨fun h => ?_, fun h => ?_⟩
    · simp only [decide_eq_true_eq] at h
      have hi' : i < a.length := by omega
      (simp -implicitDefEqProofs only [go_sem]; repeat (refine GO ?_; simp -implicitDefEqProofs only [go_sem]))
      refine EL.map hi' ?_
      (simp -implicitDefEqProofs only [go_sem, It.c]; repeat (refine GO ?_; simp -implicitDefEqProofs only [go_sem, It.c]))
      refine .pure _ (hg a[i] (hB _ (List.getElem_mem _))) ?_ fun r hr _ => ?_
      · simp [noIds, AV.noId, It.c, hc, rowA, iA]
      subst hr
      (simp -implicitDefEqProofs only [go_sem, bA]; repeat (refine GO ?_; simp -implicitDefEqProofs only [go_sem, bA]))
      refine VIF.split (fun e => ?_) (fun e => ?_)
      · (simp -implicitDefEqProofs only [go_sem]; repeat (refine GO ?_; simp -implicitDefEqProofs only [go_sem]))
        simp [idxA, idxI, iA, idx_some hi' hz e]
      · (simp -implicitDefEqProofs only [go_sem]; repeat (refine GO ?_; simp -implicitDefEqProofs only [go_sem]))
        refine BACK.mk ⟨i + 1, hi', fun j hj hji => ?_⟩ [] rfl rfl (by show a.length - (i + 1) < a.length - i; omega) ?_
        · by_cases hji' : j = i
          · subst hji'; exact e
          · exact hz j hj (by omega)
        · (simp -implicitDefEqProofs only [go_sem, setA]; repeat (refine GO ?_; simp -implicitDefEqProofs only [go_sem, setA]))
          simp [wrap_succ hi' ha, wks_noId caps hc]
    · simp at h
      (simp -implicitDefEqProofs only [go_sem]; repeat (refine GO ?_; simp -implicitDefEqProofs only [go_sem]))
      simp [idxA, idxI, iA, idx_none fun j hj => hz j hj (by omega)]
theorem s34 (a : List It) (hB : ∀ t ∈ a, t.row.length < 4611686018427387904) (ha : a.length < 4611686018427387904) : Spec0 Try.prog 118 [setA a, .fn 119 []] (· = bA (a.any fun t => !okI t)) := by
  refine spec0_of_vc tabOk elems ord118 Try.func118 rfl (rl := [.tmp 4]) rfl (by kernel_rfl) rfl ?_
  (simp -implicitDefEqProofs only [go_sem, setA]; repeat (refine GO ?_; simp -implicitDefEqProofs only [go_sem, setA]))
  refine .pure _ (s47 119 [] rfl (fun t => !okI t) _ (fun t ht => s35 t ht) a hB ha) rfl fun r hr _ => ?_
  subst hr
  (simp -implicitDefEqProofs only [go_sem, idxA, iA]; repeat (refine GO ?_; simp -implicitDefEqProofs only [go_sem, idxA, iA]))
  rw [idx_any]; rfl
end Yt
namespace Yt
open Go Go.Vc Go.Proofs
set_option maxRecDepth 10000
set_option linter.unusedSimpArgs false
set_option linter.unusedVariables false
theorem s38 (z : List It) (hl : z.length ≤ 1073741824) : Spec1 Try.prog 85 [setA z] (fun r o => r = .rf 0 0 z.length ∧ o = so z) := by
  refine spec1_of_vc tabOk elems ord85 Try.func85 rfl (rl := [.tmp 2]) rfl (by kernel_rfl) rfl ?_
  (simp -implicitDefEqProofs only [go_sem, setA]; repeat (refine GO ?_; simp -implicitDefEqProofs only [go_sem, setA]))
  refine ⟨⟨_, rfl⟩, fun b hb => ?_⟩
  refine VIF.split (fun h => ?_) (fun h => ?_)
  · have hz : z = [] := by simpa using hb (by simpa using h)
    subst hz
    (simp -implicitDefEqProofs only [go_sem]; repeat (refine GO ?_; simp -implicitDefEqProofs only [go_sem]))
    refine FINmk [(0, none)] [(2, .rf 0 0 0)] [(0, so [])] [0] rfl ?_ ?_
    · (simp -implicitDefEqProofs only [go_sem]; repeat (refine GO ?_; simp -implicitDefEqProofs only [go_sem]))
      simp [so]
    · exact ⟨so [], ⟨⟨rfl, rfl⟩, rfl⟩, so_leafy [], rfl⟩
  · (simp -implicitDefEqProofs only [go_sem]; repeat (refine GO ?_; simp -implicitDefEqProofs only [go_sem]))
    refine ⟨by omega, ?_⟩
    refine FINmk [(0, some 7)] [(2, .rf 0 0 z.length)] [(0, so z)] [0] rfl ?_ ?_
    · (simp -implicitDefEqProofs only [go_sem, so]; repeat (refine GO ?_; simp -implicitDefEqProofs only [go_sem, so]))
      exact .same (so z) _ _ (so_leafy z) rfl
    · exact ⟨so z, ⟨⟨rfl, rfl⟩, rfl⟩, so_leafy z, rfl⟩
def ro3 (a : List V) : Ob := ⟨3, a.map V.c⟩
theorem ro3_leafy (a : List V) : (ro3 a).leafy := by
  rw [ro3, leafy_do]
  exact leafs2_map fun x _ => by simp [V.c, leafs, AV.leaf]
theorem s43 (a : List V) (hl : a.length ≤ 1073741824) : Spec1 Try.prog 110 [rowA a] (fun r o => r = .rf 0 0 a.length ∧ o = ro3 a) := by
  refine spec1_of_vc tabOk elems ord110 Try.func110 rfl (rl := [.tmp 2]) rfl (by kernel_rfl) rfl ?_
  (simp -implicitDefEqProofs only [go_sem, rowA]; repeat (refine GO ?_; simp -implicitDefEqProofs only [go_sem, rowA]))
  refine ⟨⟨_, rfl⟩, fun b hb => ?_⟩
  refine VIF.split (fun h => ?_) (fun h => ?_)
  · have hz : a = [] := by simpa using hb (by simpa using h)
    subst hz
    (simp -implicitDefEqProofs only [go_sem]; repeat (refine GO ?_; simp -implicitDefEqProofs only [go_sem]))
    refine FINmk [(0, none)] [(2, .rf 0 0 0)] [(0, ro3 [])] [0] rfl ?_ ?_
    · (simp -implicitDefEqProofs only [go_sem]; repeat (refine GO ?_; simp -implicitDefEqProofs only [go_sem]))
      simp [ro3]
    · exact ⟨ro3 [], ⟨⟨rfl, rfl⟩, rfl⟩, ro3_leafy [], rfl⟩
  · (simp -implicitDefEqProofs only [go_sem]; repeat (refine GO ?_; simp -implicitDefEqProofs only [go_sem]))
    refine ⟨by omega, ?_⟩
    refine FINmk [(0, some 7)] [(2, .rf 0 0 a.length)] [(0, ro3 a)] [0] rfl ?_ ?_
    · (simp -implicitDefEqProofs only [go_sem, ro3]; repeat (refine GO ?_; simp -implicitDefEqProofs only [go_sem, ro3]))
      exact .same (ro3 a) _ _ (ro3_leafy a) rfl
    · exact ⟨ro3 a, ⟨⟨rfl, rfl⟩, rfl⟩, ro3_leafy a, rfl⟩
theorem and_mask (x : Int) : bitsOp .and .i64 x 268435455 = x % 268435456 := by
  simp only [bitsOp]
  have h1 : (BitVec.ofInt IntKind.i64.bits x &&& BitVec.ofInt IntKind.i64.bits 268435455).toNat = (x % 268435456).toNat := by
    rw [BitVec.toNat_and]
    have e1 : (BitVec.ofInt IntKind.i64.bits 268435455).toNat = 2 ^ 28 - 1 := by decide
    rw [e1, Nat.and_two_pow_sub_one_eq_mod]
    simp only [BitVec.toNat_ofInt, IntKind.bits]
    omega
  rw [h1, wrap_i64] <;> omega
theorem shr28 (x : Int) : x / 2 ^ min (Int.toNat 28) 64 = x / 268435456 := by
  have h2 : (2 : Int) ^ min (Int.toNat 28) 64 = 268435456 := by decide
  rw [h2]
theorem s41 (h l w : Int) (hh : -36028797018963968 ≤ h ∧ h ≤ 36028797018963968) (hl : 0 ≤ l ∧ l ≤ 36028797018963968) (hw : -144115188075855872 ≤ w ∧ w ≤ 144115188075855872) :
    SpecO Try.prog 122 [.pt 0 0 0, iA w] ⟨2, [[iA h, iA l]]⟩ (fun r o => r = .tu [] ∧ o = ⟨2, [[iA (h + w / 268435456), iA (l + w % 268435456)]]⟩) := by
  refine specO_of_vc tabOk elems ord122 Try.func122 rfl (rl := []) rfl (by kernel_rfl) rfl ?_
  have w1 : IntKind.i64.wrap (h + w / 268435456) = h + w / 268435456 := by rw [wrap_i64] <;> omega
  have w2 : IntKind.i64.wrap (l + w % 268435456) = l + w % 268435456 := by rw [wrap_i64] <;> omega
  (simp -implicitDefEqProofs only [go_sem, iA, shr28, and_mask, w1, w2]; repeat (refine GO ?_; simp -implicitDefEqProofs only [go_sem, iA, shr28, and_mask, w1, w2]))
  refine ⟨by decide, ?_⟩
  refine FIN_O (o' := ⟨2, [[iA (h + w / 268435456), iA (l + w % 268435456)]]⟩) rfl ?_ ?_ ?_
  · rfl
  · rw [leafy_do]; simp [leafs2, leafs, iA, AV.leaf]
  · exact ⟨_, ⟨⟨rfl, rfl⟩, rfl⟩, by rw [leafy_do]; simp [leafs2, leafs, iA, AV.leaf], rfl⟩
theorem shl28 (x : Int) : x * 2 ^ min (Int.toNat 28) 64 = x * 268435456 := by
  have h2 : (2 : Int) ^ min (Int.toNat 28) 64 = 268435456 := by decide
  rw [h2]
theorem s42 (h l : Int) (hh : -36028797018963968 ≤ h ∧ h ≤ 36028797018963968) (hl : 0 ≤ l ∧ l ≤ 36028797018963968) :
    Spec0 Try.prog 123 [.ag [iA h, iA l]] (fun r => ∃ v, r = .tu [iA v, bA (okW (h * 268435456 + l))] ∧ (okW (h * 268435456 + l) = true → v = h * 268435456 + l)) := by
  refine spec0_of_vc tabOk elems ord123 Try.func123 rfl (rl := [.tmp 2, .tmp 3]) rfl (by kernel_rfl) rfl ?_
  have w1 : IntKind.i64.wrap (h + l / 268435456) = h + l / 268435456 := by rw [wrap_i64] <;> omega
  (simp -implicitDefEqProofs only [go_sem, iA, shr28, w1]; repeat (refine GO ?_; simp -implicitDefEqProofs only [go_sem, iA, shr28, w1]))
  refine ⟨by decide, ?_⟩
  have bad : ∀ b, b = okW (h * 268435456 + l) → b = false → ∃ v, (AV.tu [.pr (.int .i64 0), .pr (.bool false)]) = .tu [iA v, bA (okW (h * 268435456 + l))] ∧ (okW (h * 268435456 + l) = true → v = h * 268435456 + l) := by
    intro b h1 h2
    subst h1
    exact ⟨0, by rw [h2]; rfl, fun h => by rw [h2] at h; cases h⟩
  refine VIF.split (fun e => ?_) (fun e => ?_)
  · simp at e
    (simp -implicitDefEqProofs only [go_sem]; repeat (refine GO ?_; simp -implicitDefEqProofs only [go_sem]))
    exact ⟨rfl, bad _ rfl (by simp [okW, inB]; omega)⟩
  · simp at e
    (simp -implicitDefEqProofs only [go_sem]; repeat (refine GO ?_; simp -implicitDefEqProofs only [go_sem]))
    refine VIF.split (fun e2 => ?_) (fun e2 => ?_)
    · simp at e2
      (simp -implicitDefEqProofs only [go_sem]; repeat (refine GO ?_; simp -implicitDefEqProofs only [go_sem]))
      exact ⟨rfl, bad _ rfl (by simp [okW, inB]; omega)⟩
    · simp at e2
      have w2 : IntKind.i64.wrap ((h + l / 268435456) * 268435456) = (h + l / 268435456) * 268435456 := by rw [wrap_i64] <;> omega
      have w3 : IntKind.i64.wrap ((h + l / 268435456) * 268435456 + l % 268435456) = h * 268435456 + l := by rw [wrap_i64] <;> omega
      (simp -implicitDefEqProofs only [go_sem, shl28, and_mask, w1, w2, w3]; repeat (refine GO ?_; simp -implicitDefEqProofs only [go_sem, shl28, and_mask, w1, w2, w3]))
      refine ⟨by decide, GO ?_⟩
      (simp -implicitDefEqProofs only [go_sem]; repeat (refine GO ?_; simp -implicitDefEqProofs only [go_sem]))
      refine .pure _ (s37 (h * 268435456 + l)) rfl fun r hr _ => ?_
      subst hr
      (simp -implicitDefEqProofs only [go_sem, bA]; repeat (refine GO ?_; simp -implicitDefEqProofs only [go_sem, bA]))
      exact ⟨rfl, h * 268435456 + l, rfl, fun _ => rfl⟩
end Yt
namespace Yt
open Go Go.Vc Go.Proofs
set_option maxRecDepth 10000
set_option linter.unusedSimpArgs false
set_option linter.unusedVariables false
theorem any_take {α : Type} {p : α → Bool} {l : List α} {i : Nat} (h : ∀ j (hj : j < l.length), j < i → p l[j] = false) (hi : l.length ≤ i) : l.any p = false := by
  rw [List.any_eq_false]
  intro x hx
  obtain ⟨j, hj, rfl⟩ := List.mem_iff_getElem.1 hx
  simp [h j hj (by omega)]
theorem any_at {α : Type} {p : α → Bool} {l : List α} {i : Nat} (hi : i < l.length) (h : p l[i] = true) : l.any p = true := List.any_eq_true.2 ⟨_, List.getElem_mem hi, h⟩
theorem snoc_no {α : Type} {p : α → Bool} {l : List α} {i : Nat} (h : ∀ j (hj : j < l.length), j < i → p l[j] = false) (hi : i < l.length) (hp : p l[i] = false) : ∀ j (hj : j < l.length), j < i + 1 → p l[j] = false := by
  intro j hj hji
  by_cases e : j = i
  · subst e; exact hp
  · exact h j hj (by omega)
def longV (v : V) : Bool := decide (300 < (v.s.size : Int))
theorem s50 (a : List V) (ha : a.length < 4611686018427387904) : Spec0 Try.prog 50 [rowA a] (· = bA (a.any longV)) := by
  refine spec0_of_vc tabOk elems ord50 Try.func50 rfl (rl := [.tmp 2]) rfl (by kernel_rfl) rfl ?_
  (simp -implicitDefEqProofs only [go_sem, rowA]; repeat (refine GO ?_; simp -implicitDefEqProofs only [go_sem, rowA]))
  refine LOOP.mk (ι := { i : Nat // i ≤ a.length ∧ ∀ j (hj : j < a.length), j < i → longV a[j] = false }) (fun i => mkS [(0, rowA a), (3, iA i.1)] [] []) (fun i => a.length - i.1)
    ⟨0, by simp⟩ [] rfl rfl ?_ (fun i => ?_)
  · (simp -implicitDefEqProofs only [go_sem, rowA, iA]; repeat (refine GO ?_; simp -implicitDefEqProofs only [go_sem, rowA, iA]))
    simp
  · obtain ⟨i, hi, hz⟩ := i
    (simp -implicitDefEqProofs only [go_sem, rowA, iA]; repeat (refine GO ?_; simp -implicitDefEqProofs only [go_sem, rowA, iA]))
    refine VIF.split (fun h => ?_) (fun h => ?_)
    · simp only [decide_eq_true_eq] at h
      have hi' : i < a.length := by omega
      (simp -implicitDefEqProofs only [go_sem]; repeat (refine GO ?_; simp -implicitDefEqProofs only [go_sem]))
      refine EL.map hi' ?_
      (simp -implicitDefEqProofs only [go_sem, V.c]; repeat (refine GO ?_; simp -implicitDefEqProofs only [go_sem, V.c]))
      refine VIF.split (fun e => ?_) (fun e => ?_)
      · (simp -implicitDefEqProofs only [go_sem]; repeat (refine GO ?_; simp -implicitDefEqProofs only [go_sem]))
        rw [any_at hi' e]; rfl
      · (simp -implicitDefEqProofs only [go_sem]; repeat (refine GO ?_; simp -implicitDefEqProofs only [go_sem]))
        refine BACK.mk ⟨i + 1, hi', snoc_no hz hi' e⟩ [] rfl rfl (by show a.length - (i + 1) < a.length - i; omega) ?_
        (simp -implicitDefEqProofs only [go_sem, rowA, iA]; repeat (refine GO ?_; simp -implicitDefEqProofs only [go_sem, rowA, iA]))
        simp [wrap_succ hi' ha]
    · simp at h
      (simp -implicitDefEqProofs only [go_sem]; repeat (refine GO ?_; simp -implicitDefEqProofs only [go_sem]))
      rw [any_take hz h]; rfl
def heavyR (r : List V) : Bool := decide (40 < (r.length : Int)) || r.any longV
theorem s19 (a : List V) (ha : a.length < 4611686018427387904) : Spec0 Try.prog 81 [rowA a] (· = bA (heavyR a)) := by
  refine spec0_of_vc tabOk elems ord81 Try.func81 rfl (rl := [.tmp 2]) rfl (by kernel_rfl) rfl ?_
  (simp -implicitDefEqProofs only [go_sem, rowA]; repeat (refine GO ?_; simp -implicitDefEqProofs only [go_sem, rowA]))
  refine VIF.split (fun h => ?_) (fun h => ?_)
  · (simp -implicitDefEqProofs only [go_sem]; repeat (refine GO ?_; simp -implicitDefEqProofs only [go_sem]))
    simp only [heavyR, h]; rfl
  · (simp -implicitDefEqProofs only [go_sem]; repeat (refine GO ?_; simp -implicitDefEqProofs only [go_sem]))
    refine .pure _ (s50 a ha) rfl fun r hr _ => ?_
    subst hr
    (simp -implicitDefEqProofs only [go_sem, bA]; repeat (refine GO ?_; simp -implicitDefEqProofs only [go_sem, bA]))
    simp only [heavyR, h]; rfl
def heavyI (t : It) : Bool := heavyR t.row
def heavyS (z : List It) : Bool := decide (300 < (z.length : Int)) || z.any heavyI
def setsA (zs : List (List It)) : AV := .im 1 (zs.map fun z => [setA z])
theorem s10 (zs : List (List It)) (hl : zs.length < 4611686018427387904) (hz : ∀ z ∈ zs, z.length < 4611686018427387904) (hr : ∀ z ∈ zs, ∀ t ∈ z, t.row.length < 4611686018427387904) :
    Spec0 Try.prog 30 [setsA zs] (· = bA (zs.any heavyS)) := by
  refine spec0_of_vc tabOk elems ord30 Try.func30 rfl (rl := [.tmp 2]) rfl (by kernel_rfl) rfl ?_
  (simp -implicitDefEqProofs only [go_sem, setsA]; repeat (refine GO ?_; simp -implicitDefEqProofs only [go_sem, setsA]))
  refine LOOP.mk (ι := { i : Nat // i ≤ zs.length ∧ ∀ j (hj : j < zs.length), j < i → heavyS zs[j] = false }) (fun i => mkS [(0, setsA zs), (3, iA i.1)] [] []) (fun i => zs.length - i.1)
    ⟨0, by simp⟩ [] rfl rfl ?_ (fun i => ?_)
  · (simp -implicitDefEqProofs only [go_sem, setsA, iA]; repeat (refine GO ?_; simp -implicitDefEqProofs only [go_sem, setsA, iA]))
    simp
  · obtain ⟨i, hi, hd⟩ := i
    (simp -implicitDefEqProofs only [go_sem, setsA, iA]; repeat (refine GO ?_; simp -implicitDefEqProofs only [go_sem, setsA, iA]))
    refine VIF.split (fun h => ?_) (fun h => ?_)
    · simp only [decide_eq_true_eq] at h
      have hi' : i < zs.length := by omega
      have hzi := hz _ (List.getElem_mem hi')
      have hri := hr _ (List.getElem_mem hi')
      (simp -implicitDefEqProofs only [go_sem]; repeat (refine GO ?_; simp -implicitDefEqProofs only [go_sem]))
      refine EL.map hi' ?_
      (simp -implicitDefEqProofs only [go_sem, setA]; repeat (refine GO ?_; simp -implicitDefEqProofs only [go_sem, setA]))
      refine VIF.split (fun e => ?_) (fun e => ?_)
      · (simp -implicitDefEqProofs only [go_sem]; repeat (refine GO ?_; simp -implicitDefEqProofs only [go_sem]))
        rw [any_at hi' (by simp only [heavyS, e]; rfl)]; rfl
      · (simp -implicitDefEqProofs only [go_sem]; repeat (refine GO ?_; simp -implicitDefEqProofs only [go_sem]))
        refine LOOP.mk (ι := { j : Nat // j ≤ zs[i].length ∧ ∀ k (hk : k < zs[i].length), k < j → heavyI zs[i][k] = false }) (fun j => mkS [(0, setsA zs), (3, iA i), (4, iA j.1)] [] []) (fun j => zs[i].length - j.1)
          ⟨0, by simp⟩ [] rfl rfl ?_ (fun j => ?_)
        · (simp -implicitDefEqProofs only [go_sem, setsA, iA]; repeat (refine GO ?_; simp -implicitDefEqProofs only [go_sem, setsA, iA]))
          simp [setA]
        · obtain ⟨j, hj, hk⟩ := j
          (simp -implicitDefEqProofs only [go_sem, setsA, iA]; repeat (refine GO ?_; simp -implicitDefEqProofs only [go_sem, setsA, iA]))
          refine EL.map hi' ?_
          (simp -implicitDefEqProofs only [go_sem, setA]; repeat (refine GO ?_; simp -implicitDefEqProofs only [go_sem, setA]))
          refine VIF.split (fun h' => ?_) (fun h' => ?_)
          · simp only [decide_eq_true_eq] at h'
            have hj' : j < zs[i].length := by omega
            (simp -implicitDefEqProofs only [go_sem]; repeat (refine GO ?_; simp -implicitDefEqProofs only [go_sem]))
            refine EL.map hi' ?_
            (simp -implicitDefEqProofs only [go_sem, setA]; repeat (refine GO ?_; simp -implicitDefEqProofs only [go_sem, setA]))
            refine EL.map hj' ?_
            (simp -implicitDefEqProofs only [go_sem, It.c]; repeat (refine GO ?_; simp -implicitDefEqProofs only [go_sem, It.c]))
            refine .pure _ (s19 zs[i][j].row (hri _ (List.getElem_mem hj'))) rfl fun r hr _ => ?_
            subst hr
            (simp -implicitDefEqProofs only [go_sem, bA]; repeat (refine GO ?_; simp -implicitDefEqProofs only [go_sem, bA]))
            refine VIF.split (fun q => ?_) (fun q => ?_)
            · (simp -implicitDefEqProofs only [go_sem]; repeat (refine GO ?_; simp -implicitDefEqProofs only [go_sem]))
              rw [any_at hi' (by simp only [heavyS, any_at hj' (p := heavyI) q]; simp)]; rfl
            · (simp -implicitDefEqProofs only [go_sem]; repeat (refine GO ?_; simp -implicitDefEqProofs only [go_sem]))
              refine BACK.mk ⟨j + 1, hj', snoc_no hk hj' q⟩ [] rfl rfl (by show zs[i].length - (j + 1) < zs[i].length - j; omega) ?_
              (simp -implicitDefEqProofs only [go_sem, setsA, iA]; repeat (refine GO ?_; simp -implicitDefEqProofs only [go_sem, setsA, iA]))
              simp [wrap_succ hj' hzi, setA]
          · simp at h'
            (simp -implicitDefEqProofs only [go_sem]; repeat (refine GO ?_; simp -implicitDefEqProofs only [go_sem]))
            refine BACK.mk ⟨i + 1, hi', snoc_no hd hi' (by simp only [heavyS, e, any_take hk h']; rfl)⟩ [] rfl rfl (by show zs.length - (i + 1) < zs.length - i; omega) ?_
            (simp -implicitDefEqProofs only [go_sem, setsA, iA]; repeat (refine GO ?_; simp -implicitDefEqProofs only [go_sem, setsA, iA]))
            simp [wrap_succ hi' hl, setA]
    · simp at h
      (simp -implicitDefEqProofs only [go_sem]; repeat (refine GO ?_; simp -implicitDefEqProofs only [go_sem]))
      rw [any_take hd h]; rfl
end Yt
namespace Yt
open Go Go.Vc Go.Proofs
set_option maxRecDepth 10000
set_option linter.unusedSimpArgs false
set_option linter.unusedVariables false
theorem eqV_iff {a b : V} : eqV a b = true ↔ a = b := by
  obtain ⟨k, i, s⟩ := a; obtain ⟨k', i', s'⟩ := b
  simp [eqV, V.mk.injEq, and_assoc]
theorem s14 (a b : List V) (ha : a.length < 4611686018427387904) : Spec0 Try.prog 41 [rowA a, rowA b] (fun r => ∃ e : Bool, r = bA e ∧ (e = true ↔ a = b)) := by
  refine spec0_of_vc tabOk elems ord41 Try.func41 rfl (rl := [.tmp 4]) rfl (by kernel_rfl) rfl ?_
  (simp -implicitDefEqProofs only [go_sem, rowA]; repeat (refine GO ?_; simp -implicitDefEqProofs only [go_sem, rowA]))
  refine VIF.split (fun h => ?_) (fun h => ?_)
  · (simp -implicitDefEqProofs only [go_sem]; repeat (refine GO ?_; simp -implicitDefEqProofs only [go_sem]))
    simp at h
    exact ⟨false, rfl, by simp; intro e; subst e; exact h rfl⟩
  · simp at h
    (simp -implicitDefEqProofs only [go_sem]; repeat (refine GO ?_; simp -implicitDefEqProofs only [go_sem]))
    refine LOOP.mk (ι := { i : Nat // i ≤ a.length ∧ ∀ j (h1 : j < a.length) (h2 : j < b.length), j < i → a[j] = b[j] }) (fun i => mkS [(0, rowA a), (1, rowA b), (5, iA i.1)] [] []) (fun i => a.length - i.1)
      ⟨0, by simp⟩ [] rfl rfl ?_ (fun i => ?_)
    · (simp -implicitDefEqProofs only [go_sem, rowA, iA]; repeat (refine GO ?_; simp -implicitDefEqProofs only [go_sem, rowA, iA]))
      simp
    · obtain ⟨i, hi, hz⟩ := i
      (simp -implicitDefEqProofs only [go_sem, rowA, iA]; repeat (refine GO ?_; simp -implicitDefEqProofs only [go_sem, rowA, iA]))
      refine VIF.split (fun g => ?_) (fun g => ?_)
      · simp only [decide_eq_true_eq] at g
        have hi' : i < a.length := by omega
        have hb' : i < b.length := by omega
        (simp -implicitDefEqProofs only [go_sem]; repeat (refine GO ?_; simp -implicitDefEqProofs only [go_sem]))
        refine EL.map hi' ?_
        (simp -implicitDefEqProofs only [go_sem, V.c]; repeat (refine GO ?_; simp -implicitDefEqProofs only [go_sem, V.c]))
        refine EL.map hb' ?_
        (simp -implicitDefEqProofs only [go_sem, V.c]; repeat (refine GO ?_; simp -implicitDefEqProofs only [go_sem, V.c]))
        refine .pure _ (s46 a[i] b[i]) rfl fun r hr _ => ?_
        subst hr
        (simp -implicitDefEqProofs only [go_sem, bA]; repeat (refine GO ?_; simp -implicitDefEqProofs only [go_sem, bA]))
        refine VIF.split (fun e => ?_) (fun e => ?_)
        · (simp -implicitDefEqProofs only [go_sem]; repeat (refine GO ?_; simp -implicitDefEqProofs only [go_sem]))
          refine ⟨false, rfl, by simp; intro h'; subst h'; simp [eqV_iff.2 rfl] at e⟩
        · (simp -implicitDefEqProofs only [go_sem]; repeat (refine GO ?_; simp -implicitDefEqProofs only [go_sem]))
          have e' : a[i] = b[i] := eqV_iff.1 (by simpa using e)
          refine BACK.mk ⟨i + 1, hi', fun j h1 h2 hj => ?_⟩ [] rfl rfl (by show a.length - (i + 1) < a.length - i; omega) ?_
          · by_cases hji : j = i
            · subst hji; exact e'
            · exact hz j h1 h2 (by omega)
          · (simp -implicitDefEqProofs only [go_sem, rowA, iA]; repeat (refine GO ?_; simp -implicitDefEqProofs only [go_sem, rowA, iA]))
            simp [wrap_succ hi' ha]
      · simp at g
        (simp -implicitDefEqProofs only [go_sem]; repeat (refine GO ?_; simp -implicitDefEqProofs only [go_sem]))
        refine ⟨true, rfl, by simp; exact List.ext_getElem (by omega) fun j h1 h2 => hz j h1 h2 (by omega)⟩
end Yt
namespace Yt
open Go Go.Vc Go.Proofs
set_option linter.unusedSimpArgs false
set_option linter.unusedVariables false
def tot (r : List V) : List It → Int
  | [] => 0
  | t :: z => (if cmpR t.row r = 0 then t.w else 0) + tot r z
theorem tot_append (r : List V) (x y : List It) : tot r (x ++ y) = tot r x + tot r y := by
  induction x with
  | nil => simp [tot]
  | cons t x ih => simp only [List.cons_append, tot, ih]; omega
theorem tot_perm {r : List V} {x y : List It} (h : x.Perm y) : tot r x = tot r y := by
  induction h with
  | nil => rfl
  | cons t _ ih => simp only [tot, ih]
  | swap a b l => simp only [tot]; omega
  | trans _ _ h1 h2 => exact h1.trans h2
def sumW : List It → Int
  | [] => 0
  | t :: z => t.w + sumW z
theorem sumW_append (x y : List It) : sumW (x ++ y) = sumW x + sumW y := by
  induction x with
  | nil => simp [sumW]
  | cons t x ih => simp only [List.cons_append, sumW, ih]; omega
theorem tot_same {r : List V} {x : List It} (h : ∀ t ∈ x, cmpR t.row r = 0) : tot r x = sumW x := by
  induction x with
  | nil => rfl
  | cons t x ih => simp only [tot, sumW, h t (by simp), if_true, ih fun u hu => h u (by simp [hu])]
theorem tot_none {r : List V} {x : List It} (h : ∀ t ∈ x, cmpR t.row r ≠ 0) : tot r x = 0 := by
  induction x with
  | nil => rfl
  | cons t x ih => simp only [tot, h t (by simp), if_false, ih fun u hu => h u (by simp [hu])]; rfl
structure Made (o : List It) : Prop where
  pw : o.Pairwise fun a b => cI a b < 0
  nz : ∀ t ∈ o, t.w ≠ 0 ∧ okW t.w = true
theorem cI_eq {a b : It} : cI a b = 0 ↔ a.row = b.row := ⟨lin_cmpR.eq _ _, fun h => by simp only [cI, h]; exact lin_cmpR.self _⟩
theorem tot_made {o : List It} (h : Made o) {t : It} (ht : t ∈ o) : tot t.row o = t.w := by
  obtain ⟨hp, hz⟩ := h
  clear hz
  induction o with
  | nil => cases ht
  | cons u o ih =>
    rw [List.pairwise_cons] at hp
    simp only [tot]
    cases ht with
    | head =>
      rw [if_pos (lin_cmpR.self _), tot_none (fun v hv => ?_)]
      · omega
      · have := hp.1 v hv
        have hn := lin_cmpR.neg t.row v.row
        simp only [cI] at this
        omega
    | tail _ ht =>
      have := hp.1 t ht
      simp only [cI] at this
      rw [if_neg (by omega), ih ht hp.2]; omega
theorem made_eq {x y : List It} (hx : Made x) (hy : Made y) (h : ∀ r, tot r x = tot r y) : x = y := by
  have key : ∀ {x y : List It}, Made x → Made y → (∀ r, tot r x = tot r y) → ∀ t ∈ x, t ∈ y := by
    intro x y hx hy h t ht
    have h1 := tot_made hx ht
    have h2 := h t.row
    rw [h1] at h2
    have hnz := (hx.nz t ht).1
    have : ∃ u ∈ y, cmpR u.row t.row = 0 := by
      apply Classical.byContradiction
      intro hno
      have := tot_none (r := t.row) (x := y) fun u hu e => hno ⟨u, hu, e⟩
      omega
    obtain ⟨u, hu, e⟩ := this
    have hrow := lin_cmpR.eq _ _ e
    have h3 := tot_made hy hu
    rw [hrow, ← h2] at h3
    have : t = u := by
      obtain ⟨a, b⟩ := t; obtain ⟨a', b'⟩ := u
      simp only at hrow h3
      subst hrow; subst h3; rfl
    rw [this]; exact hu
  have nd : ∀ {x : List It}, Made x → x.Nodup := fun hx => hx.pw.imp fun {a b} hab e => by
    subst e; have := (cI_eq (a := a) (b := a)).2 rfl; omega
  have hperm : x.Perm y := (List.perm_ext_iff_of_nodup (nd hx) (nd hy)).2 fun t => ⟨key hx hy h t, key hy hx (fun r => (h r).symm) t⟩
  exact hperm.eq_of_pairwise (fun a b _ _ h1 h2 => by
    have := lin_cmpR.neg a.row b.row
    simp only [cI] at h1 h2; omega) hx.pw hy.pw
end Yt
namespace Yt
open Go Go.Vc Go.Proofs
set_option linter.unusedSimpArgs false
set_option linter.unusedVariables false
structure GI (y : List It) (off : Nat) (o : List It) : Prop where
  le : off ≤ y.length
  made : Made o
  low : ∀ t ∈ o, ∀ j (h : j < y.length), off ≤ j → cI t y[j] < 0
  cut : ∀ i j (h1 : i < y.length) (h2 : j < y.length), i < off → off ≤ j → cI y[i] y[j] < 0
  tot : ∀ r, tot r o = tot r (y.take off)
  src : ∀ t ∈ o, ∃ u ∈ y, u.row = t.row
theorem GI.start (y : List It) : GI y 0 [] := ⟨Nat.zero_le _, ⟨.nil, by simp⟩, by simp, by simp, fun r => by simp [Yt.tot], by simp⟩
structure Run (y : List It) (off e : Nat) : Prop where
  lt : off < e
  le : e ≤ y.length
  same : ∀ j (h : j < y.length) (h0 : off < y.length), off ≤ j → j < e → cI y[j] y[off] = 0
  next : ∀ (h : e < y.length) (h0 : off < y.length), cI y[e] y[off] ≠ 0
theorem SR.get {y : List It} (h : SR cI y 0 y.length) {i j : Nat} (hi : i < y.length) (hj : j < y.length) (hij : i < j) : cI y[i] y[j] ≤ 0 :=
  h i j (Nat.zero_le _) hij hj _ _ (List.getElem?_eq_getElem hi) (List.getElem?_eq_getElem hj)
theorem cI_neg (a b : It) : cI b a = - cI a b := lin_cmpR.neg _ _
theorem cI_row {a b c : It} (h : a.row = b.row) : cI a c = cI b c := by simp only [cI, h]
theorem cI_row' {a b c : It} (h : a.row = b.row) : cI c a = cI c b := by simp only [cI, h]
theorem take_split (y : List It) {off e : Nat} (h : off ≤ e) : y.take e = y.take off ++ (y.drop off).take (e - off) := by
  rw [← List.take_add, Nat.add_sub_cancel' h]
theorem GI.step {y o : List It} {off e : Nat} (hs : SR cI y 0 y.length) (g : GI y off o) (r : Run y off e) (h0 : off < y.length) (hok : okW (sumW ((y.drop off).take (e - off))) = true) :
    GI y e (if sumW ((y.drop off).take (e - off)) = 0 then o else o ++ [⟨y[off].row, sumW ((y.drop off).take (e - off))⟩]) := by
  have hrow : ∀ j (h : j < y.length), off ≤ j → j < e → y[j].row = y[off].row := fun j h a b => cI_eq.1 (r.same j h h0 a b)
  have hgt : ∀ j (h : j < y.length), e ≤ j → cI y[off] y[j] < 0 := by
    intro j h hj
    have he : e < y.length := by omega
    have h1 := SR.get hs h0 he r.lt
    have h2 := r.next he h0
    have h3 := cI_neg y[e] y[off]
    have h4 : cI y[off] y[e] < 0 := by omega
    by_cases e1 : j = e
    · subst e1; exact h4
    · have h5 := SR.get hs he h (by omega)
      by_cases e2 : cI y[e] y[j] = 0
      · rw [← cI_row' (cI_eq.1 e2)]; exact h4
      · exact lin_cmpR.trans _ _ _ h4 (by simp only [cI] at *; omega)
  have hcut : ∀ i j (h1 : i < y.length) (h2 : j < y.length), i < e → e ≤ j → cI y[i] y[j] < 0 := by
    intro i j h1 h2 hi hj
    by_cases e1 : i < off
    · exact g.cut i j h1 h2 e1 (by have := r.lt; omega)
    · rw [cI_row (hrow i h1 (by omega) hi)]; exact hgt j h2 hj
  have hlow : ∀ t ∈ o, ∀ j (h : j < y.length), e ≤ j → cI t y[j] < 0 := fun t ht j h hj => g.low t ht j h (by have := r.lt; omega)
  have hrun : ∀ t ∈ (y.drop off).take (e - off), t.row = y[off].row := by
    intro t ht
    obtain ⟨k, hk, rfl⟩ := List.mem_iff_getElem.1 ht
    simp only [List.length_take, List.length_drop] at hk
    simp only [List.getElem_take, List.getElem_drop]
    exact hrow _ _ (by omega) (by omega)
  have htot : ∀ q, Yt.tot q ((y.drop off).take (e - off)) = if cmpR y[off].row q = 0 then sumW ((y.drop off).take (e - off)) else 0 := by
    intro q
    split
    · rename_i hq
      exact tot_same fun t ht => by rw [hrun t ht]; exact hq
    · rename_i hq
      exact tot_none fun t ht => by rw [hrun t ht]; exact hq
  have hsplit := take_split y (Nat.le_of_lt r.lt)
  split
  · rename_i hz
    refine ⟨r.le, g.made, hlow, hcut, fun q => ?_, g.src⟩
    rw [hsplit, tot_append, g.tot q, htot q, hz]
    split <;> omega
  · rename_i hz
    refine ⟨r.le, ⟨?_, ?_⟩, ?_, hcut, fun q => ?_, ?_⟩
    · rw [List.pairwise_append]
      refine ⟨g.made.pw, List.pairwise_singleton _ _, fun t ht u hu => ?_⟩
      simp only [List.mem_singleton] at hu
      subst hu
      exact g.low t ht off h0 (Nat.le_refl _)
    · intro t ht
      rw [List.mem_append, List.mem_singleton] at ht
      rcases ht with ht | rfl
      · exact g.made.nz t ht
      · exact ⟨hz, hok⟩
    · intro t ht
      rw [List.mem_append, List.mem_singleton] at ht
      rcases ht with ht | rfl
      · exact hlow t ht
      · exact hgt
    · rw [tot_append, hsplit, tot_append, g.tot q, htot q]
      simp only [Yt.tot]; omega
    · intro t ht
      rw [List.mem_append, List.mem_singleton] at ht
      rcases ht with ht | rfl
      · exact g.src t ht
      · exact ⟨y[off], List.getElem_mem h0, rfl⟩
theorem GI.total {y o : List It} {off e : Nat} (hs : SR cI y 0 y.length) (g : GI y off o) (r : Run y off e) (h0 : off < y.length) : Yt.tot y[off].row y = sumW ((y.drop off).take (e - off)) := by
  have hsplit := take_split y (Nat.le_of_lt r.lt)
  have hy : y = y.take off ++ (y.drop off).take (e - off) ++ y.drop e := by rw [← hsplit, List.take_append_drop]
  have h1 : Yt.tot y[off].row (y.take off) = 0 := tot_none fun t ht => by
    obtain ⟨k, hk, rfl⟩ := List.mem_iff_getElem.1 ht
    simp only [List.length_take] at hk
    rw [List.getElem_take]
    have := g.cut k off (by omega) h0 (by omega) (Nat.le_refl _)
    simp only [cI] at this; omega
  have h2 : Yt.tot y[off].row ((y.drop off).take (e - off)) = sumW ((y.drop off).take (e - off)) := tot_same fun t ht => by
    obtain ⟨k, hk, rfl⟩ := List.mem_iff_getElem.1 ht
    simp only [List.length_take, List.length_drop] at hk
    rw [List.getElem_take, List.getElem_drop]
    exact r.same _ (by omega) h0 (by omega) (by omega)
  have h3 : Yt.tot y[off].row (y.drop e) = 0 := tot_none fun t ht => by
    obtain ⟨k, hk, rfl⟩ := List.mem_iff_getElem.1 ht
    simp only [List.length_drop] at hk
    rw [List.getElem_drop]
    have he : e < y.length := by omega
    have a1 := SR.get hs h0 he r.lt
    have a2 := r.next he h0
    have a3 := cI_neg y[e] y[off]
    intro e1
    by_cases e2 : k = 0
    · subst e2; exact a2 e1
    · have a4 := SR.get hs he (show e + k < y.length by omega) (by omega)
      have a5 : cI y[e] y[off] ≤ 0 := by rw [← cI_row' (cI_eq.1 e1)]; exact a4
      omega
  have : Yt.tot y[off].row y = Yt.tot y[off].row (y.take off ++ (y.drop off).take (e - off) ++ y.drop e) := by rw [← hy]
  rw [this, tot_append, tot_append, h1, h2, h3]; omega
end Yt
namespace Yt
open Go Go.Vc Go.Proofs
set_option maxRecDepth 10000
set_option maxHeartbeats 4000000
set_option linter.unusedSimpArgs false
set_option linter.unusedVariables false
def MakeR (z out : List It) (err : Int) : Prop :=
  ((z.any fun t => !okI t) = true ∧ out = [] ∧ err = 1) ∨
  ((z.any fun t => !okI t) = false ∧ out = [] ∧ err = 11 ∧ ∃ r, okW (tot r z) = false) ∨
  ((z.any fun t => !okI t) = false ∧ err = 0 ∧ Made out ∧ (∀ r, tot r out = tot r z) ∧ (∀ t ∈ out, okR t.row = 0 ∧ ∃ u ∈ z, u.row = t.row) ∧ out.length ≤ z.length)
theorem Es_snoc {st : St} {m : List (Nat × Option Nat)} {l : List (List AV)} {cs cs' : List AV} (hl : ∀ x ∈ l, ∀ a ∈ x, a.leaf = true) (h : wk.wks st m cs cs') : Es st m (l ++ [cs]) (l ++ [cs']) := by
  induction l with
  | nil => exact .cons h .nil
  | cons x r ih => exact .cons (wks_leaf (hl x (by simp))) (ih fun y hy => hl y (by simp [hy]))
structure TI (y : List It) (off i : Nat) (h l : Int) : Prop where
  le : off + i ≤ y.length
  same : ∀ j (hj : j < y.length) (h0 : off < y.length), off ≤ j → j < off + i → cI y[j] y[off] = 0
  sum : h * 268435456 + l = sumW ((y.drop off).take i)
  hb : -((i : Int) * 536870912) ≤ h ∧ h ≤ (i : Int) * 536870912
  lb : 0 ≤ l ∧ l ≤ (i : Int) * 268435456
theorem TI.start {y : List It} {off : Nat} (h : off ≤ y.length) : TI y off 0 0 0 :=
  ⟨h, fun j _ _ h1 h2 => by omega, by simp [sumW], by omega, by omega⟩
theorem okW_le {w : Int} (h : okW w = true) : -72057594037927936 ≤ w ∧ w ≤ 72057594037927936 := by
  simp [okW, inB] at h; omega
theorem TI.step {y : List It} {off i : Nat} {h l : Int} (t : TI y off i h l) (hi : off + i < y.length) (e : ∀ h0 : off < y.length, cI y[off + i] y[off] = 0) (hw : okW y[off + i].w = true) :
    TI y off (i + 1) (h + y[off + i].w / 268435456) (l + y[off + i].w % 268435456) := by
  have hw := okW_le hw
  obtain ⟨t1, t2, t3, t4, t5⟩ := t
  refine ⟨by omega, fun j hj h0 h1 h2 => ?_, ?_, by omega, by omega⟩
  · by_cases hji : j = off + i
    · subst hji; exact e h0
    · exact t2 j hj h0 h1 (by omega)
  · have hd : i < (y.drop off).length := by rw [List.length_drop]; omega
    rw [List.take_succ_eq_append_getElem hd, sumW_append, ← t3]
    simp only [sumW, List.getElem_drop]
    omega
theorem TI.run {y : List It} {off i : Nat} {h l : Int} (t : TI y off i h l) (h0 : off < y.length) (hn : ∀ hi : off + i < y.length, cI y[off + i] y[off] ≠ 0) : Run y off (off + i) := by
  refine ⟨?_, t.le, t.same, fun hi h0 => hn hi⟩
  apply Classical.byContradiction
  intro hlt
  have : i = 0 := by omega
  subst this
  exact hn h0 (cI_eq.2 rfl)
def to2 (h l : Int) : Ob := ⟨2, [[iA h, iA l]]⟩
theorem to2_leafy (h l : Int) : (to2 h l).leafy := by
  rw [to2, leafy_do]; simp [leafs2, leafs, iA, AV.leaf]
theorem s11 (z : List It) (hl : z.length ≤ 1048576) (hr : ∀ t ∈ z, t.row.length < 1073741824) :
    Spec1 Try.prog 76 [setA z] (fun r o => ∃ (out : List It) (err : Int), r = .tu [.rf 0 0 out.length, iA err] ∧ o = so out ∧ MakeR z out err) := by
  refine spec1_of_vc tabOk elems ord76 Try.func76 rfl (rl := [.tmp 2, .tmp 3]) rfl (by kernel_rfl) rfl ?_
  (simp -implicitDefEqProofs only [go_sem, setA]; repeat (refine GO ?_; simp -implicitDefEqProofs only [go_sem, setA]))
  refine .pure _ (s34 z (fun t ht => by have := hr t ht; omega) (by omega)) rfl fun r hr' _ => ?_
  subst hr'
  (simp -implicitDefEqProofs only [go_sem, bA]; repeat (refine GO ?_; simp -implicitDefEqProofs only [go_sem, bA]))
  refine VIF.split (fun h => ?_) (fun hbad => ?_)
  · (simp -implicitDefEqProofs only [go_sem]; repeat (refine GO ?_; simp -implicitDefEqProofs only [go_sem]))
    refine FINmk [(0, none)] [(2, .rf 0 0 0), (3, iA 1)] [(0, so [])] [0] rfl ?_ ?_
    · (simp -implicitDefEqProofs only [go_sem, iA]; repeat (refine GO ?_; simp -implicitDefEqProofs only [go_sem, iA]))
      simp [so]
    · exact ⟨so [], ⟨⟨[], 1, rfl, rfl, .inl ⟨h, rfl, rfl⟩⟩, rfl⟩, so_leafy [], rfl⟩
  · (simp -implicitDefEqProofs only [go_sem]; repeat (refine GO ?_; simp -implicitDefEqProofs only [go_sem]))
    refine .make 13 _ (s38 z (by omega)) rfl (by simp) rfl fun r o hro _ => ?_
    obtain ⟨rfl, rfl⟩ := hro
    (simp -implicitDefEqProofs only [go_sem]; repeat (refine GO ?_; simp -implicitDefEqProofs only [go_sem]))
    refine .obj 13 (so z) _ [.rf 0 0 z.length, .fn 121 []] (s39 121 cI cmp_cI (fun t => t.row.length < 4611686018427387904) (fun x y hx _ => s40 x y hx) z (fun t ht => by have := hr t ht; omega) (by omega)) rfl (so_leafy z) rfl rfl fun r o' hro _ _ => ?_
    obtain ⟨rfl, y, rfl, hw, hs⟩ := hro
    have hlen := hw.len
    have hry : ∀ t ∈ y, t.row.length < 1073741824 := fun t ht => hr t (hw.perm.mem_iff.1 ht)
    have hok : ∀ t ∈ y, okI t = true := fun t ht => by
      have h1 : ∀ u ∈ z, okI u = true := by simpa using hbad
      exact h1 t (hw.perm.mem_iff.1 ht)
    have hs : SR cI y 0 y.length := by rw [hlen]; exact hs
    rw [← hlen]
    (simp -implicitDefEqProofs only [go_sem]; repeat (refine GO ?_; simp -implicitDefEqProofs only [go_sem]))
    refine LOOP.mk (ι := { p : Nat × List It // GI y p.1 p.2 ∧ p.2.length ≤ p.1 }) (fun p => mkS [(4, .rf 1000 p.1.1 (y.length - p.1.1)), (5, .rf 1001 0 p.1.2.length)] [(1000, so y), (1001, so p.1.2)] [1000, 1001])
      (fun p => y.length - p.1.1) ⟨(0, []), .start y, Nat.le_refl _⟩ [(1000, some 13), (1001, none)] rfl rfl ?_ (fun p => ?_)
    · (simp -implicitDefEqProofs only [go_sem, so]; repeat (refine GO ?_; simp -implicitDefEqProofs only [go_sem, so]))
      exact ⟨id, .same (so y) _ _ (so_leafy y) rfl, rfl⟩
    · obtain ⟨⟨off, out⟩, g, hol⟩ := p
      have hle := g.le
      simp only at hle hol
      (simp -implicitDefEqProofs only [go_sem, so]; repeat (refine GO ?_; simp -implicitDefEqProofs only [go_sem, so]))
      refine VIF.split (fun h1 => ?_) (fun h1 => ?_)
      · have h0 : off < y.length := by simp at h1; omega
        (simp -implicitDefEqProofs only [go_sem]; repeat (refine GO ?_; simp -implicitDefEqProofs only [go_sem]))
        refine LOOP.join (ι := { q : Nat × Int × Int // TI y off q.1 q.2.1 q.2.2 ∧ Run y off (off + q.1) })
          (fun q => mkS [(4, .rf 1000 off (y.length - off)), (5, .rf 1001 0 out.length), (6, iA q.1.1), (7, .pt 1002 0 0)] [(1000, so y), (1001, so out), (1002, to2 q.1.2.1 q.1.2.2)] [1000, 1001, 1002]) ?_ (fun q => ?_)
        · refine LOOP.mk (ι := { q : Nat × Int × Int // TI y off q.1 q.2.1 q.2.2 })
            (fun q => mkS [(4, .rf 1000 off (y.length - off)), (5, .rf 1001 0 out.length), (6, iA q.1.1), (7, .pt 1002 0 0)] [(1000, so y), (1001, so out), (1002, to2 q.1.2.1 q.1.2.2)] [1000, 1001, 1002])
            (fun q => y.length - off - q.1.1) ⟨(0, 0, 0), .start hle⟩ [(1000, some 1000), (1001, some 1001), (1002, some 7)] rfl rfl ?_ (fun q => ?_)
          · (simp -implicitDefEqProofs only [go_sem, iA, to2, so]; repeat (refine GO ?_; simp -implicitDefEqProofs only [go_sem, iA, to2, so]))
            exact ⟨id, rfl, .same (so y) _ _ (so_leafy y) rfl, .same (so out) _ _ (so_leafy out) rfl, .same (to2 0 0) _ _ (to2_leafy 0 0) rfl⟩
          · obtain ⟨⟨i, h, l⟩, ti⟩ := q
            simp only at ti
            have til := ti.le
            (simp -implicitDefEqProofs only [go_sem, iA, to2, so]; repeat (refine GO ?_; simp -implicitDefEqProofs only [go_sem, iA, to2, so]))
            refine VIF.split (fun h2 => ?_) (fun h2 => ?_)
            · have hi : off + i < y.length := by simp at h2; omega
              (simp -implicitDefEqProofs only [go_sem]; repeat (refine GO ?_; simp -implicitDefEqProofs only [go_sem]))
              refine ⟨by omega, EL.map hi ?_⟩
              (simp -implicitDefEqProofs only [go_sem, It.c]; repeat (refine GO ?_; simp -implicitDefEqProofs only [go_sem, It.c]))
              refine ⟨by omega, EL.map (show off + 0 < y.length by omega) ?_⟩
              (simp -implicitDefEqProofs only [go_sem, It.c]; repeat (refine GO ?_; simp -implicitDefEqProofs only [go_sem, It.c]))
              refine .pure _ (s13 y[off + i].row y[off + Int.toNat 0].row (by have := hry y[off + i] (List.getElem_mem hi); omega)) rfl fun r hr _ => ?_
              subst hr
              (simp -implicitDefEqProofs only [go_sem]; repeat (refine GO ?_; simp -implicitDefEqProofs only [go_sem]))
              refine VIF.split (fun h3 => ?_) (fun h3 => ?_)
              · have h3 : cI y[off + i] y[off] = 0 := by simpa [cI] using h3
                (simp -implicitDefEqProofs only [go_sem]; repeat (refine GO ?_; simp -implicitDefEqProofs only [go_sem]))
                refine ⟨by omega, EL.map hi ?_⟩
                (simp -implicitDefEqProofs only [go_sem, It.c]; repeat (refine GO ?_; simp -implicitDefEqProofs only [go_sem, It.c]))
                have hbb : i ≤ 1048576 := by omega
                have hb1 := ti.hb
                have hb2 := ti.lb
                have hoi := hok y[off + i] (List.getElem_mem hi)
                have hwi : okW y[off + i].w = true := by
                  simp only [okI, Bool.and_eq_true] at hoi; exact hoi.2
                have hwl := okW_le hwi
                refine .obj 1002 (to2 h l) _ [.pt 0 0 0, iA y[off + i].w] (s41 h l y[off + i].w (by omega) (by omega) (by omega)) rfl (to2_leafy h l) rfl rfl fun r o' hr _ _ => ?_
                obtain ⟨rfl, rfl⟩ := hr
                have w3 := wrap_add1 (show i < 4611686018427387904 by omega)
                (simp -implicitDefEqProofs only [go_sem, w3]; repeat (refine GO ?_; simp -implicitDefEqProofs only [go_sem, w3]))
                refine BACK.mk ⟨(i + 1, h + y[off + i].w / 268435456, l + y[off + i].w % 268435456), ti.step hi (fun _ => h3) hwi⟩ [(1000, some 1000), (1001, some 1001), (1002, some 1002)] rfl rfl (by show y.length - off - (i + 1) < y.length - off - i; omega) ?_
                (simp -implicitDefEqProofs only [go_sem, iA, to2, so, w3]; repeat (refine GO ?_; simp -implicitDefEqProofs only [go_sem, iA, to2, so, w3]))
                exact ⟨id, .same (so y) _ _ (so_leafy y) rfl, .same (so out) _ _ (so_leafy out) rfl, .same (to2 (h + y[off + i].w / 268435456) (l + y[off + i].w % 268435456)) _ _ (to2_leafy (h + y[off + i].w / 268435456) (l + y[off + i].w % 268435456)) rfl⟩
              · have h3 : cI y[off + i] y[off] ≠ 0 := by simpa [cI] using h3
                (simp -implicitDefEqProofs only [go_sem]; repeat (refine GO ?_; simp -implicitDefEqProofs only [go_sem]))
                refine JB.mk ⟨(i, h, l), ti, ti.run h0 (fun hi => h3)⟩ [(1000, some 1000), (1001, some 1001), (1002, some 1002)] rfl rfl ?_
                (simp -implicitDefEqProofs only [go_sem, iA, to2, so]; repeat (refine GO ?_; simp -implicitDefEqProofs only [go_sem, iA, to2, so]))
                exact ⟨id, .same (so y) _ _ (so_leafy y) rfl, .same (so out) _ _ (so_leafy out) rfl, .same (to2 h l) _ _ (to2_leafy h l) rfl⟩
            · have hi : off + i = y.length := by simp at h2; omega
              (simp -implicitDefEqProofs only [go_sem]; repeat (refine GO ?_; simp -implicitDefEqProofs only [go_sem]))
              refine JB.mk ⟨(i, h, l), ti, ti.run h0 (fun hi => by omega)⟩ [(1000, some 1000), (1001, some 1001), (1002, some 1002)] rfl rfl ?_
              (simp -implicitDefEqProofs only [go_sem, iA, to2, so]; repeat (refine GO ?_; simp -implicitDefEqProofs only [go_sem, iA, to2, so]))
              exact ⟨id, .same (so y) _ _ (so_leafy y) rfl, .same (so out) _ _ (so_leafy out) rfl, .same (to2 h l) _ _ (to2_leafy h l) rfl⟩
        · obtain ⟨⟨i, h, l⟩, ti, ru⟩ := q
          simp only at ti ru
          (simp -implicitDefEqProofs only [go_sem, iA, to2, so]; repeat (refine GO ?_; simp -implicitDefEqProofs only [go_sem, iA, to2, so]))
          have hbb : i ≤ 1048576 := by have := ti.le; omega
          have hb1 := ti.hb
          have hb2 := ti.lb
          refine .pure _ (s42 h l (by omega) (by omega)) rfl fun r hr _ => ?_
          obtain ⟨v, rfl, hv⟩ := hr
          (simp -implicitDefEqProofs only [go_sem, iA, bA]; repeat (refine GO ?_; simp -implicitDefEqProofs only [go_sem, iA, bA]))
          have hoff : off + i - off = i := by omega
          have htot := g.total hs ru h0
          have hsum := ti.sum
          rw [hoff] at htot
          refine VIF.split (fun h3 => ?_) (fun h3 => ?_)
          · have h3 : okW (h * 268435456 + l) = false := by simpa using h3
            (simp -implicitDefEqProofs only [go_sem]; repeat (refine GO ?_; simp -implicitDefEqProofs only [go_sem]))
            refine FINmk [(0, none)] [(2, .rf 0 0 0), (3, iA 11)] [(0, so [])] [0] rfl ?_ ?_
            · (simp -implicitDefEqProofs only [go_sem, iA]; repeat (refine GO ?_; simp -implicitDefEqProofs only [go_sem, iA]))
              simp [so]
            · refine ⟨so [], ⟨⟨[], 11, rfl, rfl, .inr (.inl ⟨hbad, rfl, rfl, y[off].row, ?_⟩)⟩, rfl⟩, so_leafy [], rfl⟩
              rw [← tot_perm hw.perm, htot, ← hsum]; exact h3
          · have h3 : okW (h * 268435456 + l) = true := by simpa using h3
            have hv := hv h3
            have gs := g.step hs ru h0 (by rw [hoff, ← hsum]; exact h3)
            rw [hoff, ← hsum, ← hv] at gs
            have hle2 := ru.le
            have hlt2 := ru.lt
            (simp -implicitDefEqProofs only [go_sem]; repeat (refine GO ?_; simp -implicitDefEqProofs only [go_sem]))
            refine VIF.split (fun h4 => ?_) (fun h4 => ?_)
            · have h4 : v ≠ 0 := by simpa using h4
              rw [if_neg h4] at gs
              (simp -implicitDefEqProofs only [go_sem]; repeat (refine GO ?_; simp -implicitDefEqProofs only [go_sem]))
              refine ⟨by omega, EL.map (show off + 0 < y.length by omega) ?_⟩
              (simp -implicitDefEqProofs only [go_sem, It.c]; repeat (refine GO ?_; simp -implicitDefEqProofs only [go_sem, It.c]))
              refine .make 61 _ (s43 y[off + Int.toNat 0].row (by have := hry y[off] (List.getElem_mem h0); simp; omega)) rfl (by simp) rfl fun r o hro _ => ?_
              obtain ⟨rfl, rfl⟩ := hro
              (simp -implicitDefEqProofs only [go_sem]; repeat (refine GO ?_; simp -implicitDefEqProofs only [go_sem]))
              refine ⟨by omega, ?_⟩
              (simp -implicitDefEqProofs only [go_sem]; repeat (refine GO ?_; simp -implicitDefEqProofs only [go_sem]))
              refine ⟨by omega, ?_⟩
              refine BACK.mk ⟨(off + i, out ++ [⟨y[off].row, v⟩]), gs, by simp; omega⟩ [(1000, some 1000), (1001, some 65)] rfl rfl (by show y.length - (off + i) < y.length - off; omega) ?_
              (simp -implicitDefEqProofs only [go_sem, iA, so]; repeat (refine GO ?_; simp -implicitDefEqProofs only [go_sem, iA, so]))
              refine ⟨id, ⟨by omega, by simp⟩, .same (so y) _ _ (so_leafy y) rfl, ?_⟩
              rw [List.map_append, show List.take out.length (List.map It.c out) = List.map It.c out from List.take_of_length_le (by simp)]
              refine Es_snoc (fun x hx a ha => ?_) ?_
              · exact so_leafy out x hx a ha
              · (simp -implicitDefEqProofs only [go_sem, It.c, rowA, iA]; repeat (refine GO ?_; simp -implicitDefEqProofs only [go_sem, It.c, rowA, iA]))
                exact ⟨by decide, _, rfl, ro3_leafy _, rfl, List.take_of_length_le (by simp [ro3])⟩
            · have h4 : v = 0 := by simpa using h4
              rw [if_pos h4] at gs
              (simp -implicitDefEqProofs only [go_sem]; repeat (refine GO ?_; simp -implicitDefEqProofs only [go_sem]))
              refine ⟨by omega, ?_⟩
              refine BACK.mk ⟨(off + i, out), gs, by show out.length ≤ off + i; omega⟩ [(1000, some 1000), (1001, some 1001)] rfl rfl (by show y.length - (off + i) < y.length - off; omega) ?_
              (simp -implicitDefEqProofs only [go_sem, iA, so]; repeat (refine GO ?_; simp -implicitDefEqProofs only [go_sem, iA, so]))
              exact ⟨id, by omega, .same (so y) _ _ (so_leafy y) rfl, .same (so out) _ _ (so_leafy out) rfl⟩
      · have h0 : off = y.length := by simp at h1; omega
        (simp -implicitDefEqProofs only [go_sem]; repeat (refine GO ?_; simp -implicitDefEqProofs only [go_sem]))
        subst h0
        have hgt := g.tot
        rw [List.take_length] at hgt
        refine FINmk [(0, some 1001)] [(2, .rf 0 0 out.length), (3, iA 0)] [(0, so out)] [0] rfl ?_ ?_
        · (simp -implicitDefEqProofs only [go_sem, iA, so]; repeat (refine GO ?_; simp -implicitDefEqProofs only [go_sem, iA, so]))
          exact .same (so out) _ _ (so_leafy out) rfl
        · refine ⟨so out, ⟨⟨out, 0, rfl, rfl, .inr (.inr ⟨hbad, rfl, g.made, fun r => (hgt r).trans (tot_perm hw.perm), fun t ht => ?_, by omega⟩)⟩, rfl⟩, so_leafy out, rfl⟩
          obtain ⟨u, hu, e⟩ := g.src t ht
          have := hok u hu
          refine ⟨?_, u, hw.perm.mem_iff.1 hu, e⟩
          rw [← e]
          simp [okI] at this
          exact this.1
end Yt
namespace Yt
open Go Go.Vc Go.Proofs
set_option maxRecDepth 10000
set_option maxHeartbeats 4000000
set_option linter.unusedSimpArgs false
set_option linter.unusedVariables false
structure Goo (z : List It) (i : Nat) (h : i < z.length) : Prop where
  ok : okI z[i] = true
  nz : z[i].w ≠ 0
  up : ∀ h0 : 0 < i, cI z[i - 1] z[i] < 0
def Good (z : List It) : Prop := ∀ i (h : i < z.length), Goo z i h
theorem s16 (z : List It) (hl : z.length < 4611686018427387904) (hr : ∀ t ∈ z, t.row.length < 4611686018427387904) :
    Spec0 Try.prog 62 [setA z] (fun r => ∃ e : Int, r = iA e ∧ (e = 0 ∨ e = 1) ∧ (e = 0 ↔ Good z)) := by
  refine spec0_of_vc tabOk elems ord62 Try.func62 rfl (rl := [.tmp 2]) rfl (by kernel_rfl) rfl ?_
  (simp -implicitDefEqProofs only [go_sem, setA]; repeat (refine GO ?_; simp -implicitDefEqProofs only [go_sem, setA]))
  refine LOOP.mk (ι := { i : Nat // i ≤ z.length ∧ ∀ j (h : j < z.length), j < i → Goo z j h }) (fun p => mkS [(0, .im 2 (z.map It.c)), (5, .im 2 (z.map It.c)), (6, iA z.length), (7, iA p.1)] [] [])
    (fun p => z.length - p.1) ⟨0, Nat.zero_le _, fun j _ h => absurd h (Nat.not_lt_zero _)⟩ [] rfl rfl ?_ (fun p => ?_)
  · (simp -implicitDefEqProofs only [go_sem, iA]; repeat (refine GO ?_; simp -implicitDefEqProofs only [go_sem, iA]))
    exact ⟨id, rfl⟩
  · obtain ⟨i, hi, hg⟩ := p
    (simp -implicitDefEqProofs only [go_sem, iA]; repeat (refine GO ?_; simp -implicitDefEqProofs only [go_sem, iA]))
    refine VIF.split (fun h => ?_) (fun h => ?_)
    · have h : i < z.length := by simpa using h
      (simp -implicitDefEqProofs only [go_sem]; repeat (refine GO ?_; simp -implicitDefEqProofs only [go_sem]))
      refine EL.map h ?_
      (simp -implicitDefEqProofs only [go_sem, It.c]; repeat (refine GO ?_; simp -implicitDefEqProofs only [go_sem, It.c]))
      have bad : ¬ Goo z i h → ∃ e : Int, AV.pr (Value.int IntKind.i64 1) = iA e ∧ (e = 0 ∨ e = 1) ∧ (e = 0 ↔ Good z) := fun hn =>
        ⟨1, rfl, .inr rfl, fun h => absurd h (by decide), fun g => absurd (g i h) hn⟩
      refine .pure _ (s36 z[i].row (hr _ (List.getElem_mem h))) rfl fun r hr' _ => ?_
      subst hr'
      (simp -implicitDefEqProofs only [go_sem, iA]; repeat (refine GO ?_; simp -implicitDefEqProofs only [go_sem, iA]))
      refine VIF.split (fun h1 => ?_) (fun h1 => ?_)
      · have h1 : okR z[i].row ≠ 0 := by simpa using h1
        (simp -implicitDefEqProofs only [go_sem]; repeat (refine GO ?_; simp -implicitDefEqProofs only [go_sem]))
        exact bad fun g => h1 (by have := g.ok; simp [okI] at this; exact this.1)
      · have h1 : okR z[i].row = 0 := by simpa using h1
        (simp -implicitDefEqProofs only [go_sem]; repeat (refine GO ?_; simp -implicitDefEqProofs only [go_sem]))
        refine VIF.split (fun h2 => ?_) (fun h2 => ?_)
        · have h2 : z[i].w = 0 := by simpa using h2
          (simp -implicitDefEqProofs only [go_sem]; repeat (refine GO ?_; simp -implicitDefEqProofs only [go_sem]))
          exact bad fun g => g.nz h2
        · have h2 : z[i].w ≠ 0 := by simpa using h2
          (simp -implicitDefEqProofs only [go_sem]; repeat (refine GO ?_; simp -implicitDefEqProofs only [go_sem]))
          refine .pure _ (s37 z[i].w) rfl fun r hr' _ => ?_
          subst hr'
          (simp -implicitDefEqProofs only [go_sem, bA]; repeat (refine GO ?_; simp -implicitDefEqProofs only [go_sem, bA]))
          refine VIF.split (fun h3 => ?_) (fun h3 => ?_)
          · have h3 : okW z[i].w = false := by simpa using h3
            (simp -implicitDefEqProofs only [go_sem]; repeat (refine GO ?_; simp -implicitDefEqProofs only [go_sem]))
            exact bad fun g => by have := g.ok; simp [okI, h3] at this
          · have h3 : okW z[i].w = true := by simpa using h3
            have hok : okI z[i] = true := by simp [okI, h1, h3]
            (simp -implicitDefEqProofs only [go_sem]; repeat (refine GO ?_; simp -implicitDefEqProofs only [go_sem]))
            refine VIF.split (fun h4 => ?_) (fun h4 => ?_)
            · have h4 : 0 < i := by simp at h4; omega
              have w1 := wrap_sub1 (show 1 ≤ i from h4) (by omega)
              (simp -implicitDefEqProofs only [go_sem, w1]; repeat (refine GO ?_; simp -implicitDefEqProofs only [go_sem, w1]))
              refine EL.map (show i - 1 < z.length by omega) ?_
              (simp -implicitDefEqProofs only [go_sem, It.c]; repeat (refine GO ?_; simp -implicitDefEqProofs only [go_sem, It.c]))
              refine .pure _ (s13 z[i - 1].row z[i].row (hr _ (List.getElem_mem _))) rfl fun r hr' _ => ?_
              subst hr'
              (simp -implicitDefEqProofs only [go_sem]; repeat (refine GO ?_; simp -implicitDefEqProofs only [go_sem]))
              refine VIF.split (fun h5 => ?_) (fun h5 => ?_)
              · have h5 : 0 ≤ cI z[i - 1] z[i] := by simpa [cI] using h5
                (simp -implicitDefEqProofs only [go_sem]; repeat (refine GO ?_; simp -implicitDefEqProofs only [go_sem]))
                exact bad fun g => by have := g.up h4; omega
              · have h5 : cI z[i - 1] z[i] < 0 := by simpa [cI] using h5
                have w3 := wrap_add1 (show i < 4611686018427387904 by omega)
                (simp -implicitDefEqProofs only [go_sem, w3]; repeat (refine GO ?_; simp -implicitDefEqProofs only [go_sem, w3]))
                refine BACK.mk ⟨i + 1, by omega, fun j hj hji => ?_⟩ [] rfl rfl (by show z.length - (i + 1) < z.length - i; omega) ?_
                · by_cases e : j = i
                  · subst e; exact ⟨hok, h2, fun _ => h5⟩
                  · exact hg j hj (by omega)
                · (simp -implicitDefEqProofs only [go_sem, iA, w3]; repeat (refine GO ?_; simp -implicitDefEqProofs only [go_sem, iA, w3]))
                  exact id
            · have h4 : i = 0 := by simp at h4; omega
              have w3 := wrap_add1 (show i < 4611686018427387904 by omega)
              (simp -implicitDefEqProofs only [go_sem, w3]; repeat (refine GO ?_; simp -implicitDefEqProofs only [go_sem, w3]))
              refine BACK.mk ⟨i + 1, by omega, fun j hj hji => ?_⟩ [] rfl rfl (by show z.length - (i + 1) < z.length - i; omega) ?_
              · have e : j = i := by omega
                subst e; exact ⟨hok, h2, fun h0 => absurd h0 (by omega)⟩
              · (simp -implicitDefEqProofs only [go_sem, iA, w3]; repeat (refine GO ?_; simp -implicitDefEqProofs only [go_sem, iA, w3]))
                exact id
    · have h : i = z.length := by simp at h; omega
      (simp -implicitDefEqProofs only [go_sem]; repeat (refine GO ?_; simp -implicitDefEqProofs only [go_sem]))
      exact ⟨0, rfl, .inl rfl, fun _ j hj => hg j hj (by omega), fun _ => rfl⟩
end Yt
namespace Yt
open Go Go.Vc Go.Proofs
set_option maxRecDepth 10000
set_option maxHeartbeats 4000000
set_option linter.unusedSimpArgs false
set_option linter.unusedVariables false
theorem not_heavyR {r : List V} (h : heavyR r = false) : r.length ≤ 40 := by
  simp [heavyR] at h; omega
theorem not_heavyS {z : List It} (h : heavyS z = false) : z.length ≤ 300 ∧ ∀ t ∈ z, t.row.length ≤ 40 := by
  simp only [heavyS, Bool.or_eq_false_iff, List.any_eq_false, decide_eq_false_iff_not] at h
  exact ⟨by omega, fun t ht => not_heavyR (by have := h.2 t ht; simpa [heavyI] using this)⟩
theorem tot_there {o : List It} (h : Made o) (r : List V) : tot r o ≠ 0 ↔ ∃ t ∈ o, t.row = r := by
  constructor
  · intro hn
    apply Classical.byContradiction
    intro hno
    exact hn (tot_none fun t ht e => hno ⟨t, ht, lin_cmpR.eq _ _ e⟩)
  · rintro ⟨t, ht, rfl⟩
    rw [tot_made h ht]
    exact (h.nz t ht).1
theorem good_made {z : List It} : Good z ↔ Made z ∧ ∀ t ∈ z, okR t.row = 0 := by
  constructor
  · intro h
    refine ⟨⟨?_, ?_⟩, ?_⟩
    · rw [List.pairwise_iff_getElem]
      intro i j hi hj hij
      induction j with
      | zero => omega
      | succ j ih =>
        have h1 := (h (j + 1) hj).up (by omega)
        simp only [Nat.add_sub_cancel] at h1
        by_cases e : i = j
        · subst e; exact h1
        · exact lin_cmpR.trans _ _ _ (ih (by omega) (by omega)) h1
    · intro t ht
      obtain ⟨i, hi, rfl⟩ := List.mem_iff_getElem.1 ht
      have := (h i hi).ok
      simp only [okI, Bool.and_eq_true] at this
      exact ⟨(h i hi).nz, this.2⟩
    · intro t ht
      obtain ⟨i, hi, rfl⟩ := List.mem_iff_getElem.1 ht
      have := (h i hi).ok
      simp [okI] at this
      exact this.1
  · rintro ⟨hm, ho⟩ i hi
    have h1 := hm.nz _ (List.getElem_mem hi)
    refine ⟨by simp [okI, ho _ (List.getElem_mem hi), h1.2], h1.1, fun h0 => ?_⟩
    exact List.pairwise_iff_getElem.1 hm.pw (i - 1) i (by omega) hi (by omega)
end Yt
namespace Yt
open Go Go.Vc Go.Proofs
set_option maxRecDepth 10000
set_option maxHeartbeats 4000000
set_option linter.unusedSimpArgs false
set_option linter.unusedVariables false
theorem zeros_leafy (n : Nat) : (Ob.mk 2 (List.replicate n [.nl, iA 0])).leafy := by
  intro x hx a ha
  rw [(List.mem_replicate.1 hx).2] at ha
  simp only [List.mem_cons, List.not_mem_nil, or_false] at ha
  rcases ha with rfl | rfl <;> rfl
theorem s65 (n : Nat) (hn : n ≤ 1073741824) : Spec1 Try.prog 127 [.nl, iA n] (fun r o => r = .rf 0 0 0 ∧ o.sz = 2) := by
  refine spec1_of_vc tabOk elems ord127 Try.func127 rfl (rl := [.tmp 4]) rfl (by kernel_rfl) rfl ?_
  (simp -implicitDefEqProofs only [go_sem, iA]; repeat (refine GO ?_; simp -implicitDefEqProofs only [go_sem, iA]))
  refine VIF.split (fun h => by simp at h; omega) (fun _ => ?_)
  have w0 : IntKind.i64.wrap (0 - 0) = 0 := by rw [wrap_i64] <;> omega
  have w1 : IntKind.i64.wrap ((n : Int) - 0) = n := by rw [wrap_i64] <;> omega
  (simp -implicitDefEqProofs only [go_sem, w0, w1]; repeat (refine GO ?_; simp -implicitDefEqProofs only [go_sem, w0, w1]))
  refine VIF.split (fun h => ?_) (fun h => ?_)
  · have h : 0 < n := by simpa using h
    (simp -implicitDefEqProofs only [go_sem]; repeat (refine GO ?_; simp -implicitDefEqProofs only [go_sem]))
    refine ⟨by decide, ⟨_, rfl⟩, ⟨by omega, by omega⟩, by decide, ?_⟩
    (simp -implicitDefEqProofs only [go_sem]; repeat (refine GO ?_; simp -implicitDefEqProofs only [go_sem]))
    refine FINmk [(0, some 22)] [(4, .rf 0 0 0)] [(0, ⟨2, List.replicate n [.nl, iA 0]⟩)] [0] rfl ?_ ?_
    · (simp -implicitDefEqProofs only [go_sem, iA]; repeat (refine GO ?_; simp -implicitDefEqProofs only [go_sem, iA]))
      exact ⟨⟨rfl, rfl⟩, .same ⟨2, List.replicate n [.nl, iA 0]⟩ _ _ (zeros_leafy n) (by simp [iA])⟩
    · exact ⟨_, ⟨⟨rfl, rfl⟩, rfl⟩, zeros_leafy n, rfl⟩
  · (simp -implicitDefEqProofs only [go_sem]; repeat (refine GO ?_; simp -implicitDefEqProofs only [go_sem]))
    refine FINmk [(0, none)] [(4, .rf 0 0 0)] [(0, so [])] [0] rfl ?_ ?_
    · (simp -implicitDefEqProofs only [go_sem]; repeat (refine GO ?_; simp -implicitDefEqProofs only [go_sem]))
      simp [so]
    · exact ⟨so [], ⟨⟨rfl, rfl⟩, rfl⟩, so_leafy [], rfl⟩
def cat : List (List It) → List It
  | [] => []
  | z :: r => z ++ cat r
theorem s18 (a b : List It) (ha : a.length < 4611686018427387904) (hb : b.length < 4611686018427387904) (hr : ∀ t ∈ a, t.row.length < 4611686018427387904) :
    Spec0 Try.prog 28 [setA a, setA b] (fun r => ∃ e : Bool, r = bA e ∧ (e = true ↔ a = b)) := by
  refine spec0_of_vc tabOk elems ord28 Try.func28 rfl (rl := [.tmp 4]) rfl (by kernel_rfl) rfl ?_
  (simp -implicitDefEqProofs only [go_sem, setA]; repeat (refine GO ?_; simp -implicitDefEqProofs only [go_sem, setA]))
  refine VIF.split (fun h => ?_) (fun h => ?_)
  · have h : a.length ≠ b.length := by simp at h; omega
    (simp -implicitDefEqProofs only [go_sem]; repeat (refine GO ?_; simp -implicitDefEqProofs only [go_sem]))
    exact ⟨false, rfl, by simp; intro e; exact h (by rw [e])⟩
  · have h : a.length = b.length := by simp at h; omega
    (simp -implicitDefEqProofs only [go_sem]; repeat (refine GO ?_; simp -implicitDefEqProofs only [go_sem]))
    refine LOOP.mk (ι := { i : Nat // i ≤ a.length ∧ ∀ j (h1 : j < a.length) (h2 : j < b.length), j < i → a[j] = b[j] }) (fun p => mkS [(0, setA a), (1, setA b), (5, iA p.1)] [] [])
      (fun p => a.length - p.1) ⟨0, Nat.zero_le _, fun j _ _ h => absurd h (Nat.not_lt_zero _)⟩ [] rfl rfl ?_ (fun p => ?_)
    · (simp -implicitDefEqProofs only [go_sem, setA, iA]; repeat (refine GO ?_; simp -implicitDefEqProofs only [go_sem, setA, iA]))
      exact ⟨id, rfl⟩
    · obtain ⟨i, hi, hg⟩ := p
      (simp -implicitDefEqProofs only [go_sem, setA, iA]; repeat (refine GO ?_; simp -implicitDefEqProofs only [go_sem, setA, iA]))
      refine VIF.split (fun h3 => ?_) (fun h3 => ?_)
      · have h3 : i < a.length := by simpa using h3
        have h4 : i < b.length := by omega
        have w1 := wrap_add1 (show i < 4611686018427387904 by omega)
        have bad : a[i] ≠ b[i] → ∃ e : Bool, AV.pr (Value.bool false) = bA e ∧ (e = true ↔ a = b) := fun hne => by
          refine ⟨false, rfl, ?_⟩
          simp only [Bool.false_eq_true, false_iff]
          intro e; subst e; exact hne rfl
        (simp -implicitDefEqProofs only [go_sem]; repeat (refine GO ?_; simp -implicitDefEqProofs only [go_sem]))
        refine EL.map h3 ?_
        (simp -implicitDefEqProofs only [go_sem, It.c]; repeat (refine GO ?_; simp -implicitDefEqProofs only [go_sem, It.c]))
        refine EL.map h4 ?_
        (simp -implicitDefEqProofs only [go_sem, It.c, iA]; repeat (refine GO ?_; simp -implicitDefEqProofs only [go_sem, It.c, iA]))
        refine VIF.split (fun h5 => ?_) (fun h5 => ?_)
        · have h5 : a[i].w ≠ b[i].w := by simpa using h5
          (simp -implicitDefEqProofs only [go_sem]; repeat (refine GO ?_; simp -implicitDefEqProofs only [go_sem]))
          exact bad fun e => h5 (by rw [e])
        · have h5 : a[i].w = b[i].w := by simpa using h5
          (simp -implicitDefEqProofs only [go_sem]; repeat (refine GO ?_; simp -implicitDefEqProofs only [go_sem]))
          refine EL.map h3 ?_
          (simp -implicitDefEqProofs only [go_sem, It.c]; repeat (refine GO ?_; simp -implicitDefEqProofs only [go_sem, It.c]))
          refine EL.map h4 ?_
          (simp -implicitDefEqProofs only [go_sem, It.c]; repeat (refine GO ?_; simp -implicitDefEqProofs only [go_sem, It.c]))
          refine .pure _ (s14 a[i].row b[i].row (hr _ (List.getElem_mem h3))) rfl fun q hq _ => ?_
          obtain ⟨e, rfl, he⟩ := hq
          (simp -implicitDefEqProofs only [go_sem, bA]; repeat (refine GO ?_; simp -implicitDefEqProofs only [go_sem, bA]))
          refine VIF.split (fun h6 => ?_) (fun h6 => ?_)
          · have h6 : e = false := by simpa using h6
            (simp -implicitDefEqProofs only [go_sem]; repeat (refine GO ?_; simp -implicitDefEqProofs only [go_sem]))
            refine bad fun e2 => ?_
            rw [e2] at he
            rw [h6] at he
            simp at he
          · have h6 : e = true := by simpa using h6
            (simp -implicitDefEqProofs only [go_sem, w1]; repeat (refine GO ?_; simp -implicitDefEqProofs only [go_sem, w1]))
            refine BACK.mk ⟨i + 1, by omega, fun j g1 g2 hj => ?_⟩ [] rfl rfl (by show a.length - (i + 1) < a.length - i; omega) ?_
            · by_cases e2 : j = i
              · subst e2
                have h7 := he.1 h6
                show a[j] = b[j]
                generalize a[j] = x at h5 h7
                generalize b[j] = y at h5 h7
                obtain ⟨r1, w1⟩ := x; obtain ⟨r2, w2⟩ := y
                simp only at h5 h7
                subst h5; subst h7; rfl
              · exact hg j g1 g2 (by omega)
            · (simp -implicitDefEqProofs only [go_sem, setA, iA, w1]; repeat (refine GO ?_; simp -implicitDefEqProofs only [go_sem, setA, iA, w1]))
              exact id
      · have h3 : i = a.length := by simp at h3; omega
        (simp -implicitDefEqProofs only [go_sem]; repeat (refine GO ?_; simp -implicitDefEqProofs only [go_sem]))
        refine ⟨true, rfl, fun _ => ?_, fun _ => rfl⟩
        exact List.ext_getElem h fun j h1 h2 => hg j h1 h2 (by omega)
theorem cat_append (x y : List (List It)) : cat (x ++ y) = cat x ++ cat y := by
  induction x with
  | nil => rfl
  | cons z x ih => simp only [List.cons_append, cat, ih, List.append_assoc]
theorem cat_take {zs : List (List It)} {i : Nat} (h : i < zs.length) : (cat (zs.take (i + 1))).length = (cat (zs.take i)).length + zs[i].length := by
  rw [List.take_succ_eq_append_getElem h, cat_append]; simp [cat]
theorem cat_le (zs : List (List It)) (i : Nat) : (cat (zs.take i)).length ≤ (cat zs).length := by
  have : cat zs = cat (zs.take i) ++ cat (zs.drop i) := by rw [← cat_append, List.take_append_drop]
  rw [this]; simp
theorem s51 (zs : List (List It)) (hl : zs.length ≤ 1073741824) (hc : (cat zs).length ≤ 1048576) :
    Spec1 Try.prog 94 [setsA zs] (fun r o => r = .rf 0 0 (cat zs).length ∧ o.sz = 2 ∧ o.es.take (cat zs).length = (cat zs).map It.c) := by
  refine spec1_of_vc tabOk elems ord94 Try.func94 rfl (rl := [.tmp 2]) rfl (by kernel_rfl) rfl ?_
  (simp -implicitDefEqProofs only [go_sem, setsA]; repeat (refine GO ?_; simp -implicitDefEqProofs only [go_sem, setsA]))
  refine LOOP.mk (ι := { i : Nat // i ≤ zs.length }) (fun p => mkS [(0, setsA zs), (3, iA (cat (zs.take p.1)).length), (9, setsA zs), (10, iA zs.length), (11, iA p.1)] [] [])
    (fun p => zs.length - p.1) ⟨0, Nat.zero_le _⟩ [] rfl rfl ?_ (fun p => ?_)
  · (simp -implicitDefEqProofs only [go_sem, setsA, iA]; repeat (refine GO ?_; simp -implicitDefEqProofs only [go_sem, setsA, iA]))
    exact ⟨id, rfl, rfl⟩
  · obtain ⟨i, hi⟩ := p
    (simp -implicitDefEqProofs only [go_sem, setsA, iA]; repeat (refine GO ?_; simp -implicitDefEqProofs only [go_sem, setsA, iA]))
    refine VIF.split (fun h => ?_) (fun h => ?_)
    · have h : i < zs.length := by simpa using h
      (simp -implicitDefEqProofs only [go_sem]; repeat (refine GO ?_; simp -implicitDefEqProofs only [go_sem]))
      refine EL.map h ?_
      have hct := cat_take h
      have hcl := cat_le zs (i + 1)
      rw [hct] at hcl
      have w1 : IntKind.i64.wrap (((cat (zs.take i)).length : Int) + (zs[i].length : Int)) = ((cat (zs.take (i + 1))).length : Int) := by
        rw [hct, wrap_i64] <;> omega
      have w2 := wrap_add1 (show i < 4611686018427387904 by omega)
      (simp -implicitDefEqProofs only [go_sem, setA, w1, w2]; repeat (refine GO ?_; simp -implicitDefEqProofs only [go_sem, setA, w1, w2]))
      refine VIF.split (fun h => by simp at h; omega) (fun _ => ?_)
      (simp -implicitDefEqProofs only [go_sem, w1, w2]; repeat (refine GO ?_; simp -implicitDefEqProofs only [go_sem, w1, w2]))
      refine BACK.mk ⟨i + 1, by omega⟩ [] rfl rfl (by show zs.length - (i + 1) < zs.length - i; omega) ?_
      (simp -implicitDefEqProofs only [go_sem, setsA, iA, w1, w2]; repeat (refine GO ?_; simp -implicitDefEqProofs only [go_sem, setsA, iA, w1, w2]))
      exact ⟨id, rfl, rfl⟩
    · have h : i = zs.length := by simp at h; omega
      subst h
      (simp -implicitDefEqProofs only [go_sem, List.take_length]; repeat (refine GO ?_; simp -implicitDefEqProofs only [go_sem, List.take_length]))
      refine .make 24 _ (s65 (cat zs).length (by omega)) rfl (by simp) rfl fun q o hq hlf => ?_
      obtain ⟨rfl, ho⟩ := hq
      (simp -implicitDefEqProofs only [go_sem]; repeat (refine GO ?_; simp -implicitDefEqProofs only [go_sem]))
      refine LOOP.mk (ι := { p : Nat × Ob // p.1 ≤ zs.length ∧ p.2.sz = 2 ∧ p.2.leafy ∧ p.2.es.take (cat (zs.take p.1)).length = (cat (zs.take p.1)).map It.c })
        (fun p => mkS [(6, .rf 1000 0 (cat (zs.take p.1.1)).length), (25, setsA zs), (26, iA zs.length), (27, iA p.1.1)] [(1000, p.1.2)] [1000])
        (fun p => zs.length - p.1.1) ⟨(0, o), Nat.zero_le _, ho, hlf, rfl⟩ [(1000, some 24)] rfl rfl ?_ (fun p => ?_)
      · (simp -implicitDefEqProofs only [go_sem, setsA, iA]; repeat (refine GO ?_; simp -implicitDefEqProofs only [go_sem, setsA, iA]))
        exact ⟨id, ⟨rfl, rfl⟩, .same o _ _ hlf rfl⟩
      · obtain ⟨⟨i, o2⟩, hi, hsz, hlf2, hes⟩ := p
        simp only at hi hsz hlf2 hes
        (simp -implicitDefEqProofs only [go_sem, setsA, iA]; repeat (refine GO ?_; simp -implicitDefEqProofs only [go_sem, setsA, iA]))
        refine VIF.split (fun h => ?_) (fun h => ?_)
        · have h : i < zs.length := by simpa using h
          have hct := cat_take h
          have hcl := cat_le zs (i + 1)
          rw [hct] at hcl
          have w2 := wrap_add1 (show i < 4611686018427387904 by omega)
          (simp -implicitDefEqProofs only [go_sem]; repeat (refine GO ?_; simp -implicitDefEqProofs only [go_sem]))
          refine EL.map h ?_
          (simp -implicitDefEqProofs only [go_sem, setA, w2]; repeat (refine GO ?_; simp -implicitDefEqProofs only [go_sem, setA, w2]))
          refine ⟨⟨hsz, by omega⟩, ?_⟩
          have hlf3 : (Ob.mk 2 (o2.es.take (cat (zs.take i)).length ++ zs[i].map It.c)).leafy := by
            rw [hes, ← List.map_append]; exact so_leafy _
          refine BACK.mk ⟨(i + 1, ⟨2, o2.es.take (cat (zs.take i)).length ++ zs[i].map It.c⟩), by omega, rfl, hlf3, by
            show (o2.es.take (cat (zs.take i)).length ++ zs[i].map It.c).take (cat (zs.take (i + 1))).length = (cat (zs.take (i + 1))).map It.c
            rw [hes, ← List.map_append, List.take_succ_eq_append_getElem h, cat_append]
            simp only [cat, List.append_nil]
            exact List.take_of_length_le (by simp)⟩ [(1000, some 33)] rfl rfl (by show zs.length - (i + 1) < zs.length - i; omega) ?_
          (simp -implicitDefEqProofs only [go_sem, setsA, iA, w2]; repeat (refine GO ?_; simp -implicitDefEqProofs only [go_sem, setsA, iA, w2]))
          refine ⟨id, ⟨by rw [hct], rfl⟩, .same (Ob.mk 2 (o2.es.take (cat (zs.take i)).length ++ zs[i].map It.c)) _ _ hlf3 rfl⟩
        · have h : i = zs.length := by simp at h; omega
          subst h
          rw [List.take_length] at hes
          (simp -implicitDefEqProofs only [go_sem, List.take_length]; repeat (refine GO ?_; simp -implicitDefEqProofs only [go_sem, List.take_length]))
          refine FINmk [(0, some 1000)] [(2, .rf 0 0 (cat zs).length)] [(0, o2)] [0] rfl ?_ ?_
          · (simp -implicitDefEqProofs only [go_sem]; repeat (refine GO ?_; simp -implicitDefEqProofs only [go_sem]))
            exact .same o2 _ _ hlf2 rfl
          · exact ⟨o2, ⟨⟨rfl, hsz, hes⟩, rfl⟩, hlf2, rfl⟩
end Yt
namespace Yt
open Go Go.Vc Go.Proofs
set_option maxRecDepth 10000
set_option maxHeartbeats 4000000
set_option linter.unusedSimpArgs false
set_option linter.unusedVariables false
theorem s49 (v : V) : Spec0 Try.prog 125 [.ag v.c] (· = bA (okV v)) := by
  refine spec0_of_vc tabOk elems ord125 Try.func125 rfl (rl := [.tmp 2]) rfl (by kernel_rfl) rfl ?_
  (simp -implicitDefEqProofs only [go_sem, V.c]; repeat (refine GO ?_; simp -implicitDefEqProofs only [go_sem, V.c]))
  iterate 9 all_goals (first
    | (refine VIF.split (fun h => ?_) (fun h => ?_) <;> (simp -implicitDefEqProofs only [go_sem]; repeat (refine GO ?_; simp -implicitDefEqProofs only [go_sem])))
    | (refine .pure _ (s64 v.i 0 1) rfl fun r hr _ => ?_
       subst hr
       (simp -implicitDefEqProofs only [go_sem, bA]; repeat (refine GO ?_; simp -implicitDefEqProofs only [go_sem, bA])))
    | (refine .pure _ (s64 v.i (-1152921504606846976) 1152921504606846976) rfl fun r hr _ => ?_
       subst hr
       (simp -implicitDefEqProofs only [go_sem, bA]; repeat (refine GO ?_; simp -implicitDefEqProofs only [go_sem, bA])))
    | skip)
  all_goals simp_all [okV, inB, iA, bA, noS]
  all_goals (first | rfl | (intros; omega))
theorem s17 (a : List V) (ha : a.length < 4611686018427387904) : Spec0 Try.prog 86 [rowA a] (· = iA (okR a)) := by
  refine spec0_of_vc tabOk elems ord86 Try.func86 rfl (rl := [.tmp 2]) rfl (by kernel_rfl) rfl ?_
  (simp -implicitDefEqProofs only [go_sem, rowA]; repeat (refine GO ?_; simp -implicitDefEqProofs only [go_sem, rowA]))
  refine VIF.split (fun h => ?_) (fun h => ?_)
  · (simp -implicitDefEqProofs only [go_sem]; repeat (refine GO ?_; simp -implicitDefEqProofs only [go_sem]))
    have h : 12 < a.length := by simp at h; omega
    simp [okR, h, iA]
  · have h12 : ¬ 12 < a.length := by simp at h; omega
    (simp -implicitDefEqProofs only [go_sem]; repeat (refine GO ?_; simp -implicitDefEqProofs only [go_sem]))
    refine LOOP.mk (ι := { i : Nat // i ≤ a.length ∧ ∀ j (hj : j < a.length), j < i → okV a[j] = true }) (fun i => mkS [(0, rowA a), (3, iA i.1)] [] []) (fun i => a.length - i.1)
      ⟨0, by simp⟩ [] rfl rfl ?_ (fun i => ?_)
    · (simp -implicitDefEqProofs only [go_sem, rowA, iA]; repeat (refine GO ?_; simp -implicitDefEqProofs only [go_sem, rowA, iA]))
      exact ⟨id, rfl⟩
    · obtain ⟨i, hi, hz⟩ := i
      (simp -implicitDefEqProofs only [go_sem, rowA, iA]; repeat (refine GO ?_; simp -implicitDefEqProofs only [go_sem, rowA, iA]))
      refine VIF.split (fun h => ?_) (fun h => ?_)
      · have hi' : i < a.length := by simpa using h
        have w1 := wrap_add1 (show i < 4611686018427387904 by omega)
        (simp -implicitDefEqProofs only [go_sem]; repeat (refine GO ?_; simp -implicitDefEqProofs only [go_sem]))
        refine EL.map hi' ?_
        (simp -implicitDefEqProofs only [go_sem, V.c]; repeat (refine GO ?_; simp -implicitDefEqProofs only [go_sem, V.c]))
        refine .pure _ (s49 a[i]) rfl fun r hr _ => ?_
        subst hr
        (simp -implicitDefEqProofs only [go_sem, bA]; repeat (refine GO ?_; simp -implicitDefEqProofs only [go_sem, bA]))
        refine VIF.split (fun e => ?_) (fun e => ?_)
        · have e : okV a[i] = false := by simpa using e
          (simp -implicitDefEqProofs only [go_sem]; repeat (refine GO ?_; simp -implicitDefEqProofs only [go_sem]))
          have : a.all okV = false := by
            rw [List.all_eq_false]; exact ⟨_, List.getElem_mem hi', by simp [e]⟩
          simp [okR, h12, this, iA]
        · have e : okV a[i] = true := by simpa using e
          (simp -implicitDefEqProofs only [go_sem, w1]; repeat (refine GO ?_; simp -implicitDefEqProofs only [go_sem, w1]))
          refine BACK.mk ⟨i + 1, by omega, fun j hj hji => ?_⟩ [] rfl rfl (by show a.length - (i + 1) < a.length - i; omega) ?_
          · by_cases e2 : j = i
            · subst e2; exact e
            · exact hz j hj (by omega)
          · (simp -implicitDefEqProofs only [go_sem, rowA, iA, w1]; repeat (refine GO ?_; simp -implicitDefEqProofs only [go_sem, rowA, iA, w1]))
            exact id
      · have h : i = a.length := by simp at h; omega
        (simp -implicitDefEqProofs only [go_sem]; repeat (refine GO ?_; simp -implicitDefEqProofs only [go_sem]))
        have : a.all okV = true := by
          rw [List.all_eq_true]; intro x hx
          obtain ⟨j, hj, rfl⟩ := List.mem_iff_getElem.1 hx
          exact hz j hj (by omega)
        simp [okR, h12, this, iA]
def oneI (r : List V) : It := ⟨r, 1⟩
end Yt
namespace Yt
open Go Go.Vc Go.Proofs
set_option maxRecDepth 10000
set_option maxHeartbeats 4000000
set_option linter.unusedSimpArgs false
set_option linter.unusedVariables false
theorem s67 (b : Bool) : Spec0 Try.prog 111 [bA b] (· = iA (if b then -1 else 1)) := by
  refine spec0_of_vc tabOk elems ord111 Try.func111 rfl (rl := [.tmp 2]) rfl (by kernel_rfl) rfl ?_
  (simp -implicitDefEqProofs only [go_sem, bA]; repeat (refine GO ?_; simp -implicitDefEqProofs only [go_sem, bA]))
  refine VIF.split (fun h => ?_) (fun h => ?_)
  · subst h; (simp -implicitDefEqProofs only [go_sem]; repeat (refine GO ?_; simp -implicitDefEqProofs only [go_sem])); rfl
  · subst h; (simp -implicitDefEqProofs only [go_sem]; repeat (refine GO ?_; simp -implicitDefEqProofs only [go_sem])); rfl
theorem s66 (a b : V) : Spec0 Try.prog 68 [.ag a.c, .ag b.c] (· = iA (cmpV a b)) := by
  refine spec0_of_vc tabOk elems ord68 Try.func68 rfl (rl := [.tmp 4]) rfl (by kernel_rfl) rfl ?_
  (simp -implicitDefEqProofs only [go_sem, V.c]; repeat (refine GO ?_; simp -implicitDefEqProofs only [go_sem, V.c]))
  refine VIF.split (fun h => ?_) (fun h => ?_)
  · (simp -implicitDefEqProofs only [go_sem]; repeat (refine GO ?_; simp -implicitDefEqProofs only [go_sem]))
    refine .pure _ (s67 _) rfl fun q hq _ => ?_
    subst hq
    (simp -implicitDefEqProofs only [go_sem, iA]; repeat (refine GO ?_; simp -implicitDefEqProofs only [go_sem, iA]))
    have h : a.k ≠ b.k := by simpa using h
    by_cases h2 : a.k < b.k
    · simp [cmpV, nz, cmpI, h2]
    · have h3 : b.k < a.k := by omega
      simp [cmpV, nz, cmpI, h2, h3]
  · have h : a.k = b.k := by simpa using h
    (simp -implicitDefEqProofs only [go_sem]; repeat (refine GO ?_; simp -implicitDefEqProofs only [go_sem]))
    refine VIF.split (fun h2 => ?_) (fun h2 => ?_)
    · (simp -implicitDefEqProofs only [go_sem]; repeat (refine GO ?_; simp -implicitDefEqProofs only [go_sem]))
      refine .pure _ (s67 _) rfl fun q hq _ => ?_
      subst hq
      (simp -implicitDefEqProofs only [go_sem, iA]; repeat (refine GO ?_; simp -implicitDefEqProofs only [go_sem, iA]))
      have h2 : a.i ≠ b.i := by simpa using h2
      by_cases h3 : a.i < b.i
      · simp [cmpV, nz, cmpI, h, h3]
      · have h4 : b.i < a.i := by omega
        simp [cmpV, nz, cmpI, h, h3, h4]
    · have h2 : a.i = b.i := by simpa using h2
      (simp -implicitDefEqProofs only [go_sem]; repeat (refine GO ?_; simp -implicitDefEqProofs only [go_sem]))
      refine VIF.split (fun h3 => ?_) (fun h3 => ?_)
      · (simp -implicitDefEqProofs only [go_sem]; repeat (refine GO ?_; simp -implicitDefEqProofs only [go_sem]))
        refine .pure _ (s67 _) rfl fun q hq _ => ?_
        subst hq
        (simp -implicitDefEqProofs only [go_sem, iA]; repeat (refine GO ?_; simp -implicitDefEqProofs only [go_sem, iA]))
        have h3 : a.s ≠ b.s := by simpa using h3
        by_cases h4 : Op.bytesLess a.s.toList b.s.toList = true
        · simp [cmpV, nz, cmpI, cmpS, h, h2, h4]
        · simp [cmpV, nz, cmpI, cmpS, h, h2, h4, h3]
      · have h3 : a.s = b.s := by simpa using h3
        (simp -implicitDefEqProofs only [go_sem]; repeat (refine GO ?_; simp -implicitDefEqProofs only [go_sem]))
        have h5 := lin_cmpS.self b.s
        simp [iA, cmpV, nz, cmpI, h, h2, h3, h5]
theorem cmpR_step (a b : List V) (i : Nat) (ha : i < a.length) (hb : i < b.length) : cmpR (a.drop i) (b.drop i) = if cmpV a[i] b[i] = 0 then cmpR (a.drop (i + 1)) (b.drop (i + 1)) else cmpV a[i] b[i] := by
  rw [List.drop_eq_getElem_cons ha, List.drop_eq_getElem_cons hb]; rfl
theorem s55 (a b : List V) (ha : a.length < 4611686018427387904) (hb : b.length < 4611686018427387904) : Spec0 Try.prog 88 [rowA a, rowA b] (· = iA (cmpR a b)) := by
  refine spec0_of_vc tabOk elems ord88 Try.func88 rfl (rl := [.tmp 4]) rfl (by kernel_rfl) rfl ?_
  (simp -implicitDefEqProofs only [go_sem, rowA]; repeat (refine GO ?_; simp -implicitDefEqProofs only [go_sem, rowA]))
  refine LOOP.join (ι := { u : Unit // cmpR a b = if a.length = b.length then 0 else if a.length < b.length then -1 else 1 }) (fun _ => mkS [(0, rowA a), (1, rowA b)] [] []) ?_ (fun u => ?_)
  · refine LOOP.mk (ι := { i : Nat // i ≤ a.length ∧ i ≤ b.length ∧ cmpR a b = cmpR (a.drop i) (b.drop i) }) (fun p => mkS [(0, rowA a), (1, rowA b), (5, iA p.1)] [] [])
      (fun p => a.length - p.1) ⟨0, Nat.zero_le _, Nat.zero_le _, rfl⟩ [] rfl rfl ?_ (fun p => ?_)
    · (simp -implicitDefEqProofs only [go_sem, rowA, iA]; repeat (refine GO ?_; simp -implicitDefEqProofs only [go_sem, rowA, iA]))
      exact ⟨id, rfl⟩
    · obtain ⟨i, hi, hi2, he⟩ := p
      have w3 := wrap_add1 (show i < 4611686018427387904 by omega)
      (simp -implicitDefEqProofs only [go_sem, rowA, iA]; repeat (refine GO ?_; simp -implicitDefEqProofs only [go_sem, rowA, iA]))
      refine VIF.split (fun h => ?_) (fun h => ?_)
      · have h : i < a.length := by simpa using h
        (simp -implicitDefEqProofs only [go_sem]; repeat (refine GO ?_; simp -implicitDefEqProofs only [go_sem]))
        refine VIF.split (fun h2 => ?_) (fun h2 => ?_)
        · have h2 : i < b.length := by simpa using h2
          have hst := cmpR_step a b i h h2
          (simp -implicitDefEqProofs only [go_sem]; repeat (refine GO ?_; simp -implicitDefEqProofs only [go_sem]))
          refine EL.map h ?_
          (simp -implicitDefEqProofs only [go_sem, V.c]; repeat (refine GO ?_; simp -implicitDefEqProofs only [go_sem, V.c]))
          refine EL.map h2 ?_
          (simp -implicitDefEqProofs only [go_sem, V.c]; repeat (refine GO ?_; simp -implicitDefEqProofs only [go_sem, V.c]))
          refine .pure _ (s66 a[i] b[i]) rfl fun q hq _ => ?_
          subst hq
          (simp -implicitDefEqProofs only [go_sem, iA]; repeat (refine GO ?_; simp -implicitDefEqProofs only [go_sem, iA]))
          refine VIF.split (fun h3 => ?_) (fun h3 => ?_)
          · have h3 : cmpV a[i] b[i] ≠ 0 := by simpa using h3
            (simp -implicitDefEqProofs only [go_sem]; repeat (refine GO ?_; simp -implicitDefEqProofs only [go_sem]))
            rw [he, hst, if_neg h3]; rfl
          · have h3 : cmpV a[i] b[i] = 0 := by simpa using h3
            rw [if_pos h3] at hst
            (simp -implicitDefEqProofs only [go_sem, w3]; repeat (refine GO ?_; simp -implicitDefEqProofs only [go_sem, w3]))
            refine BACK.mk ⟨i + 1, by omega, by omega, he.trans hst⟩ [] rfl rfl (by show a.length - (i + 1) < a.length - i; omega) ?_
            (simp -implicitDefEqProofs only [go_sem, rowA, iA, w3]; repeat (refine GO ?_; simp -implicitDefEqProofs only [go_sem, rowA, iA, w3]))
            exact id
        · have h2 : i = b.length := by simp at h2; omega
          (simp -implicitDefEqProofs only [go_sem]; repeat (refine GO ?_; simp -implicitDefEqProofs only [go_sem]))
          refine JB.mk ⟨(), ?_⟩ [] rfl rfl ?_
          · rw [he, h2, List.drop_length, List.drop_eq_getElem_cons (by omega), if_neg (by omega), if_neg (by omega)]; rfl
          · (simp -implicitDefEqProofs only [go_sem, rowA]; repeat (refine GO ?_; simp -implicitDefEqProofs only [go_sem, rowA]))
            exact id
      · have h : i = a.length := by simp at h; omega
        (simp -implicitDefEqProofs only [go_sem]; repeat (refine GO ?_; simp -implicitDefEqProofs only [go_sem]))
        refine JB.mk ⟨(), ?_⟩ [] rfl rfl ?_
        · rw [he, h, List.drop_length]
          by_cases h2 : a.length = b.length
          · rw [if_pos h2, h2, List.drop_length]; rfl
          · rw [if_neg h2, List.drop_eq_getElem_cons (by omega), if_pos (by omega)]; rfl
        · (simp -implicitDefEqProofs only [go_sem, rowA]; repeat (refine GO ?_; simp -implicitDefEqProofs only [go_sem, rowA]))
          exact id
  · obtain ⟨u, he⟩ := u
    (simp -implicitDefEqProofs only [go_sem, rowA]; repeat (refine GO ?_; simp -implicitDefEqProofs only [go_sem, rowA]))
    refine VIF.split (fun h => ?_) (fun h => ?_)
    · have h : a.length ≠ b.length := by simp at h; omega
      (simp -implicitDefEqProofs only [go_sem]; repeat (refine GO ?_; simp -implicitDefEqProofs only [go_sem]))
      refine .pure _ (s67 _) rfl fun q hq _ => ?_
      subst hq
      (simp -implicitDefEqProofs only [go_sem, iA]; repeat (refine GO ?_; simp -implicitDefEqProofs only [go_sem, iA]))
      rw [he, if_neg h]
      simp
    · have h : a.length = b.length := by simp at h; omega
      (simp -implicitDefEqProofs only [go_sem]; repeat (refine GO ?_; simp -implicitDefEqProofs only [go_sem]))
      rw [he, if_pos h]; rfl
theorem s52 (a : List V) (hl : a.length ≤ 1073741824) : Spec1 Try.prog 45 [rowA a] (fun r o => r = .rf 0 0 a.length ∧ o = ro3 a) := by
  refine spec1_of_vc tabOk elems ord45 Try.func45 rfl (rl := [.tmp 2]) rfl (by kernel_rfl) rfl ?_
  (simp -implicitDefEqProofs only [go_sem, rowA]; repeat (refine GO ?_; simp -implicitDefEqProofs only [go_sem, rowA]))
  refine ⟨by omega, ?_⟩
  refine FINmk [(0, some 6)] [(2, .rf 0 0 a.length)] [(0, ro3 a)] [0] rfl ?_ ?_
  · (simp -implicitDefEqProofs only [go_sem, ro3]; repeat (refine GO ?_; simp -implicitDefEqProofs only [go_sem, ro3]))
    exact .same (ro3 a) _ _ (ro3_leafy a) rfl
  · exact ⟨ro3 a, ⟨⟨rfl, rfl⟩, rfl⟩, ro3_leafy a, rfl⟩
theorem s30 (z : List It) (hl : z.length < 4611686018427387904) (hr : ∀ t ∈ z, t.row.length < 4611686018427387904) :
    Spec0 Try.prog 34 [setA z] (fun r => ∃ e : Bool, r = bA e ∧ (e = true ↔ Good z)) := by
  refine spec0_of_vc tabOk elems ord34 Try.func34 rfl (rl := [.tmp 2]) rfl (by kernel_rfl) rfl ?_
  (simp -implicitDefEqProofs only [go_sem, setA]; repeat (refine GO ?_; simp -implicitDefEqProofs only [go_sem, setA]))
  refine LOOP.mk (ι := { i : Nat // i ≤ z.length ∧ ∀ j (h : j < z.length), j < i → Goo z j h }) (fun p => mkS [(0, .im 2 (z.map It.c)), (3, iA p.1)] [] [])
    (fun p => z.length - p.1) ⟨0, Nat.zero_le _, fun j _ h => absurd h (Nat.not_lt_zero _)⟩ [] rfl rfl ?_ (fun p => ?_)
  · (simp -implicitDefEqProofs only [go_sem, iA]; repeat (refine GO ?_; simp -implicitDefEqProofs only [go_sem, iA]))
    exact ⟨id, rfl⟩
  · obtain ⟨i, hi, hg⟩ := p
    (simp -implicitDefEqProofs only [go_sem, iA]; repeat (refine GO ?_; simp -implicitDefEqProofs only [go_sem, iA]))
    refine VIF.split (fun h => ?_) (fun h => ?_)
    · have h : i < z.length := by simpa using h
      have bad : ¬ Goo z i h → ∃ e : Bool, AV.pr (Value.bool false) = bA e ∧ (e = true ↔ Good z) := fun hn =>
        ⟨false, rfl, fun h => absurd h (by decide), fun g => absurd (g i h) hn⟩
      have w3 := wrap_add1 (show i < 4611686018427387904 by omega)
      (simp -implicitDefEqProofs only [go_sem]; repeat (refine GO ?_; simp -implicitDefEqProofs only [go_sem]))
      refine EL.map h ?_
      (simp -implicitDefEqProofs only [go_sem, It.c]; repeat (refine GO ?_; simp -implicitDefEqProofs only [go_sem, It.c]))
      refine .pure _ (s17 z[i].row (hr _ (List.getElem_mem h))) rfl fun r hr' _ => ?_
      subst hr'
      (simp -implicitDefEqProofs only [go_sem, iA]; repeat (refine GO ?_; simp -implicitDefEqProofs only [go_sem, iA]))
      refine VIF.split (fun h1 => ?_) (fun h1 => ?_)
      · have h1 : okR z[i].row ≠ 0 := by simpa using h1
        (simp -implicitDefEqProofs only [go_sem]; repeat (refine GO ?_; simp -implicitDefEqProofs only [go_sem]))
        exact bad fun g => h1 (by have := g.ok; simp [okI] at this; exact this.1)
      · have h1 : okR z[i].row = 0 := by simpa using h1
        (simp -implicitDefEqProofs only [go_sem]; repeat (refine GO ?_; simp -implicitDefEqProofs only [go_sem]))
        refine EL.map h ?_
        (simp -implicitDefEqProofs only [go_sem, It.c, iA]; repeat (refine GO ?_; simp -implicitDefEqProofs only [go_sem, It.c, iA]))
        refine VIF.split (fun h2 => ?_) (fun h2 => ?_)
        · have h2 : z[i].w = 0 := by simpa using h2
          (simp -implicitDefEqProofs only [go_sem]; repeat (refine GO ?_; simp -implicitDefEqProofs only [go_sem]))
          exact bad fun g => g.nz h2
        · have h2 : z[i].w ≠ 0 := by simpa using h2
          (simp -implicitDefEqProofs only [go_sem]; repeat (refine GO ?_; simp -implicitDefEqProofs only [go_sem]))
          refine EL.map h ?_
          (simp -implicitDefEqProofs only [go_sem, It.c, iA]; repeat (refine GO ?_; simp -implicitDefEqProofs only [go_sem, It.c, iA]))
          refine .pure _ (s53 z[i].w (-72057594037927936) 72057594037927936) rfl fun r hr' _ => ?_
          subst hr'
          (simp -implicitDefEqProofs only [go_sem, bA]; repeat (refine GO ?_; simp -implicitDefEqProofs only [go_sem, bA]))
          refine VIF.split (fun h3 => ?_) (fun h3 => ?_)
          · have h3 : okW z[i].w = false := by simpa [okW] using h3
            (simp -implicitDefEqProofs only [go_sem]; repeat (refine GO ?_; simp -implicitDefEqProofs only [go_sem]))
            exact bad fun g => by have := g.ok; simp [okI, h3] at this
          · have h3 : okW z[i].w = true := by simpa [okW] using h3
            have hok : okI z[i] = true := by simp [okI, h1, h3]
            (simp -implicitDefEqProofs only [go_sem]; repeat (refine GO ?_; simp -implicitDefEqProofs only [go_sem]))
            refine VIF.split (fun h4 => ?_) (fun h4 => ?_)
            · have h4 : 0 < i := by simp at h4; omega
              have w1 := wrap_sub1 (show 1 ≤ i from h4) (by omega)
              (simp -implicitDefEqProofs only [go_sem, w1]; repeat (refine GO ?_; simp -implicitDefEqProofs only [go_sem, w1]))
              refine EL.map (show i - 1 < z.length by omega) ?_
              (simp -implicitDefEqProofs only [go_sem, It.c]; repeat (refine GO ?_; simp -implicitDefEqProofs only [go_sem, It.c]))
              refine EL.map h ?_
              (simp -implicitDefEqProofs only [go_sem, It.c]; repeat (refine GO ?_; simp -implicitDefEqProofs only [go_sem, It.c]))
              refine .pure _ (s55 z[i - 1].row z[i].row (hr _ (List.getElem_mem _)) (hr _ (List.getElem_mem _))) rfl fun r hr' _ => ?_
              subst hr'
              (simp -implicitDefEqProofs only [go_sem, iA]; repeat (refine GO ?_; simp -implicitDefEqProofs only [go_sem, iA]))
              refine VIF.split (fun h5 => ?_) (fun h5 => ?_)
              · have h5 : 0 ≤ cI z[i - 1] z[i] := by simpa [cI] using h5
                (simp -implicitDefEqProofs only [go_sem]; repeat (refine GO ?_; simp -implicitDefEqProofs only [go_sem]))
                exact bad fun g => by have := g.up h4; omega
              · have h5 : cI z[i - 1] z[i] < 0 := by simpa [cI] using h5
                (simp -implicitDefEqProofs only [go_sem, w3]; repeat (refine GO ?_; simp -implicitDefEqProofs only [go_sem, w3]))
                refine BACK.mk ⟨i + 1, by omega, fun j hj hji => ?_⟩ [] rfl rfl (by show z.length - (i + 1) < z.length - i; omega) ?_
                · by_cases e : j = i
                  · subst e; exact ⟨hok, h2, fun _ => h5⟩
                  · exact hg j hj (by omega)
                · (simp -implicitDefEqProofs only [go_sem, iA, w3]; repeat (refine GO ?_; simp -implicitDefEqProofs only [go_sem, iA, w3]))
                  exact id
            · have h4 : i = 0 := by simp at h4; omega
              (simp -implicitDefEqProofs only [go_sem, w3]; repeat (refine GO ?_; simp -implicitDefEqProofs only [go_sem, w3]))
              refine BACK.mk ⟨i + 1, by omega, fun j hj hji => ?_⟩ [] rfl rfl (by show z.length - (i + 1) < z.length - i; omega) ?_
              · have e : j = i := by omega
                subst e; exact ⟨hok, h2, fun h0 => absurd h0 (by omega)⟩
              · (simp -implicitDefEqProofs only [go_sem, iA, w3]; repeat (refine GO ?_; simp -implicitDefEqProofs only [go_sem, iA, w3]))
                exact id
    · have h : i = z.length := by simp at h; omega
      (simp -implicitDefEqProofs only [go_sem]; repeat (refine GO ?_; simp -implicitDefEqProofs only [go_sem]))
      exact ⟨true, rfl, fun _ j hj => hg j hj (by omega), fun _ => rfl⟩
end Yt
namespace Yt
open Go Go.Vc Go.Proofs
set_option maxRecDepth 10000
set_option maxHeartbeats 4000000
set_option linter.unusedSimpArgs false
set_option linter.unusedVariables false
def Srt (z : List It) : Prop := z.Pairwise fun a b => cI a b ≤ 0
theorem Srt.sr {z : List It} (h : Srt z) : SR cI z 0 z.length := by
  intro i j _ hij hj u v hu hv
  have hi : i < z.length := by omega
  rw [List.getElem?_eq_getElem hi] at hu
  rw [List.getElem?_eq_getElem hj] at hv
  cases hu; cases hv
  exact List.pairwise_iff_getElem.1 h i j hi hj hij
theorem cI_le_trans {a b c : It} (h : cI a b ≤ 0) (g : cI b c ≤ 0) : cI a c ≤ 0 := cmp_cI.trans _ _ _ h g
theorem cI_tot {a b : It} (h : ¬ cI a b ≤ 0) : cI b a ≤ 0 := by
  have := cI_neg a b
  omega
structure Mg (z o a b : List It) : Prop where
  perm : (o ++ a ++ b).Perm z
  so : Srt o
  sa : Srt a
  sb : Srt b
  la : ∀ x ∈ o, ∀ y ∈ a, cI x y ≤ 0
  lb : ∀ x ∈ o, ∀ y ∈ b, cI x y ≤ 0
theorem Mg.left {z o b : List It} {x : It} {a : List It} (h : Mg z o (x :: a) b) (hb : ∀ y ∈ b, cI x y ≤ 0) : Mg z (o ++ [x]) a b := by
  obtain ⟨h1, h2, h3, h4, h5, h6⟩ := h
  have h3 := List.pairwise_cons.1 h3
  refine ⟨by simpa using h1, ?_, h3.2, h4, ?_, ?_⟩
  · refine List.pairwise_append.2 ⟨h2, List.pairwise_singleton _ _, fun u hu v hv => ?_⟩
    rw [List.mem_singleton] at hv; subst hv
    exact h5 u hu v (by simp)
  · intro u hu v hv
    rcases List.mem_append.1 hu with hu | hu
    · exact h5 u hu v (by simp [hv])
    · rw [List.mem_singleton] at hu; subst hu; exact h3.1 v hv
  · intro u hu v hv
    rcases List.mem_append.1 hu with hu | hu
    · exact h6 u hu v hv
    · rw [List.mem_singleton] at hu; subst hu; exact hb v hv
theorem Mg.swap {z o a b : List It} (h : Mg z o a b) : Mg z o b a := by
  obtain ⟨h1, h2, h3, h4, h5, h6⟩ := h
  refine ⟨List.Perm.trans ?_ h1, h2, h4, h3, h6, h5⟩
  rw [List.append_assoc, List.append_assoc]
  exact List.Perm.append_left o List.perm_append_comm
theorem Mg.done {z o a b : List It} (h : Mg z o a b) (hn : a = [] ∨ b = []) : (o ++ a ++ b).Perm z ∧ Srt (o ++ a ++ b) := by
  obtain ⟨h1, h2, h3, h4, h5, h6⟩ := h
  refine ⟨h1, ?_⟩
  refine List.pairwise_append.2 ⟨List.pairwise_append.2 ⟨h2, h3, h5⟩, h4, fun u hu v hv => ?_⟩
  rcases hn with rfl | rfl
  · rw [List.append_nil] at hu; exact h6 u hu v hv
  · cases hv
theorem s54 : ∀ (n : Nat) (z : List It), z.length ≤ n → z.length ≤ 1048576 → (∀ t ∈ z, t.row.length < 4611686018427387904) → Spec0 Try.prog 112 [setA z] (fun r => ∃ y, r = setA y ∧ y.Perm z ∧ Srt y) := by
  intro n
  induction n with
  | zero =>
    intro z hz hl hr
    have : z = [] := List.eq_nil_of_length_eq_zero (by omega)
    subst this
    refine spec0_of_vc tabOk elems ord112 Try.func112 rfl (rl := [.tmp 2]) rfl (by kernel_rfl) rfl ?_
    (simp -implicitDefEqProofs only [go_sem, setA]; repeat (refine GO ?_; simp -implicitDefEqProofs only [go_sem, setA]))
    refine VIF.split (fun _ => ?_) (fun h => absurd h (by decide))
    (simp -implicitDefEqProofs only [go_sem, setA]; repeat (refine GO ?_; simp -implicitDefEqProofs only [go_sem, setA]))
    exact ⟨[], rfl, .refl _, .nil⟩
  | succ n ih =>
    intro z hz hl hr
    refine spec0_of_vc tabOk elems ord112 Try.func112 rfl (rl := [.tmp 2]) rfl (by kernel_rfl) rfl ?_
    (simp -implicitDefEqProofs only [go_sem, setA]; repeat (refine GO ?_; simp -implicitDefEqProofs only [go_sem, setA]))
    refine VIF.split (fun h => ?_) (fun h => ?_)
    · have h : z.length < 2 := by simp at h; omega
      (simp -implicitDefEqProofs only [go_sem, setA]; repeat (refine GO ?_; simp -implicitDefEqProofs only [go_sem, setA]))
      refine ⟨z, rfl, .refl _, ?_⟩
      match z, h with
      | [], _ => exact .nil
      | [x], _ => exact List.pairwise_singleton _ _
    · have h : 2 ≤ z.length := by simp at h; omega
      have w1 : (z.length : Int).tdiv 2 = ((z.length / 2 : Nat) : Int) := by
        rw [Int.tdiv_eq_ediv_of_nonneg (by omega)]; rfl
      have w2 : IntKind.i64.wrap ((z.length / 2 : Nat) : Int) = ((z.length / 2 : Nat) : Int) := by rw [wrap_i64] <;> omega
      have i0 : Int.toNat 0 = 0 := rfl
      have m1 : (z.map It.c).take (z.length / 2) = (z.take (z.length / 2)).map It.c := List.map_take.symm
      have m2 : ((z.map It.c).take z.length).drop (z.length / 2) = (z.drop (z.length / 2)).map It.c := by
        rw [List.take_of_length_le (by simp), List.map_drop]
      (simp -implicitDefEqProofs only [go_sem, w1, w2, i0, m1, m2]; repeat (refine GO ?_; simp -implicitDefEqProofs only [go_sem, w1, w2, i0, m1, m2]))
      refine ⟨by decide, by omega, by decide, by omega, ?_⟩
      refine .pure _ (ih (z.take (z.length / 2)) (by rw [List.length_take]; omega) (by rw [List.length_take]; omega) (fun t ht => hr t (List.mem_of_mem_take ht))) rfl fun q hq _ => ?_
      obtain ⟨a, rfl, pa, sa⟩ := hq
      (simp -implicitDefEqProofs only [go_sem, w1, w2, i0, m1, m2]; repeat (refine GO ?_; simp -implicitDefEqProofs only [go_sem, w1, w2, i0, m1, m2]))
      refine .pure _ (ih (z.drop (z.length / 2)) (by rw [List.length_drop]; omega) (by rw [List.length_drop]; omega) (fun t ht => hr t (List.mem_of_mem_drop ht))) rfl fun q hq _ => ?_
      obtain ⟨b, rfl, pb, sb⟩ := hq
      have start : Mg z [] a b := ⟨by
        rw [List.nil_append]
        exact (pa.append pb).trans (by rw [List.take_append_drop]), .nil, sa, sb, by simp, by simp⟩
      (simp -implicitDefEqProofs only [go_sem]; repeat (refine GO ?_; simp -implicitDefEqProofs only [go_sem]))
      refine LOOP.join (ι := { p : List It × List It × List It // Mg z p.1 p.2.1 p.2.2 ∧ (p.2.1 = [] ∨ p.2.2 = []) }) (fun p => mkS [(3, setA p.1.2.1), (4, setA p.1.2.2), (5, .rf 1000 0 p.1.1.length)] [(1000, so p.1.1)] [1000]) ?_ (fun p => ?_)
      · refine LOOP.mk (ι := { p : List It × List It × List It // Mg z p.1 p.2.1 p.2.2 }) (fun p => mkS [(3, setA p.1.2.1), (4, setA p.1.2.2), (5, .rf 1000 0 p.1.1.length)] [(1000, so p.1.1)] [1000])
          (fun p => p.1.2.1.length + p.1.2.2.length) ⟨([], a, b), start⟩ [(1000, none)] rfl rfl ?_ (fun p => ?_)
        · (simp -implicitDefEqProofs only [go_sem, so, setA]; repeat (refine GO ?_; simp -implicitDefEqProofs only [go_sem, so, setA]))
          exact ⟨id, rfl⟩
        · obtain ⟨⟨o, a, b⟩, mg⟩ := p
          simp only at mg
          have hlen : o.length + a.length + b.length = z.length := by have := mg.perm.length_eq; simp only [List.length_append] at this; exact this
          have hra : ∀ t ∈ a, t.row.length < 4611686018427387904 := fun t ht => hr t (mg.perm.mem_iff.1 (by simp [ht]))
          have hrb : ∀ t ∈ b, t.row.length < 4611686018427387904 := fun t ht => hr t (mg.perm.mem_iff.1 (by simp [ht]))
          (simp -implicitDefEqProofs only [go_sem, so, setA]; repeat (refine GO ?_; simp -implicitDefEqProofs only [go_sem, so, setA]))
          refine VIF.split (fun h1 => ?_) (fun h1 => ?_)
          · (simp -implicitDefEqProofs only [go_sem]; repeat (refine GO ?_; simp -implicitDefEqProofs only [go_sem]))
            refine VIF.split (fun h2 => ?_) (fun h2 => ?_)
            · match a, b, mg, hra, hrb, hlen, h1, h2 with
              | [], _, _, _, _, _, h1, _ => simp at h1
              | _ :: _, [], _, _, _, _, _, h2 => simp at h2
              | x :: a, y :: b, mg, hra, hrb, hlen, _, _ =>
                simp only [List.length_cons] at hlen
                (simp -implicitDefEqProofs only [go_sem]; repeat (refine GO ?_; simp -implicitDefEqProofs only [go_sem]))
                refine ⟨by omega, EL.map (show Int.toNat 0 < (x :: a).length by simp) ?_⟩
                (simp -implicitDefEqProofs only [go_sem, It.c]; repeat (refine GO ?_; simp -implicitDefEqProofs only [go_sem, It.c]))
                refine ⟨by omega, EL.map (show Int.toNat 0 < (y :: b).length by simp) ?_⟩
                (simp -implicitDefEqProofs only [go_sem, It.c]; repeat (refine GO ?_; simp -implicitDefEqProofs only [go_sem, It.c]))
                refine .pure _ (s55 x.row y.row (hra x (by simp)) (hrb y (by simp))) rfl fun q hq _ => ?_
                subst hq
                (simp -implicitDefEqProofs only [go_sem, iA]; repeat (refine GO ?_; simp -implicitDefEqProofs only [go_sem, iA]))
                refine VIF.split (fun h3 => ?_) (fun h3 => ?_)
                · have h3 : cI x y ≤ 0 := by simpa [cI] using h3
                  have mg2 := mg.left fun v hv => by
                    rcases List.mem_cons.1 hv with rfl | hv
                    · exact h3
                    · exact cI_le_trans h3 ((List.pairwise_cons.1 mg.sb).1 v hv)
                  (simp -implicitDefEqProofs only [go_sem]; repeat (refine GO ?_; simp -implicitDefEqProofs only [go_sem]))
                  refine ⟨by omega, EL.map (show Int.toNat 0 < (x :: a).length by simp) ?_⟩
                  (simp -implicitDefEqProofs only [go_sem, It.c]; repeat (refine GO ?_; simp -implicitDefEqProofs only [go_sem, It.c]))
                  refine ⟨by omega, by omega, ?_⟩
                  have e1 : (List.map It.c o).take o.length ++ [It.c x] = List.map It.c (o ++ [x]) := by
                    rw [List.take_of_length_le (by simp), List.map_append]; rfl
                  have e2 : List.drop 1 (List.take (a.length + 1) (List.map It.c (x :: a))) = List.map It.c a := by
                    rw [List.take_of_length_le (by simp)]; rfl
                  refine BACK.mk ⟨(o ++ [x], a, y :: b), mg2⟩ [(1000, some 45)] rfl rfl (by show a.length + (y :: b).length < (x :: a).length + (y :: b).length; simp) ?_
                  (simp -implicitDefEqProofs only [go_sem, so, setA]; repeat (refine GO ?_; simp -implicitDefEqProofs only [go_sem, so, setA]))
                  exact ⟨id, ⟨e2, by simp⟩, .same (so []) _ _ (fun u hu => so_leafy (o ++ [x]) u (by rw [so]; exact e1 ▸ hu)) e1⟩
                · have h3 : ¬ cI x y ≤ 0 := by simp at h3; simp only [cI]; omega
                  have h3 := cI_tot h3
                  have mg2 := (mg.swap.left fun v hv => by
                    rcases List.mem_cons.1 hv with rfl | hv
                    · exact h3
                    · exact cI_le_trans h3 ((List.pairwise_cons.1 mg.sa).1 v hv)).swap
                  (simp -implicitDefEqProofs only [go_sem]; repeat (refine GO ?_; simp -implicitDefEqProofs only [go_sem]))
                  refine ⟨by omega, EL.map (show Int.toNat 0 < (y :: b).length by simp) ?_⟩
                  (simp -implicitDefEqProofs only [go_sem, It.c]; repeat (refine GO ?_; simp -implicitDefEqProofs only [go_sem, It.c]))
                  refine ⟨by omega, by omega, ?_⟩
                  have e1 : (List.map It.c o).take o.length ++ [It.c y] = List.map It.c (o ++ [y]) := by
                    rw [List.take_of_length_le (by simp), List.map_append]; rfl
                  have e2 : List.drop 1 (List.take (b.length + 1) (List.map It.c (y :: b))) = List.map It.c b := by
                    rw [List.take_of_length_le (by simp)]; rfl
                  refine BACK.mk ⟨(o ++ [y], x :: a, b), mg2⟩ [(1000, some 53)] rfl rfl (by show (x :: a).length + b.length < (x :: a).length + (y :: b).length; simp) ?_
                  (simp -implicitDefEqProofs only [go_sem, so, setA]; repeat (refine GO ?_; simp -implicitDefEqProofs only [go_sem, so, setA]))
                  exact ⟨id, ⟨e2, by simp⟩, .same (so []) _ _ (fun u hu => so_leafy (o ++ [y]) u (by rw [so]; exact e1 ▸ hu)) e1⟩
            · have h2 : b = [] := by simpa using h2
              subst h2
              (simp -implicitDefEqProofs only [go_sem]; repeat (refine GO ?_; simp -implicitDefEqProofs only [go_sem]))
              refine JB.mk ⟨(o, a, []), mg, .inr rfl⟩ [(1000, some 1000)] rfl rfl ?_
              (simp -implicitDefEqProofs only [go_sem, so, setA]; repeat (refine GO ?_; simp -implicitDefEqProofs only [go_sem, so, setA]))
              exact ⟨id, .same (so o) _ _ (so_leafy o) rfl⟩
          · have h1 : a = [] := by simpa using h1
            subst h1
            (simp -implicitDefEqProofs only [go_sem]; repeat (refine GO ?_; simp -implicitDefEqProofs only [go_sem]))
            refine JB.mk ⟨(o, [], b), mg, .inl rfl⟩ [(1000, some 1000)] rfl rfl ?_
            (simp -implicitDefEqProofs only [go_sem, so, setA]; repeat (refine GO ?_; simp -implicitDefEqProofs only [go_sem, so, setA]))
            exact ⟨id, .same (so o) _ _ (so_leafy o) rfl⟩
      · obtain ⟨⟨o, a, b⟩, mg, hn⟩ := p
        simp only at mg hn
        have hlen : o.length + a.length + b.length = z.length := by have := mg.perm.length_eq; simp only [List.length_append] at this; exact this
        obtain ⟨hp, hs⟩ := mg.done hn
        simp -implicitDefEqProofs only [go_sem, so, setA]
        refine GO ?_
        simp -implicitDefEqProofs only [go_sem, so, setA]
        refine ⟨by omega, by omega, ?_⟩
        have e1 : List.take (o.length + a.length) (List.take o.length (List.map It.c o) ++ List.map It.c a) ++ List.map It.c b = List.map It.c (o ++ a ++ b) := by
          rw [List.take_of_length_le (l := List.map It.c o) (by simp), ← List.map_append, List.take_of_length_le (by simp), ← List.map_append]
        refine TO [] [(2, setA (o ++ a ++ b))] [] [] rfl ?_ ?_
        · (simp -implicitDefEqProofs only [go_sem, setA]; repeat (refine GO ?_; simp -implicitDefEqProofs only [go_sem, setA]))
          refine ⟨id, by decide, _, rfl, ?_, rfl, ?_⟩
          · rw [e1]; exact so_leafy (o ++ a ++ b)
          · rw [e1]; exact List.take_of_length_le (by simp; omega)
        (simp -implicitDefEqProofs only [go_sem, setA]; repeat (refine GO ?_; simp -implicitDefEqProofs only [go_sem, setA]))
        exact ⟨o ++ a ++ b, rfl, hp, hs⟩
end Yt
namespace Yt
open Go Go.Vc Go.Proofs
set_option maxRecDepth 10000
set_option maxHeartbeats 8000000
set_option linter.unusedSimpArgs false
set_option linter.unusedVariables false
theorem and_mask32 (x : Int) : bitsOp .and .i64 x 4294967295 = x % 4294967296 := by
  simp only [bitsOp]
  have h1 : (BitVec.ofInt IntKind.i64.bits x &&& BitVec.ofInt IntKind.i64.bits 4294967295).toNat = (x % 4294967296).toNat := by
    rw [BitVec.toNat_and]
    have e1 : (BitVec.ofInt IntKind.i64.bits 4294967295).toNat = 2 ^ 32 - 1 := by decide
    rw [e1, Nat.and_two_pow_sub_one_eq_mod]
    simp only [BitVec.toNat_ofInt, IntKind.bits]
    omega
  rw [h1, wrap_i64] <;> omega
theorem shr32 (x : Int) : x / 2 ^ min (Int.toNat 32) 64 = x / 4294967296 := by
  have h2 : (2 : Int) ^ min (Int.toNat 32) 64 = 4294967296 := by decide
  rw [h2]
theorem shl32 (x : Int) : x * 2 ^ min (Int.toNat 32) 64 = x * 4294967296 := by
  have h2 : (2 : Int) ^ min (Int.toNat 32) 64 = 4294967296 := by decide
  rw [h2]
structure TJ (y : List It) (off i : Nat) (h l : Int) : Prop where
  le : off + i ≤ y.length
  same : ∀ j (hj : j < y.length) (h0 : off < y.length), off ≤ j → j < off + i → cI y[j] y[off] = 0
  sum : h * 4294967296 + l = sumW ((y.drop off).take i)
  hb : -((i : Int) * 33554432) ≤ h ∧ h ≤ (i : Int) * 33554432
  lb : 0 ≤ l ∧ l ≤ (i : Int) * 4294967296
theorem TJ.start {y : List It} {off : Nat} (h : off ≤ y.length) : TJ y off 0 0 0 :=
  ⟨h, fun j _ _ h1 h2 => by omega, by simp [sumW], by omega, by omega⟩
theorem TJ.step {y : List It} {off i : Nat} {h l : Int} (t : TJ y off i h l) (hi : off + i < y.length) (e : ∀ h0 : off < y.length, cI y[off + i] y[off] = 0) (hw : okW y[off + i].w = true) :
    TJ y off (i + 1) (h + y[off + i].w / 4294967296) (l + y[off + i].w % 4294967296) := by
  have hw := okW_le hw
  obtain ⟨t1, t2, t3, t4, t5⟩ := t
  refine ⟨by omega, fun j hj h0 h1 h2 => ?_, ?_, by omega, by omega⟩
  · by_cases hji : j = off + i
    · subst hji; exact e h0
    · exact t2 j hj h0 h1 (by omega)
  · have hd : i < (y.drop off).length := by rw [List.length_drop]; omega
    rw [List.take_succ_eq_append_getElem hd, sumW_append, ← t3]
    simp only [sumW, List.getElem_drop]
    omega
theorem TJ.run {y : List It} {off i : Nat} {h l : Int} (t : TJ y off i h l) (h0 : off < y.length) (hn : ∀ hi : off + i < y.length, cI y[off + i] y[off] ≠ 0) : Run y off (off + i) := by
  refine ⟨?_, t.le, t.same, fun hi h0 => hn hi⟩
  apply Classical.byContradiction
  intro hlt
  have : i = 0 := by omega
  subst this
  exact hn h0 (cI_eq.2 rfl)
structure OS (y : List It) (off : Nat) (out : List It) (ov : Bool) : Prop where
  le : off ≤ y.length
  len : out.length ≤ off
  gi : ov = false → GI y off out
  bad : ov = true → ∃ r, okW (tot r y) = false
theorem OS.over {y out : List It} {off e : Nat} {ov : Bool} (o : OS y off out ov) (hs : SR cI y 0 y.length) (r : Run y off e) (h0 : off < y.length) (hb : okW (sumW ((y.drop off).take (e - off))) = false) : OS y e out true := by
  refine ⟨r.le, by have := r.lt; have := o.len; omega, fun h => absurd h (by decide), fun _ => ?_⟩
  cases ov with
  | true => exact o.bad rfl
  | false => exact ⟨y[off].row, by rw [(o.gi rfl).total hs r h0]; exact hb⟩
theorem OS.fine {y out : List It} {off e : Nat} {ov : Bool} (o : OS y off out ov) (hs : SR cI y 0 y.length) (r : Run y off e) (h0 : off < y.length) (hok : okW (sumW ((y.drop off).take (e - off))) = true) :
    OS y e (if sumW ((y.drop off).take (e - off)) = 0 then out else out ++ [⟨y[off].row, sumW ((y.drop off).take (e - off))⟩]) ov := by
  refine ⟨r.le, ?_, fun h => (o.gi h).step hs r h0 hok, o.bad⟩
  have := r.lt; have := o.len
  split
  · omega
  · simp; omega
theorem s26 (z : List It) (hl : z.length ≤ 1048576) (hr : ∀ t ∈ z, t.row.length < 1073741824) :
    Spec1 Try.prog 79 [setA z] (fun r o => ∃ (out : List It) (err : Int), r = .tu [.rf 0 0 out.length, iA err] ∧ o = so out ∧ MakeR z out err) := by
  refine spec1_of_vc tabOk elems ord79 Try.func79 rfl (rl := [.tmp 2, .tmp 3]) rfl (by kernel_rfl) rfl ?_
  (simp -implicitDefEqProofs only [go_sem, setA]; repeat (refine GO ?_; simp -implicitDefEqProofs only [go_sem, setA]))
  refine LOOP.mk (ι := { i : Nat // i ≤ z.length ∧ ∀ j (h : j < z.length), j < i → okI z[j] = true }) (fun p => mkS [(0, setA z), (4, iA p.1)] [] [])
    (fun p => z.length - p.1) ⟨0, Nat.zero_le _, fun j _ h => absurd h (Nat.not_lt_zero _)⟩ [] rfl rfl ?_ (fun p => ?_)
  · (simp -implicitDefEqProofs only [go_sem, setA, iA]; repeat (refine GO ?_; simp -implicitDefEqProofs only [go_sem, setA, iA]))
    exact ⟨id, rfl⟩
  · obtain ⟨i, hi, hg⟩ := p
    (simp -implicitDefEqProofs only [go_sem, setA, iA]; repeat (refine GO ?_; simp -implicitDefEqProofs only [go_sem, setA, iA]))
    refine VIF.split (fun h => ?_) (fun h => ?_)
    · have h : i < z.length := by simpa using h
      have w3 := wrap_add1 (show i < 4611686018427387904 by omega)
      have bad : okI z[i] = false → (z.any fun t => !okI t) = true := fun hn => by
        rw [List.any_eq_true]; exact ⟨_, List.getElem_mem h, by simp [hn]⟩
      (simp -implicitDefEqProofs only [go_sem]; repeat (refine GO ?_; simp -implicitDefEqProofs only [go_sem]))
      refine EL.map h ?_
      (simp -implicitDefEqProofs only [go_sem, It.c]; repeat (refine GO ?_; simp -implicitDefEqProofs only [go_sem, It.c]))
      refine .pure _ (s17 z[i].row (by have := hr _ (List.getElem_mem h); omega)) rfl fun q hq _ => ?_
      subst hq
      (simp -implicitDefEqProofs only [go_sem, iA]; repeat (refine GO ?_; simp -implicitDefEqProofs only [go_sem, iA]))
      refine VIF.split (fun h1 => ?_) (fun h1 => ?_)
      · have h1 : okR z[i].row ≠ 0 := by simpa using h1
        (simp -implicitDefEqProofs only [go_sem]; repeat (refine GO ?_; simp -implicitDefEqProofs only [go_sem]))
        refine FINmk [(0, none)] [(2, .rf 0 0 0), (3, iA 1)] [(0, so [])] [0] rfl ?_ ?_
        · (simp -implicitDefEqProofs only [go_sem, iA]; repeat (refine GO ?_; simp -implicitDefEqProofs only [go_sem, iA]))
          simp [so]
        · exact ⟨so [], ⟨⟨[], 1, rfl, rfl, .inl ⟨bad (by simp [okI, h1]), rfl, rfl⟩⟩, rfl⟩, so_leafy [], rfl⟩
      · have h1 : okR z[i].row = 0 := by simpa using h1
        (simp -implicitDefEqProofs only [go_sem]; repeat (refine GO ?_; simp -implicitDefEqProofs only [go_sem]))
        refine EL.map h ?_
        (simp -implicitDefEqProofs only [go_sem, It.c, iA]; repeat (refine GO ?_; simp -implicitDefEqProofs only [go_sem, It.c, iA]))
        refine .pure _ (s53 z[i].w (-72057594037927936) 72057594037927936) rfl fun q hq _ => ?_
        subst hq
        (simp -implicitDefEqProofs only [go_sem, bA]; repeat (refine GO ?_; simp -implicitDefEqProofs only [go_sem, bA]))
        refine VIF.split (fun h3 => ?_) (fun h3 => ?_)
        · have h3 : okW z[i].w = false := by simpa [okW] using h3
          (simp -implicitDefEqProofs only [go_sem]; repeat (refine GO ?_; simp -implicitDefEqProofs only [go_sem]))
          refine FINmk [(0, none)] [(2, .rf 0 0 0), (3, iA 1)] [(0, so [])] [0] rfl ?_ ?_
          · (simp -implicitDefEqProofs only [go_sem, iA]; repeat (refine GO ?_; simp -implicitDefEqProofs only [go_sem, iA]))
            simp [so]
          · exact ⟨so [], ⟨⟨[], 1, rfl, rfl, .inl ⟨bad (by simp [okI, h3]), rfl, rfl⟩⟩, rfl⟩, so_leafy [], rfl⟩
        · have h3 : okW z[i].w = true := by simpa [okW] using h3
          (simp -implicitDefEqProofs only [go_sem, w3]; repeat (refine GO ?_; simp -implicitDefEqProofs only [go_sem, w3]))
          refine BACK.mk ⟨i + 1, by omega, fun j hj hji => ?_⟩ [] rfl rfl (by show z.length - (i + 1) < z.length - i; omega) ?_
          · by_cases e : j = i
            · subst e; simp [okI, h1, h3]
            · exact hg j hj (by omega)
          · (simp -implicitDefEqProofs only [go_sem, setA, iA, w3]; repeat (refine GO ?_; simp -implicitDefEqProofs only [go_sem, setA, iA, w3]))
            exact id
    · have h : i = z.length := by simp at h; omega
      have hbad : (z.any fun t => !okI t) = false := by
        rw [List.any_eq_false]; intro t ht
        obtain ⟨j, hj, rfl⟩ := List.mem_iff_getElem.1 ht
        simp [hg j hj (by omega)]
      (simp -implicitDefEqProofs only [go_sem]; repeat (refine GO ?_; simp -implicitDefEqProofs only [go_sem]))
      refine .pure _ (s54 _ z (Nat.le_refl _) hl (fun t ht => by have := hr t ht; omega)) rfl fun q hq _ => ?_
      obtain ⟨y, rfl, hp, hsr⟩ := hq
      have hs := hsr.sr
      have hlen := hp.length_eq
      have hry : ∀ t ∈ y, t.row.length < 1073741824 := fun t ht => hr t (hp.mem_iff.1 ht)
      have hok : ∀ t ∈ y, okI t = true := fun t ht => by
        have h1 : ∀ u ∈ z, okI u = true := by simpa using hbad
        exact h1 t (hp.mem_iff.1 ht)
      (simp -implicitDefEqProofs only [go_sem, setA]; repeat (refine GO ?_; simp -implicitDefEqProofs only [go_sem, setA]))
      refine LOOP.mk (ι := { p : Nat × List It × Bool // OS y p.1 p.2.1 p.2.2 }) (fun p => mkS [(5, setA y), (6, .rf 1000 0 p.1.2.1.length), (7, bA p.1.2.2), (8, iA p.1.1)] [(1000, so p.1.2.1)] [1000])
        (fun p => y.length - p.1.1) ⟨(0, [], false), Nat.zero_le _, Nat.le_refl _, fun _ => .start y, fun h => absurd h (by decide)⟩ [(1000, none)] rfl rfl ?_ (fun p => ?_)
      · (simp -implicitDefEqProofs only [go_sem, setA, bA, iA, so]; repeat (refine GO ?_; simp -implicitDefEqProofs only [go_sem, setA, bA, iA, so]))
        exact ⟨id, rfl, rfl⟩
      · obtain ⟨⟨off, out, ov⟩, os⟩ := p
        have hle := os.le
        have hol := os.len
        simp only at hle hol
        (simp -implicitDefEqProofs only [go_sem, setA, bA, iA, so]; repeat (refine GO ?_; simp -implicitDefEqProofs only [go_sem, setA, bA, iA, so]))
        refine VIF.split (fun h1 => ?_) (fun h1 => ?_)
        · have h0 : off < y.length := by simpa using h1
          (simp -implicitDefEqProofs only [go_sem]; repeat (refine GO ?_; simp -implicitDefEqProofs only [go_sem]))
          refine LOOP.join (ι := { q : Nat × Int × Int // TJ y off q.1 q.2.1 q.2.2 ∧ Run y off (off + q.1) })
            (fun q => mkS [(5, setA y), (6, .rf 1000 0 out.length), (7, bA ov), (8, iA off), (9, iA q.1.2.1), (10, iA q.1.2.2), (11, iA (off + q.1.1 : Nat))] [(1000, so out)] [1000]) ?_ (fun q => ?_)
          · refine LOOP.mk (ι := { q : Nat × Int × Int // TJ y off q.1 q.2.1 q.2.2 })
              (fun q => mkS [(5, setA y), (6, .rf 1000 0 out.length), (7, bA ov), (8, iA off), (9, iA q.1.2.1), (10, iA q.1.2.2), (11, iA (off + q.1.1 : Nat))] [(1000, so out)] [1000])
              (fun q => y.length - off - q.1.1) ⟨(0, 0, 0), .start hle⟩ [(1000, some 1000)] rfl rfl ?_ (fun q => ?_)
            · (simp -implicitDefEqProofs only [go_sem, setA, bA, iA, so]; repeat (refine GO ?_; simp -implicitDefEqProofs only [go_sem, setA, bA, iA, so]))
              exact ⟨id, .same (so out) _ _ (so_leafy out) rfl⟩
            · obtain ⟨⟨i, h, l⟩, ti⟩ := q
              simp only at ti
              have til := ti.le
              (simp -implicitDefEqProofs only [go_sem, setA, bA, iA, so]; repeat (refine GO ?_; simp -implicitDefEqProofs only [go_sem, setA, bA, iA, so]))
              refine VIF.split (fun h2 => ?_) (fun h2 => ?_)
              · have hi : off + i < y.length := by simp at h2; omega
                (simp -implicitDefEqProofs only [go_sem]; repeat (refine GO ?_; simp -implicitDefEqProofs only [go_sem]))
                refine EL.map hi ?_
                (simp -implicitDefEqProofs only [go_sem, It.c]; repeat (refine GO ?_; simp -implicitDefEqProofs only [go_sem, It.c]))
                refine EL.map h0 ?_
                (simp -implicitDefEqProofs only [go_sem, It.c]; repeat (refine GO ?_; simp -implicitDefEqProofs only [go_sem, It.c]))
                refine .pure _ (s55 y[off + i].row y[off].row (by have := hry _ (List.getElem_mem hi); omega) (by have := hry _ (List.getElem_mem h0); omega)) rfl fun q hq _ => ?_
                subst hq
                (simp -implicitDefEqProofs only [go_sem, iA]; repeat (refine GO ?_; simp -implicitDefEqProofs only [go_sem, iA]))
                refine VIF.split (fun h3 => ?_) (fun h3 => ?_)
                · have h3 : cI y[off + i] y[off] = 0 := by simpa [cI] using h3
                  have hbb : i ≤ 1048576 := by omega
                  have hb1 := ti.hb
                  have hb2 := ti.lb
                  have hoi := hok y[off + i] (List.getElem_mem hi)
                  have hwi : okW y[off + i].w = true := by
                    simp only [okI, Bool.and_eq_true] at hoi; exact hoi.2
                  have hwl := okW_le hwi
                  have w1 : IntKind.i64.wrap (h + y[off + i].w / 4294967296) = h + y[off + i].w / 4294967296 := by rw [wrap_i64] <;> omega
                  have w2 : IntKind.i64.wrap (l + y[off + i].w % 4294967296) = l + y[off + i].w % 4294967296 := by rw [wrap_i64] <;> omega
                  have w3 := wrap_add1 (show off + i < 4611686018427387904 by omega)
                  (simp -implicitDefEqProofs only [go_sem]; repeat (refine GO ?_; simp -implicitDefEqProofs only [go_sem]))
                  refine EL.map hi ?_
                  (simp -implicitDefEqProofs only [go_sem, It.c, iA, shr32]; repeat (refine GO ?_; simp -implicitDefEqProofs only [go_sem, It.c, iA, shr32]))
                  refine ⟨by decide, EL.map hi ?_⟩
                  (simp -implicitDefEqProofs only [go_sem, It.c, iA, and_mask32, shr32, w1, w2, w3]; repeat (refine GO ?_; simp -implicitDefEqProofs only [go_sem, It.c, iA, and_mask32, shr32, w1, w2, w3]))
                  refine BACK.mk ⟨(i + 1, h + y[off + i].w / 4294967296, l + y[off + i].w % 4294967296), ti.step hi (fun _ => h3) hwi⟩ [(1000, some 1000)] rfl rfl (by show y.length - off - (i + 1) < y.length - off - i; omega) ?_
                  (simp -implicitDefEqProofs only [go_sem, setA, bA, iA, so, w1, w2, w3]; repeat (refine GO ?_; simp -implicitDefEqProofs only [go_sem, setA, bA, iA, so, w1, w2, w3]))
                  exact ⟨id, rfl, .same (so out) _ _ (so_leafy out) rfl⟩
                · have h3 : cI y[off + i] y[off] ≠ 0 := by simpa [cI] using h3
                  (simp -implicitDefEqProofs only [go_sem]; repeat (refine GO ?_; simp -implicitDefEqProofs only [go_sem]))
                  refine JB.mk ⟨(i, h, l), ti, ti.run h0 (fun hi => h3)⟩ [(1000, some 1000)] rfl rfl ?_
                  (simp -implicitDefEqProofs only [go_sem, setA, bA, iA, so]; repeat (refine GO ?_; simp -implicitDefEqProofs only [go_sem, setA, bA, iA, so]))
                  exact ⟨id, .same (so out) _ _ (so_leafy out) rfl⟩
              · have hi : off + i = y.length := by simp at h2; omega
                (simp -implicitDefEqProofs only [go_sem]; repeat (refine GO ?_; simp -implicitDefEqProofs only [go_sem]))
                refine JB.mk ⟨(i, h, l), ti, ti.run h0 (fun hi => by omega)⟩ [(1000, some 1000)] rfl rfl ?_
                (simp -implicitDefEqProofs only [go_sem, setA, bA, iA, so]; repeat (refine GO ?_; simp -implicitDefEqProofs only [go_sem, setA, bA, iA, so]))
                exact ⟨id, .same (so out) _ _ (so_leafy out) rfl⟩
          · obtain ⟨⟨i, h, l⟩, ti, ru⟩ := q
            simp only at ti ru
            have hbb : i ≤ 1048576 := by have := ti.le; omega
            have hb1 := ti.hb
            have hb2 := ti.lb
            have hoff : off + i - off = i := by omega
            have hsum := ti.sum
            have hlt2 := ru.lt
            have w1 : IntKind.i64.wrap (h + l / 4294967296) = h + l / 4294967296 := by rw [wrap_i64] <;> omega
            have ov1 : okW (h * 4294967296 + l) = false → OS y (off + i) out true := fun hb => os.over hs ru h0 (by rw [hoff, ← hsum]; exact hb)
            have ok1 := fun hb : okW (h * 4294967296 + l) = true => os.fine hs ru h0 (by rw [hoff, ← hsum]; exact hb)
            rw [hoff, ← hsum] at ok1
            (simp -implicitDefEqProofs only [go_sem, setA, bA, iA, so, shr32, and_mask32, w1]; repeat (refine GO ?_; simp -implicitDefEqProofs only [go_sem, setA, bA, iA, so, shr32, and_mask32, w1]))
            refine ⟨by decide, GO ?_⟩
            (simp -implicitDefEqProofs only [go_sem]; repeat (refine GO ?_; simp -implicitDefEqProofs only [go_sem]))
            refine .pure _ (s53 (h + l / 4294967296) (-33554432) 33554432) rfl fun q hq _ => ?_
            subst hq
            (simp -implicitDefEqProofs only [go_sem, bA]; repeat (refine GO ?_; simp -implicitDefEqProofs only [go_sem, bA]))
            refine VIF.split (fun h3 => ?_) (fun h3 => ?_)
            · have hb : okW (h * 4294967296 + l) = false := by simp [inB] at h3; simp [okW, inB]; omega
              (simp -implicitDefEqProofs only [go_sem]; repeat (refine GO ?_; simp -implicitDefEqProofs only [go_sem]))
              refine BACK.mk ⟨(off + i, out, true), ov1 hb⟩ [(1000, some 1000)] rfl rfl (by show y.length - (off + i) < y.length - off; omega) ?_
              (simp -implicitDefEqProofs only [go_sem, setA, bA, iA, so]; repeat (refine GO ?_; simp -implicitDefEqProofs only [go_sem, setA, bA, iA, so]))
              exact ⟨id, .same (so out) _ _ (so_leafy out) rfl⟩
            · have hin : -33554432 ≤ h + l / 4294967296 ∧ h + l / 4294967296 ≤ 33554432 := by simpa [inB] using h3
              have w2 : IntKind.i64.wrap ((h + l / 4294967296) * 4294967296) = (h + l / 4294967296) * 4294967296 := by rw [wrap_i64] <;> omega
              have w3 : IntKind.i64.wrap ((h + l / 4294967296) * 4294967296 + l % 4294967296) = h * 4294967296 + l := by rw [wrap_i64] <;> omega
              (simp -implicitDefEqProofs only [go_sem, shl32, w2, w3]; repeat (refine GO ?_; simp -implicitDefEqProofs only [go_sem, shl32, w2, w3]))
              refine ⟨by decide, GO ?_⟩
              (simp -implicitDefEqProofs only [go_sem]; repeat (refine GO ?_; simp -implicitDefEqProofs only [go_sem]))
              refine .pure _ (s53 (h * 4294967296 + l) (-72057594037927936) 72057594037927936) rfl fun q hq _ => ?_
              subst hq
              (simp -implicitDefEqProofs only [go_sem, bA]; repeat (refine GO ?_; simp -implicitDefEqProofs only [go_sem, bA]))
              refine VIF.split (fun h4 => ?_) (fun h4 => ?_)
              · have hb : okW (h * 4294967296 + l) = false := by simpa [okW] using h4
                (simp -implicitDefEqProofs only [go_sem]; repeat (refine GO ?_; simp -implicitDefEqProofs only [go_sem]))
                refine BACK.mk ⟨(off + i, out, true), ov1 hb⟩ [(1000, some 1000)] rfl rfl (by show y.length - (off + i) < y.length - off; omega) ?_
                (simp -implicitDefEqProofs only [go_sem, setA, bA, iA, so]; repeat (refine GO ?_; simp -implicitDefEqProofs only [go_sem, setA, bA, iA, so]))
                exact ⟨id, .same (so out) _ _ (so_leafy out) rfl⟩
              · have hk : okW (h * 4294967296 + l) = true := by simpa [okW] using h4
                have os2 := ok1 hk
                (simp -implicitDefEqProofs only [go_sem]; repeat (refine GO ?_; simp -implicitDefEqProofs only [go_sem]))
                refine VIF.split (fun h5 => ?_) (fun h5 => ?_)
                · have h5 : h * 4294967296 + l ≠ 0 := by simpa using h5
                  rw [if_neg h5] at os2
                  (simp -implicitDefEqProofs only [go_sem]; repeat (refine GO ?_; simp -implicitDefEqProofs only [go_sem]))
                  refine EL.map h0 ?_
                  (simp -implicitDefEqProofs only [go_sem, It.c]; repeat (refine GO ?_; simp -implicitDefEqProofs only [go_sem, It.c]))
                  refine .make 102 _ (s52 y[off].row (by have := hry _ (List.getElem_mem h0); omega)) rfl (by simp) rfl fun q o hq _ => ?_
                  obtain ⟨rfl, rfl⟩ := hq
                  (simp -implicitDefEqProofs only [go_sem]; repeat (refine GO ?_; simp -implicitDefEqProofs only [go_sem]))
                  refine ⟨by omega, ?_⟩
                  (simp -implicitDefEqProofs only [go_sem]; repeat (refine GO ?_; simp -implicitDefEqProofs only [go_sem]))
                  refine BACK.mk ⟨(off + i, out ++ [⟨y[off].row, h * 4294967296 + l⟩], ov), os2⟩ [(1000, some 106)] rfl rfl (by show y.length - (off + i) < y.length - off; omega) ?_
                  (simp -implicitDefEqProofs only [go_sem, setA, bA, iA, so]; repeat (refine GO ?_; simp -implicitDefEqProofs only [go_sem, setA, bA, iA, so]))
                  refine ⟨id, by simp, ?_⟩
                  rw [List.map_append, show List.take out.length (List.map It.c out) = List.map It.c out from List.take_of_length_le (by simp)]
                  refine Es_snoc (fun x hx a ha => so_leafy out x hx a ha) ?_
                  (simp -implicitDefEqProofs only [go_sem, It.c, rowA, iA]; repeat (refine GO ?_; simp -implicitDefEqProofs only [go_sem, It.c, rowA, iA]))
                  exact ⟨by decide, _, rfl, ro3_leafy _, rfl, List.take_of_length_le (by simp [ro3])⟩
                · have h5 : h * 4294967296 + l = 0 := by simpa using h5
                  rw [if_pos h5] at os2
                  (simp -implicitDefEqProofs only [go_sem]; repeat (refine GO ?_; simp -implicitDefEqProofs only [go_sem]))
                  refine BACK.mk ⟨(off + i, out, ov), os2⟩ [(1000, some 1000)] rfl rfl (by show y.length - (off + i) < y.length - off; omega) ?_
                  (simp -implicitDefEqProofs only [go_sem, setA, bA, iA, so]; repeat (refine GO ?_; simp -implicitDefEqProofs only [go_sem, setA, bA, iA, so]))
                  exact ⟨id, .same (so out) _ _ (so_leafy out) rfl⟩
        · have h1 : off = y.length := by simp at h1; omega
          subst h1
          (simp -implicitDefEqProofs only [go_sem]; repeat (refine GO ?_; simp -implicitDefEqProofs only [go_sem]))
          refine VIF.split (fun h2 => ?_) (fun h2 => ?_)
          · obtain ⟨r, hr2⟩ := os.bad h2
            (simp -implicitDefEqProofs only [go_sem]; repeat (refine GO ?_; simp -implicitDefEqProofs only [go_sem]))
            refine FINmk [(0, none)] [(2, .rf 0 0 0), (3, iA 11)] [(0, so [])] [0] rfl ?_ ?_
            · (simp -implicitDefEqProofs only [go_sem, iA]; repeat (refine GO ?_; simp -implicitDefEqProofs only [go_sem, iA]))
              simp [so]
            · exact ⟨so [], ⟨⟨[], 11, rfl, rfl, .inr (.inl ⟨hbad, rfl, rfl, r, by rw [← tot_perm hp]; exact hr2⟩)⟩, rfl⟩, so_leafy [], rfl⟩
          · have g := os.gi h2
            have hgt := g.tot
            rw [List.take_length] at hgt
            (simp -implicitDefEqProofs only [go_sem]; repeat (refine GO ?_; simp -implicitDefEqProofs only [go_sem]))
            refine FINmk [(0, some 1000)] [(2, .rf 0 0 out.length), (3, iA 0)] [(0, so out)] [0] rfl ?_ ?_
            · (simp -implicitDefEqProofs only [go_sem, iA, so]; repeat (refine GO ?_; simp -implicitDefEqProofs only [go_sem, iA, so]))
              exact .same (so out) _ _ (so_leafy out) rfl
            · refine ⟨so out, ⟨⟨out, 0, rfl, rfl, .inr (.inr ⟨hbad, rfl, g.made, fun r => (hgt r).trans (tot_perm hp), fun t ht => ?_, by omega⟩)⟩, rfl⟩, so_leafy out, rfl⟩
              obtain ⟨u, hu, e⟩ := g.src t ht
              have := hok u hu
              refine ⟨?_, u, hp.mem_iff.1 hu, e⟩
              rw [← e]
              simp [okI] at this
              exact this.1
end Yt
namespace Yt
open Go Go.Vc Go.Proofs
set_option maxRecDepth 10000
set_option maxHeartbeats 4000000
set_option linter.unusedSimpArgs false
set_option linter.unusedVariables false
def AddR (a b out : List It) (err : Int) : Prop := (¬ (Good a ∧ Good b) ∧ out = [] ∧ err = 1) ∨ (Good a ∧ Good b ∧ MakeR (a ++ b) out err)
theorem s23 (a b : List It) (hl : a.length + b.length ≤ 1048576) (ha : ∀ t ∈ a, t.row.length < 1073741824) (hb : ∀ t ∈ b, t.row.length < 1073741824) :
    Spec1 Try.prog 47 [setA a, setA b] (fun r o => ∃ (out : List It) (err : Int), r = .tu [.rf 0 0 out.length, iA err] ∧ o = so out ∧ AddR a b out err) := by
  refine spec1_of_vc tabOk elems ord47 Try.func47 rfl (rl := [.tmp 4, .tmp 5]) rfl (by kernel_rfl) rfl ?_
  (simp -implicitDefEqProofs only [go_sem, setA]; repeat (refine GO ?_; simp -implicitDefEqProofs only [go_sem, setA]))
  refine .pure _ (s16 a (by omega) (fun t ht => by have := ha t ht; omega)) rfl fun q hq _ => ?_
  obtain ⟨e1, rfl, _, h1⟩ := hq
  have bad : ∀ s : St, s.regs 4 = .nl → s.regs 5 = .pr (.int .i64 1) → ¬ (Good a ∧ Good b) → FIN T noOb [.tmp 4, .tmp 5] (fun r O' => ∃ o, ((∃ (out : List It) (err : Int), r = .tu [.rf 0 0 out.length, iA err] ∧ o = so out ∧ AddR a b out err) ∧ r.only0 = true) ∧ o.leafy ∧ O' = upd noOb 0 (some o)) s := by
    intro s h4 h5 hn
    refine FINmk [(0, none)] [(4, .rf 0 0 0), (5, iA 1)] [(0, so [])] [0] rfl ?_ ?_
    · (simp -implicitDefEqProofs only [go_sem, iA, h4, h5]; repeat (refine GO ?_; simp -implicitDefEqProofs only [go_sem, iA, h4, h5]))
      simp [so]
    · exact ⟨so [], ⟨⟨[], 1, rfl, rfl, .inl ⟨hn, rfl, rfl⟩⟩, rfl⟩, so_leafy [], rfl⟩
  (simp -implicitDefEqProofs only [go_sem, iA]; repeat (refine GO ?_; simp -implicitDefEqProofs only [go_sem, iA]))
  refine VIF.split (fun h => ?_) (fun h => ?_)
  · have h : e1 ≠ 0 := by simpa using h
    (simp -implicitDefEqProofs only [go_sem]; repeat (refine GO ?_; simp -implicitDefEqProofs only [go_sem]))
    exact bad _ rfl rfl fun g => h (h1.2 g.1)
  · have h : e1 = 0 := by simpa using h
    have h1 := h1.1 h
    (simp -implicitDefEqProofs only [go_sem]; repeat (refine GO ?_; simp -implicitDefEqProofs only [go_sem]))
    refine .pure _ (s16 b (by omega) (fun t ht => by have := hb t ht; omega)) rfl fun q hq _ => ?_
    obtain ⟨e2, rfl, _, h2⟩ := hq
    (simp -implicitDefEqProofs only [go_sem, iA]; repeat (refine GO ?_; simp -implicitDefEqProofs only [go_sem, iA]))
    refine VIF.split (fun h => ?_) (fun h => ?_)
    · have h : e2 ≠ 0 := by simpa using h
      (simp -implicitDefEqProofs only [go_sem]; repeat (refine GO ?_; simp -implicitDefEqProofs only [go_sem]))
      exact bad _ rfl rfl fun g => h (h2.2 g.2)
    · have h : e2 = 0 := by simpa using h
      have h2 := h2.1 h
      simp -implicitDefEqProofs only [go_sem]
      refine GO ?_
      simp -implicitDefEqProofs only [go_sem]
      refine TO [] [(16, setsA [a, b])] [] [] rfl ?_ ?_
      · (simp -implicitDefEqProofs only [go_sem, setsA, setA]; repeat (refine GO ?_; simp -implicitDefEqProofs only [go_sem, setsA, setA]))
        exact ⟨id, by decide, _, rfl, by simp [Ob.leafy, AV.leaf], rfl, rfl⟩
      simp -implicitDefEqProofs only [go_sem, setsA]
      have hcat : cat [a, b] = a ++ b := by simp [cat]
      refine .make 17 _ (s51 [a, b] (by simp) (by rw [hcat]; simpa using hl)) rfl (by simp) rfl fun q o hq hlf => ?_
      rw [hcat] at hq
      obtain ⟨rfl, hsz, hes⟩ := hq
      simp -implicitDefEqProofs only [go_sem]
      refine TO [] [(17, setA (a ++ b))] [] [] rfl ?_ ?_
      · (simp -implicitDefEqProofs only [go_sem, setA]; repeat (refine GO ?_; simp -implicitDefEqProofs only [go_sem, setA]))
        exact ⟨id, by decide, _, rfl, hlf, hsz, hes⟩
      (simp -implicitDefEqProofs only [go_sem, setA]; repeat (refine GO ?_; simp -implicitDefEqProofs only [go_sem, setA]))
      refine .make 18 _ (s11 (a ++ b) (by simpa using hl) (fun t ht => by rcases List.mem_append.1 ht with h | h; exact ha t h; exact hb t h)) rfl (by simp) rfl fun q o hq _ => ?_
      obtain ⟨out, err, rfl, rfl, hm⟩ := hq
      (simp -implicitDefEqProofs only [go_sem, iA]; repeat (refine GO ?_; simp -implicitDefEqProofs only [go_sem, iA]))
      refine FINmk [(0, some 18)] [(4, .rf 0 0 out.length), (5, iA err)] [(0, so out)] [0] rfl ?_ ?_
      · (simp -implicitDefEqProofs only [go_sem, so, iA]; repeat (refine GO ?_; simp -implicitDefEqProofs only [go_sem, so, iA]))
        exact .same (so out) _ _ (so_leafy out) rfl
      · exact ⟨so out, ⟨⟨out, err, rfl, rfl, .inr ⟨h1, h2, hm⟩⟩, rfl⟩, so_leafy out, rfl⟩
end Yt
namespace Yt
open Go Go.Vc Go.Proofs
set_option maxRecDepth 10000
set_option maxHeartbeats 4000000
set_option linter.unusedSimpArgs false
set_option linter.unusedVariables false
theorem made_okW {o : List It} (h : Made o) (r : List V) : okW (tot r o) = true := by
  by_cases hn : tot r o = 0
  · rw [hn]; simp [okW, inB]
  · obtain ⟨t, ht, rfl⟩ := (tot_there h r).1 hn
    rw [tot_made h ht]; exact (h.nz t ht).2
theorem makeR_bad {z out : List It} {err : Int} (h : MakeR z out err) (hb : (z.any fun t => !okI t) = true) : out = [] ∧ err = 1 := by
  rcases h with ⟨_, h⟩ | ⟨h, _⟩ | ⟨h, _⟩
  · exact h
  · rw [hb] at h; cases h
  · rw [hb] at h; cases h
theorem makeR_over {z out : List It} {err : Int} (h : MakeR z out err) (hb : (z.any fun t => !okI t) = false) {r : List V} (hr : okW (tot r z) = false) : out = [] ∧ err = 11 := by
  rcases h with ⟨h, _⟩ | ⟨_, h1, h2, _⟩ | ⟨_, _, hm, ht, _⟩
  · rw [hb] at h; cases h
  · exact ⟨h1, h2⟩
  · rw [← ht r, made_okW hm r] at hr; cases hr
theorem makeR_ok {z out o : List It} {err : Int} (h : MakeR z out err) (hb : (z.any fun t => !okI t) = false) (ho : Made o) (hr : ∀ r, tot r o = tot r z) : out = o ∧ err = 0 := by
  rcases h with ⟨h, _⟩ | ⟨_, h1, h2, r, h3⟩ | ⟨_, h1, hm, ht, _⟩
  · rw [hb] at h; cases h
  · rw [← hr r, made_okW ho r] at h3; cases h3
  · exact ⟨made_eq hm ho fun r => (ht r).trans (hr r).symm, h1⟩
def r1 : List V := [⟨3, 1, ByteArray.empty⟩]
end Yt
namespace Yt
open Go Go.Vc Go.Proofs
set_option maxRecDepth 10000
set_option maxHeartbeats 8000000
set_option linter.unusedSimpArgs false
set_option linter.unusedVariables false
theorem makeR_fine {z out : List It} {err : Int} (h : MakeR z out err) (hb : (z.any fun t => !okI t) = false) (hr : ∀ r, okW (tot r z) = true) :
    err = 0 ∧ Made out ∧ (∀ r, tot r out = tot r z) ∧ (∀ t ∈ out, okR t.row = 0 ∧ ∃ u ∈ z, u.row = t.row) ∧ out.length ≤ z.length := by
  rcases h with ⟨h, _⟩ | ⟨_, _, _, r, h⟩ | ⟨_, h1, hm, ht, h2⟩
  · rw [hb] at h; cases h
  · rw [hr r] at h; cases h
  · exact ⟨h1, hm, ht, h2⟩
theorem tot_bound {z : List It} {k : Int} (hk : 0 ≤ k) (h : ∀ t ∈ z, -k ≤ t.w ∧ t.w ≤ k) (r : List V) : -(k * z.length) ≤ tot r z ∧ tot r z ≤ k * z.length := by
  induction z with
  | nil => simp [tot]
  | cons t z ih =>
    have h1 := h t (by simp)
    have h2 := ih fun u hu => h u (by simp [hu])
    have e : k * ((t :: z).length : Int) = k + k * (z.length : Int) := by
      rw [List.length_cons, Int.natCast_add, Int.mul_add]; omega
    rw [e]
    simp only [tot]
    split <;> omega
def redI (k : Int) (t : It) : It := ⟨t.row, t.w.tmod k⟩
def okB (t : It) : Bool := decide (okR t.row = 0)
def inp (k : Int) (l : List It) : List It := (l.filter okB).map (redI k)
end Yt
namespace Yt
open Go Go.Vc Go.Proofs
set_option maxRecDepth 10000
set_option maxHeartbeats 8000000
set_option linter.unusedSimpArgs false
set_option linter.unusedVariables false
@[go_sem] theorem cells_rowA {r : List V} {K : List AV → Prop} : cellsOf (rowA r) K = K [rowA r] := rfl
structure Tm (l z : List It) : Prop where
  made : Made z
  tot : ∀ r, tot r z = Yt.tot r (inp 100 (l.take 60))
  rows : ∀ t ∈ z, okR t.row = 0 ∧ ∃ u ∈ l, u.row = t.row
  len : z.length ≤ 60
  small : ∀ t ∈ z, -5940 ≤ t.w ∧ t.w ≤ 5940
theorem Tm.good {l z : List It} (h : Tm l z) : Good z := good_made.2 ⟨h.made, fun t ht => (h.rows t ht).1⟩
end Yt
namespace Yt
open Go Go.Vc Go.Proofs
set_option maxRecDepth 10000
set_option maxHeartbeats 8000000
set_option linter.unusedSimpArgs false
set_option linter.unusedVariables false
def mulI (n : Int) (t : It) : It := ⟨t.row, n * t.w⟩
theorem tot_mul (n : Int) (z : List It) (r : List V) : tot r (z.map (mulI n)) = n * tot r z := by
  induction z with
  | nil => simp [tot]
  | cons t z ih =>
    simp only [List.map_cons, tot, ih, mulI]
    split
    · rw [Int.mul_add]
    · rw [Int.zero_add, Int.zero_add]
theorem made_mul {n : Int} {z : List It} (hn : 0 < n) (hm : Made z) (hb : ∀ t ∈ z, okW (n * t.w) = true) : Made (z.map (mulI n)) := by
  refine ⟨?_, fun t ht => ?_⟩
  · rw [List.pairwise_map]
    exact hm.pw
  · obtain ⟨u, hu, rfl⟩ := List.mem_map.1 ht
    refine ⟨?_, hb u hu⟩
    exact Int.mul_ne_zero (by omega) (hm.nz u hu).1
end Yt
namespace Yt
open Go Go.Vc Go.Proofs
set_option maxRecDepth 10000
set_option maxHeartbeats 8000000
set_option linter.unusedSimpArgs false
set_option linter.unusedVariables false
theorem Es_refl {st : St} {m : List (Nat × Option Nat)} : ∀ {l : List (List AV)}, (∀ x ∈ l, ∀ a ∈ x, a.leaf = true) → Es st m l l := fun {l} h => .same ⟨0, []⟩ _ _ h rfl
theorem Es_set {st : St} {m : List (Nat × Option Nat)} : ∀ {l : List (List AV)} {i : Nat} {cs cs' : List AV}, (∀ x ∈ l, ∀ a ∈ x, a.leaf = true) → l[i]? = some cs' → wk.wks st m cs cs' → Es st m (l.set i cs) l
  | [], _, _, _, _, h, _ => by simp at h
  | x :: r, 0, cs, cs', hl, h, hw => by
    simp at h
    subst h
    exact .cons hw (Es_refl fun y hy => hl y (by simp [hy]))
  | x :: r, i + 1, cs, cs', hl, h, hw => .cons (wks_leaf (hl x (by simp))) (Es_set (fun y hy => hl y (by simp [hy])) (by simpa using h) hw)
theorem s57 (z : List It) (hl : z.length ≤ 1048576) (hr : ∀ t ∈ z, t.row.length < 1073741824) :
    Spec1 Try.prog 83 [setA z] (fun r o => r = .rf 0 0 z.length ∧ o = so z) := by
  refine spec1_of_vc tabOk elems ord83 Try.func83 rfl (rl := [.tmp 2]) rfl (by kernel_rfl) rfl ?_
  (simp -implicitDefEqProofs only [go_sem, setA]; repeat (refine GO ?_; simp -implicitDefEqProofs only [go_sem, setA]))
  refine .make 6 _ (s38 z (by omega)) rfl (by simp) rfl fun q o hq _ => ?_
  obtain ⟨rfl, rfl⟩ := hq
  (simp -implicitDefEqProofs only [go_sem]; repeat (refine GO ?_; simp -implicitDefEqProofs only [go_sem]))
  refine LOOP.mk (ι := { i : Nat // i ≤ z.length }) (fun p => mkS [(3, .rf 1000 0 z.length), (8, iA z.length), (9, iA p.1)] [(1000, so z)] [1000])
    (fun p => z.length - p.1) ⟨0, Nat.zero_le _⟩ [(1000, some 6)] rfl rfl ?_ (fun p => ?_)
  · (simp -implicitDefEqProofs only [go_sem, iA, so]; repeat (refine GO ?_; simp -implicitDefEqProofs only [go_sem, iA, so]))
    exact ⟨id, rfl, .same (so z) _ _ (so_leafy z) rfl⟩
  · obtain ⟨i, hi⟩ := p
    (simp -implicitDefEqProofs only [go_sem, iA, so]; repeat (refine GO ?_; simp -implicitDefEqProofs only [go_sem, iA, so]))
    refine VIF.split (fun h => ?_) (fun h => ?_)
    · have h : i < z.length := by simpa using h
      have w1 := wrap_add1 (show i < 4611686018427387904 by omega)
      (simp -implicitDefEqProofs only [go_sem]; repeat (refine GO ?_; simp -implicitDefEqProofs only [go_sem]))
      refine ⟨by omega, EL.map h ?_⟩
      (simp -implicitDefEqProofs only [go_sem, It.c]; repeat (refine GO ?_; simp -implicitDefEqProofs only [go_sem, It.c]))
      refine .make 19 _ (s43 z[i].row (by have := hr _ (List.getElem_mem h); omega)) rfl (by simp) rfl fun q o hq _ => ?_
      obtain ⟨rfl, rfl⟩ := hq
      (simp -implicitDefEqProofs only [go_sem, w1]; repeat (refine GO ?_; simp -implicitDefEqProofs only [go_sem, w1]))
      refine ⟨by omega, EL.map h ?_⟩
      (simp -implicitDefEqProofs only [go_sem, It.c, w1]; repeat (refine GO ?_; simp -implicitDefEqProofs only [go_sem, It.c, w1]))
      refine BACK.mk ⟨i + 1, by omega⟩ [(1000, some 1000)] rfl rfl (by show z.length - (i + 1) < z.length - i; omega) ?_
      (simp -implicitDefEqProofs only [go_sem, iA, so, w1]; repeat (refine GO ?_; simp -implicitDefEqProofs only [go_sem, iA, so, w1]))
      refine ⟨id, Es_set (so_leafy z) (show (z.map It.c)[i]? = some (It.c z[i]) by simp [h]) ?_⟩
      (simp -implicitDefEqProofs only [go_sem, It.c, rowA, iA]; repeat (refine GO ?_; simp -implicitDefEqProofs only [go_sem, It.c, rowA, iA]))
      exact ⟨by decide, _, rfl, ro3_leafy _, rfl, List.take_of_length_le (by simp [ro3])⟩
    · have h : i = z.length := by simp at h; omega
      (simp -implicitDefEqProofs only [go_sem]; repeat (refine GO ?_; simp -implicitDefEqProofs only [go_sem]))
      refine FINmk [(0, some 1000)] [(2, .rf 0 0 z.length)] [(0, so z)] [0] rfl ?_ ?_
      · (simp -implicitDefEqProofs only [go_sem, so]; repeat (refine GO ?_; simp -implicitDefEqProofs only [go_sem, so]))
        exact .same (so z) _ _ (so_leafy z) rfl
      · exact ⟨so z, ⟨⟨rfl, rfl⟩, rfl⟩, so_leafy z, rfl⟩
def negI (t : It) : It := ⟨t.row, -t.w⟩
theorem s31 (z : List It) (hl : z.length ≤ 1048576) (hr : ∀ t ∈ z, t.row.length < 1073741824) :
    Spec1 Try.prog 59 [setA z] (fun r o => ∃ (out : List It) (err : Int), r = .tu [.rf 0 0 out.length, iA err] ∧ o = so out ∧ ((¬ Good z ∧ out = [] ∧ err = 1) ∨ (Good z ∧ out = z.map negI ∧ err = 0))) := by
  refine spec1_of_vc tabOk elems ord59 Try.func59 rfl (rl := [.tmp 2, .tmp 3]) rfl (by kernel_rfl) rfl ?_
  (simp -implicitDefEqProofs only [go_sem, setA]; repeat (refine GO ?_; simp -implicitDefEqProofs only [go_sem, setA]))
  refine .pure _ (s16 z (by omega) (fun t ht => by have := hr t ht; omega)) rfl fun q hq _ => ?_
  obtain ⟨e, rfl, he, hg⟩ := hq
  (simp -implicitDefEqProofs only [go_sem, iA]; repeat (refine GO ?_; simp -implicitDefEqProofs only [go_sem, iA]))
  refine VIF.split (fun h => ?_) (fun h => ?_)
  · have h : e ≠ 0 := by simpa using h
    have h1 : e = 1 := by omega
    subst h1
    (simp -implicitDefEqProofs only [go_sem]; repeat (refine GO ?_; simp -implicitDefEqProofs only [go_sem]))
    refine FINmk [(0, none)] [(2, .rf 0 0 0), (3, iA 1)] [(0, so [])] [0] rfl ?_ ?_
    · (simp -implicitDefEqProofs only [go_sem, iA]; repeat (refine GO ?_; simp -implicitDefEqProofs only [go_sem, iA]))
      simp [so]
    · exact ⟨so [], ⟨⟨[], 1, rfl, rfl, .inl ⟨fun g => h (hg.2 g), rfl, rfl⟩⟩, rfl⟩, so_leafy [], rfl⟩
  · have h : e = 0 := by simpa using h
    have hg := hg.1 h
    (simp -implicitDefEqProofs only [go_sem]; repeat (refine GO ?_; simp -implicitDefEqProofs only [go_sem]))
    refine .make 13 _ (s57 z hl hr) rfl (by simp) rfl fun q o hq _ => ?_
    obtain ⟨rfl, rfl⟩ := hq
    (simp -implicitDefEqProofs only [go_sem]; repeat (refine GO ?_; simp -implicitDefEqProofs only [go_sem]))
    refine LOOP.mk (ι := { p : Nat × List It // p.1 ≤ z.length ∧ p.2.length = z.length ∧ ∀ j (h1 : j < p.2.length) (h2 : j < z.length), p.2[j] = if j < p.1 then negI z[j] else z[j] }) (fun p => mkS [(5, .rf 1000 0 z.length), (15, iA z.length), (16, iA p.1.1)] [(1000, so p.1.2)] [1000])
      (fun p => z.length - p.1.1) ⟨(0, z), Nat.zero_le _, rfl, fun j h1 h2 => by rw [if_neg (Nat.not_lt_zero _)]⟩ [(1000, some 13)] rfl rfl ?_ (fun p => ?_)
    · (simp -implicitDefEqProofs only [go_sem, iA, so]; repeat (refine GO ?_; simp -implicitDefEqProofs only [go_sem, iA, so]))
      exact ⟨id, rfl, .same (so z) _ _ (so_leafy z) rfl⟩
    · obtain ⟨⟨i, o⟩, hi, hol, hos⟩ := p
      simp only at hi hol hos
      (simp -implicitDefEqProofs only [go_sem, iA, so]; repeat (refine GO ?_; simp -implicitDefEqProofs only [go_sem, iA, so]))
      refine VIF.split (fun h => ?_) (fun h => ?_)
      · have h : i < z.length := by simpa using h
        have ho : i < o.length := by omega
        have hoi : o[i] = z[i] := by rw [hos i ho h, if_neg (Nat.lt_irrefl _)]
        have w1 := wrap_add1 (show i < 4611686018427387904 by omega)
        have hw := okW_le ((good_made.1 hg).1.nz _ (List.getElem_mem h)).2
        have w2 : IntKind.i64.wrap (0 - z[i].w) = -z[i].w := by rw [wrap_i64] <;> omega
        have w3 : IntKind.i64.wrap (0 - o[i].w) = -z[i].w := by rw [hoi]; exact w2
        (simp -implicitDefEqProofs only [go_sem]; repeat (refine GO ?_; simp -implicitDefEqProofs only [go_sem]))
        refine ⟨by omega, EL.map ho ?_⟩
        (simp -implicitDefEqProofs only [go_sem, It.c, iA, w1, w2, w3]; repeat (refine GO ?_; simp -implicitDefEqProofs only [go_sem, It.c, iA, w1, w2, w3]))
        refine ⟨by omega, EL.map ho ?_⟩
        (simp -implicitDefEqProofs only [go_sem, It.c, iA, w1]; repeat (refine GO ?_; simp -implicitDefEqProofs only [go_sem, It.c, iA, w1]))
        refine BACK.mk ⟨(i + 1, o.set i (negI z[i])), by omega, by simp [hol], fun j h1 h2 => ?_⟩ [(1000, some 1000)] rfl rfl (by show z.length - (i + 1) < z.length - i; omega) ?_
        · show (o.set i (negI z[i]))[j] = _
          rw [List.getElem_set]
          by_cases e1 : i = j
          · subst e1; rw [if_pos rfl, if_pos (by omega)]
          · rw [if_neg e1, hos j (by omega) h2]
            by_cases e2 : j < i
            · rw [if_pos e2, if_pos (by omega)]
            · rw [if_neg e2, if_neg (by omega)]
        (simp -implicitDefEqProofs only [go_sem, iA, so, w1]; repeat (refine GO ?_; simp -implicitDefEqProofs only [go_sem, iA, so, w1]))
        have e1 : (List.map It.c o).set i [rowA o[i].row, iA (-z[i].w)] = List.map It.c (o.set i (negI z[i])) := by
          rw [List.map_set, hoi]; rfl
        exact ⟨id, .same (so []) _ _ (fun x hx => so_leafy (o.set i (negI z[i])) x (by rw [so]; exact e1 ▸ hx)) e1⟩
      · have h : i = z.length := by simp at h; omega
        have ho : o = z.map negI := List.ext_getElem (by simp [hol]) fun j h1 h2 => by
          rw [hos j h1 (by omega), if_pos (by omega), List.getElem_map]
        (simp -implicitDefEqProofs only [go_sem]; repeat (refine GO ?_; simp -implicitDefEqProofs only [go_sem]))
        refine FINmk [(0, some 1000)] [(2, .rf 0 0 z.length), (3, iA 0)] [(0, so (z.map negI))] [0] rfl ?_ ?_
        · (simp -implicitDefEqProofs only [go_sem, so, iA]; repeat (refine GO ?_; simp -implicitDefEqProofs only [go_sem, so, iA]))
          rw [ho]
          exact .same (so (z.map negI)) _ _ (so_leafy (z.map negI)) rfl
        · exact ⟨so (z.map negI), ⟨⟨z.map negI, 0, by rw [List.length_map]; rfl, rfl, .inr ⟨hg, rfl, rfl⟩⟩, rfl⟩, so_leafy (z.map negI), rfl⟩
end Yt
namespace Yt
open Go Go.Vc Go.Proofs
set_option maxRecDepth 10000
set_option maxHeartbeats 8000000
set_option linter.unusedSimpArgs false
set_option linter.unusedVariables false
theorem tot_neg (z : List It) (r : List V) : tot r (z.map negI) = -tot r z := by
  induction z with
  | nil => simp [tot]
  | cons t z ih => simp only [List.map_cons, tot, ih, negI]; split <;> omega
theorem okW_neg {w : Int} (h : okW w = true) : okW (-w) = true := by simp [okW, inB] at h ⊢; omega
theorem made_neg {z : List It} (h : Made z) : Made (z.map negI) := by
  refine ⟨?_, fun t ht => ?_⟩
  · rw [List.pairwise_map]; exact h.pw
  · obtain ⟨u, hu, rfl⟩ := List.mem_map.1 ht
    have := h.nz u hu
    exact ⟨by simp only [negI]; omega, okW_neg this.2⟩
structure Sm (z : List It) (k : Nat) : Prop where
  made : Made z
  rows : ∀ t ∈ z, okR t.row = 0 ∧ t.row.length ≤ 40
  len : z.length ≤ 60 * k
  tot : ∀ r, -(356400 * (k : Int)) ≤ Yt.tot r z ∧ Yt.tot r z ≤ 356400 * k
theorem Sm.good {z : List It} {k : Nat} (h : Sm z k) : Good z := good_made.2 ⟨h.made, fun t ht => (h.rows t ht).1⟩
theorem Sm.add {x y out : List It} {i j : Nat} {err : Int} (hx : Sm x i) (hy : Sm y j) (hij : i + j ≤ 100) (h : AddR x y out err) : err = 0 ∧ Sm out (i + j) ∧ ∀ r, Yt.tot r out = Yt.tot r x + Yt.tot r y := by
  have hm : MakeR (x ++ y) out err := by
    rcases h with ⟨h, _⟩ | ⟨_, _, h⟩
    · exact absurd ⟨hx.good, hy.good⟩ h
    · exact h
  have hfine : ((x ++ y).any fun t => !okI t) = false := by
    rw [List.any_eq_false]; intro t ht
    rcases List.mem_append.1 ht with ht | ht
    · simp [okI, (hx.rows t ht).1, (hx.made.nz t ht).2]
    · simp [okI, (hy.rows t ht).1, (hy.made.nz t ht).2]
  have hb : ∀ r, -(356400 * ((i + j : Nat) : Int)) ≤ Yt.tot r (x ++ y) ∧ Yt.tot r (x ++ y) ≤ 356400 * ((i + j : Nat) : Int) := fun r => by
    have h1 := hx.tot r
    have h2 := hy.tot r
    rw [tot_append]; omega
  obtain ⟨h1, h2, h3, h4, h5⟩ := makeR_fine hm hfine fun r => by
    have := hb r
    simp only [okW, inB, Bool.and_eq_true, decide_eq_true_eq]; omega
  refine ⟨h1, ⟨h2, fun t ht => ?_, ?_, fun r => by rw [h3]; exact hb r⟩, fun r => by rw [h3, tot_append]⟩
  · obtain ⟨g1, u, hu, e⟩ := h4 t ht
    refine ⟨g1, ?_⟩
    rw [← e]
    rcases List.mem_append.1 hu with hu | hu
    · exact (hx.rows u hu).2
    · exact (hy.rows u hu).2
  · have h6 := hx.len; have h7 := hy.len
    rw [List.length_append] at h5; omega
theorem Sm.neg {x : List It} {i : Nat} (h : Sm x i) : Sm (x.map negI) i :=
  ⟨made_neg h.made, fun t ht => by obtain ⟨u, hu, rfl⟩ := List.mem_map.1 ht; exact h.rows u hu, by rw [List.length_map]; exact h.len, fun r => by rw [tot_neg]; have := h.tot r; omega⟩
end Yt
namespace Yt
open Go Go.Vc Go.Proofs
set_option maxRecDepth 10000
set_option maxHeartbeats 8000000
set_option linter.unusedSimpArgs false
set_option linter.unusedVariables false
end Yt
namespace Yt
open Go Go.Vc Go.Proofs
set_option maxRecDepth 10000
set_option maxHeartbeats 8000000
set_option linter.unusedSimpArgs false
set_option linter.unusedVariables false
structure Pr where
  kind : Int
  col : Int
  other : Int
  val : V
def Pr.c (p : Pr) : List AV := [.pr (.int .i64 p.kind), .pr (.int .i64 p.col), .pr (.int .i64 p.other), .pr (.int .i64 p.val.k), .pr (.int .i64 p.val.i), .pr (.string p.val.s)]
def inC (c n : Int) : Bool := decide (0 ≤ c) && decide (c < n)
theorem c99 (c n : Int) : Spec0 Try.prog 99 [iA c, iA n] (· = bA (inC c n)) := by
  refine spec0_of_vc tabOk elems ord99 Try.func99 rfl (rl := [.tmp 4]) rfl (by kernel_rfl) rfl ?_
  (simp -implicitDefEqProofs only [go_sem, iA]; repeat (refine GO ?_; simp -implicitDefEqProofs only [go_sem, iA]))
  refine VIF.split (fun h => ?_) (fun h => ?_)
  · (simp -implicitDefEqProofs only [go_sem]; repeat (refine GO ?_; simp -implicitDefEqProofs only [go_sem]))
    simp at h; simp [h, inC, bA]
  · (simp -implicitDefEqProofs only [go_sem]; repeat (refine GO ?_; simp -implicitDefEqProofs only [go_sem]))
    simp at h; simp [inC, bA]; intro; omega
def otherP (p : Pr) : Bool := decide (p.kind = 3) || decide (p.kind = 4)
theorem c100 (p : Pr) : Spec0 Try.prog 100 [.ag p.c] (· = bA (otherP p)) := by
  refine spec0_of_vc tabOk elems ord100 Try.func100 rfl (rl := [.tmp 2]) rfl (by kernel_rfl) rfl ?_
  (simp -implicitDefEqProofs only [go_sem, Pr.c]; repeat (refine GO ?_; simp -implicitDefEqProofs only [go_sem, Pr.c]))
  refine VIF.split (fun h => ?_) (fun h => ?_)
  · (simp -implicitDefEqProofs only [go_sem]; repeat (refine GO ?_; simp -implicitDefEqProofs only [go_sem]))
    simp at h; simp [h, otherP, bA]
  · (simp -implicitDefEqProofs only [go_sem]; repeat (refine GO ?_; simp -implicitDefEqProofs only [go_sem]))
    simp at h; simp [h, otherP, bA]
def getV (r : List V) (c : Int) : V := (r[c.toNat]?).getD ⟨0, 0, ByteArray.empty⟩
def holdsP (p : Pr) (r : List V) : Bool :=
  inC p.col r.length && !(otherP p && !inC p.other r.length) &&
    (if p.kind = 1 then decide (cmpV (getV r p.col) p.val = 0)
     else if p.kind = 2 then decide (cmpV (getV r p.col) p.val < 0)
     else if p.kind = 3 then decide (cmpV (getV r p.col) (getV r p.other) = 0)
     else if p.kind = 4 then decide (cmpV (getV r p.col) (getV r p.other) < 0)
     else if p.kind = 5 then decide ((getV r p.col).k = 1)
     else if p.kind = 6 then !decide ((getV r p.col).k = 1)
     else false)
theorem c60 (p : Pr) (r : List V) (hr : r.length < 4611686018427387904) : Spec0 Try.prog 60 [.ag p.c, rowA r] (· = bA (holdsP p r)) := by
  refine spec0_of_vc tabOk elems ord60 Try.func60 rfl (rl := [.tmp 4]) rfl (by kernel_rfl) rfl ?_
  (simp -implicitDefEqProofs only [go_sem, Pr.c, rowA]; repeat (refine GO ?_; simp -implicitDefEqProofs only [go_sem, Pr.c, rowA]))
  refine .pure _ (c99 p.col r.length) rfl fun q hq _ => ?_
  subst hq
  (simp -implicitDefEqProofs only [go_sem, bA]; repeat (refine GO ?_; simp -implicitDefEqProofs only [go_sem, bA]))
  refine VIF.split (fun h => ?_) (fun h => ?_)
  · have h : inC p.col r.length = false := by simpa using h
    (simp -implicitDefEqProofs only [go_sem]; repeat (refine GO ?_; simp -implicitDefEqProofs only [go_sem]))
    simp [holdsP, h, bA]
  · have h : inC p.col r.length = true := by simpa using h
    have hc : 0 ≤ p.col ∧ p.col.toNat < r.length := by simp [inC] at h; omega
    have hcv : getV r p.col = r[p.col.toNat]'hc.2 := by simp [getV, hc.2]
    (simp -implicitDefEqProofs only [go_sem]; repeat (refine GO ?_; simp -implicitDefEqProofs only [go_sem]))
    refine .pure _ (c100 p) rfl fun q hq _ => ?_
    subst hq
    (simp -implicitDefEqProofs only [go_sem, bA]; repeat (refine GO ?_; simp -implicitDefEqProofs only [go_sem, bA]))
    refine VIF.split (fun g => ?_) (fun g => ?_)
    · (simp -implicitDefEqProofs only [go_sem]; repeat (refine GO ?_; simp -implicitDefEqProofs only [go_sem]))
      refine .pure _ (c99 p.other r.length) rfl fun q hq _ => ?_
      subst hq
      (simp -implicitDefEqProofs only [go_sem, bA]; repeat (refine GO ?_; simp -implicitDefEqProofs only [go_sem, bA]))
      refine VIF.split (fun g2 => ?_) (fun g2 => ?_)
      · have g2 : inC p.other r.length = false := by simpa using g2
        (simp -implicitDefEqProofs only [go_sem]; repeat (refine GO ?_; simp -implicitDefEqProofs only [go_sem]))
        simp [holdsP, g, g2, bA]
      · have g2 : inC p.other r.length = true := by simpa using g2
        have hgu : (otherP p && !inC p.other r.length) = false := by simp [g2]
        (simp -implicitDefEqProofs only [go_sem]; repeat (refine GO ?_; simp -implicitDefEqProofs only [go_sem]))
        refine ⟨by omega, EL.map hc.2 ?_⟩
        (simp -implicitDefEqProofs only [go_sem, V.c]; repeat (refine GO ?_; simp -implicitDefEqProofs only [go_sem, V.c]))
        refine VIF.split (fun k1 => ?_) (fun k1 => ?_)
        · have k1 : p.kind = 1 := by simpa using k1
          (simp -implicitDefEqProofs only [go_sem]; repeat (refine GO ?_; simp -implicitDefEqProofs only [go_sem]))
          refine .pure _ (s45 (r[p.col.toNat]'hc.2) p.val) rfl fun q hq _ => ?_
          subst hq
          (simp -implicitDefEqProofs only [go_sem]; repeat (refine GO ?_; simp -implicitDefEqProofs only [go_sem]))
          simp [holdsP, h, hgu, k1, hcv, bA]
        · have k1 : p.kind ≠ 1 := by simpa using k1
          (simp -implicitDefEqProofs only [go_sem]; repeat (refine GO ?_; simp -implicitDefEqProofs only [go_sem]))
          refine VIF.split (fun k2 => ?_) (fun k2 => ?_)
          · have k2 : p.kind = 2 := by simpa using k2
            (simp -implicitDefEqProofs only [go_sem]; repeat (refine GO ?_; simp -implicitDefEqProofs only [go_sem]))
            refine .pure _ (s45 (r[p.col.toNat]'hc.2) p.val) rfl fun q hq _ => ?_
            subst hq
            (simp -implicitDefEqProofs only [go_sem]; repeat (refine GO ?_; simp -implicitDefEqProofs only [go_sem]))
            simp [holdsP, h, hgu, k2, hcv, bA]
          · have k2 : p.kind ≠ 2 := by simpa using k2
            (simp -implicitDefEqProofs only [go_sem]; repeat (refine GO ?_; simp -implicitDefEqProofs only [go_sem]))
            refine VIF.split (fun k3 => ?_) (fun k3 => ?_)
            · have k3 : p.kind = 3 := by simpa using k3
              have ho : inC p.other r.length = true := by simpa [otherP, k3] using hgu
              have hd : 0 ≤ p.other ∧ p.other.toNat < r.length := by simp [inC] at ho; omega
              have hdv : getV r p.other = r[p.other.toNat]'hd.2 := by simp [getV, hd.2]
              (simp -implicitDefEqProofs only [go_sem]; repeat (refine GO ?_; simp -implicitDefEqProofs only [go_sem]))
              refine ⟨by omega, EL.map hd.2 ?_⟩
              (simp -implicitDefEqProofs only [go_sem, V.c]; repeat (refine GO ?_; simp -implicitDefEqProofs only [go_sem, V.c]))
              refine .pure _ (s45 (r[p.col.toNat]'hc.2) (r[p.other.toNat]'hd.2)) rfl fun q hq _ => ?_
              subst hq
              (simp -implicitDefEqProofs only [go_sem]; repeat (refine GO ?_; simp -implicitDefEqProofs only [go_sem]))
              simp [holdsP, h, ho, k3, hcv, hdv, bA]
            · have k3 : p.kind ≠ 3 := by simpa using k3
              (simp -implicitDefEqProofs only [go_sem]; repeat (refine GO ?_; simp -implicitDefEqProofs only [go_sem]))
              refine VIF.split (fun k4 => ?_) (fun k4 => ?_)
              · have k4 : p.kind = 4 := by simpa using k4
                have ho : inC p.other r.length = true := by simpa [otherP, k4] using hgu
                have hd : 0 ≤ p.other ∧ p.other.toNat < r.length := by simp [inC] at ho; omega
                have hdv : getV r p.other = r[p.other.toNat]'hd.2 := by simp [getV, hd.2]
                (simp -implicitDefEqProofs only [go_sem]; repeat (refine GO ?_; simp -implicitDefEqProofs only [go_sem]))
                refine ⟨by omega, EL.map hd.2 ?_⟩
                (simp -implicitDefEqProofs only [go_sem, V.c]; repeat (refine GO ?_; simp -implicitDefEqProofs only [go_sem, V.c]))
                refine .pure _ (s45 (r[p.col.toNat]'hc.2) (r[p.other.toNat]'hd.2)) rfl fun q hq _ => ?_
                subst hq
                (simp -implicitDefEqProofs only [go_sem]; repeat (refine GO ?_; simp -implicitDefEqProofs only [go_sem]))
                simp [holdsP, h, ho, k4, hcv, hdv, bA]
              · have k4 : p.kind ≠ 4 := by simpa using k4
                (simp -implicitDefEqProofs only [go_sem]; repeat (refine GO ?_; simp -implicitDefEqProofs only [go_sem]))
                refine VIF.split (fun k5 => ?_) (fun k5 => ?_)
                · have k5 : p.kind = 5 := by simpa using k5
                  (simp -implicitDefEqProofs only [go_sem]; repeat (refine GO ?_; simp -implicitDefEqProofs only [go_sem]))
                  simp [holdsP, h, hgu, k5, hcv, bA]
                · have k5 : p.kind ≠ 5 := by simpa using k5
                  (simp -implicitDefEqProofs only [go_sem]; repeat (refine GO ?_; simp -implicitDefEqProofs only [go_sem]))
                  refine VIF.split (fun k6 => ?_) (fun k6 => ?_)
                  · have k6 : p.kind = 6 := by simpa using k6
                    (simp -implicitDefEqProofs only [go_sem]; repeat (refine GO ?_; simp -implicitDefEqProofs only [go_sem]))
                    simp [holdsP, h, hgu, k6, hcv, bA]
                  · have k6 : p.kind ≠ 6 := by simpa using k6
                    (simp -implicitDefEqProofs only [go_sem]; repeat (refine GO ?_; simp -implicitDefEqProofs only [go_sem]))
                    simp [holdsP, k1, k2, k3, k4, k5, k6, bA]
    · have hgu : (otherP p && !inC p.other r.length) = false := by simp [g]
      (simp -implicitDefEqProofs only [go_sem]; repeat (refine GO ?_; simp -implicitDefEqProofs only [go_sem]))
      refine ⟨by omega, EL.map hc.2 ?_⟩
      (simp -implicitDefEqProofs only [go_sem, V.c]; repeat (refine GO ?_; simp -implicitDefEqProofs only [go_sem, V.c]))
      refine VIF.split (fun k1 => ?_) (fun k1 => ?_)
      · have k1 : p.kind = 1 := by simpa using k1
        (simp -implicitDefEqProofs only [go_sem]; repeat (refine GO ?_; simp -implicitDefEqProofs only [go_sem]))
        refine .pure _ (s45 (r[p.col.toNat]'hc.2) p.val) rfl fun q hq _ => ?_
        subst hq
        (simp -implicitDefEqProofs only [go_sem]; repeat (refine GO ?_; simp -implicitDefEqProofs only [go_sem]))
        simp [holdsP, h, hgu, k1, hcv, bA]
      · have k1 : p.kind ≠ 1 := by simpa using k1
        (simp -implicitDefEqProofs only [go_sem]; repeat (refine GO ?_; simp -implicitDefEqProofs only [go_sem]))
        refine VIF.split (fun k2 => ?_) (fun k2 => ?_)
        · have k2 : p.kind = 2 := by simpa using k2
          (simp -implicitDefEqProofs only [go_sem]; repeat (refine GO ?_; simp -implicitDefEqProofs only [go_sem]))
          refine .pure _ (s45 (r[p.col.toNat]'hc.2) p.val) rfl fun q hq _ => ?_
          subst hq
          (simp -implicitDefEqProofs only [go_sem]; repeat (refine GO ?_; simp -implicitDefEqProofs only [go_sem]))
          simp [holdsP, h, hgu, k2, hcv, bA]
        · have k2 : p.kind ≠ 2 := by simpa using k2
          (simp -implicitDefEqProofs only [go_sem]; repeat (refine GO ?_; simp -implicitDefEqProofs only [go_sem]))
          refine VIF.split (fun k3 => ?_) (fun k3 => ?_)
          · have k3 : p.kind = 3 := by simpa using k3
            have ho : inC p.other r.length = true := by simpa [otherP, k3] using hgu
            have hd : 0 ≤ p.other ∧ p.other.toNat < r.length := by simp [inC] at ho; omega
            have hdv : getV r p.other = r[p.other.toNat]'hd.2 := by simp [getV, hd.2]
            (simp -implicitDefEqProofs only [go_sem]; repeat (refine GO ?_; simp -implicitDefEqProofs only [go_sem]))
            refine ⟨by omega, EL.map hd.2 ?_⟩
            (simp -implicitDefEqProofs only [go_sem, V.c]; repeat (refine GO ?_; simp -implicitDefEqProofs only [go_sem, V.c]))
            refine .pure _ (s45 (r[p.col.toNat]'hc.2) (r[p.other.toNat]'hd.2)) rfl fun q hq _ => ?_
            subst hq
            (simp -implicitDefEqProofs only [go_sem]; repeat (refine GO ?_; simp -implicitDefEqProofs only [go_sem]))
            simp [holdsP, h, ho, k3, hcv, hdv, bA]
          · have k3 : p.kind ≠ 3 := by simpa using k3
            (simp -implicitDefEqProofs only [go_sem]; repeat (refine GO ?_; simp -implicitDefEqProofs only [go_sem]))
            refine VIF.split (fun k4 => ?_) (fun k4 => ?_)
            · have k4 : p.kind = 4 := by simpa using k4
              have ho : inC p.other r.length = true := by simpa [otherP, k4] using hgu
              have hd : 0 ≤ p.other ∧ p.other.toNat < r.length := by simp [inC] at ho; omega
              have hdv : getV r p.other = r[p.other.toNat]'hd.2 := by simp [getV, hd.2]
              (simp -implicitDefEqProofs only [go_sem]; repeat (refine GO ?_; simp -implicitDefEqProofs only [go_sem]))
              refine ⟨by omega, EL.map hd.2 ?_⟩
              (simp -implicitDefEqProofs only [go_sem, V.c]; repeat (refine GO ?_; simp -implicitDefEqProofs only [go_sem, V.c]))
              refine .pure _ (s45 (r[p.col.toNat]'hc.2) (r[p.other.toNat]'hd.2)) rfl fun q hq _ => ?_
              subst hq
              (simp -implicitDefEqProofs only [go_sem]; repeat (refine GO ?_; simp -implicitDefEqProofs only [go_sem]))
              simp [holdsP, h, ho, k4, hcv, hdv, bA]
            · have k4 : p.kind ≠ 4 := by simpa using k4
              (simp -implicitDefEqProofs only [go_sem]; repeat (refine GO ?_; simp -implicitDefEqProofs only [go_sem]))
              refine VIF.split (fun k5 => ?_) (fun k5 => ?_)
              · have k5 : p.kind = 5 := by simpa using k5
                (simp -implicitDefEqProofs only [go_sem]; repeat (refine GO ?_; simp -implicitDefEqProofs only [go_sem]))
                simp [holdsP, h, hgu, k5, hcv, bA]
              · have k5 : p.kind ≠ 5 := by simpa using k5
                (simp -implicitDefEqProofs only [go_sem]; repeat (refine GO ?_; simp -implicitDefEqProofs only [go_sem]))
                refine VIF.split (fun k6 => ?_) (fun k6 => ?_)
                · have k6 : p.kind = 6 := by simpa using k6
                  (simp -implicitDefEqProofs only [go_sem]; repeat (refine GO ?_; simp -implicitDefEqProofs only [go_sem]))
                  simp [holdsP, h, hgu, k6, hcv, bA]
                · have k6 : p.kind ≠ 6 := by simpa using k6
                  (simp -implicitDefEqProofs only [go_sem]; repeat (refine GO ?_; simp -implicitDefEqProofs only [go_sem]))
                  simp [holdsP, k1, k2, k3, k4, k5, k6, bA]
end Yt
namespace Yt
open Go Go.Vc Go.Proofs
set_option maxRecDepth 10000
set_option maxHeartbeats 8000000
set_option linter.unusedSimpArgs false
set_option linter.unusedVariables false
mutual
theorem lend_noId {f : List AV → List AV} {p : List AV → Prop} {objs : Nat → Option Ob} : ∀ (v : AV), v.noId = true → v.lendW f objs = v ∧ v.lok p objs
  | .un, _ => by simp [AV.lendW, AV.lok]
  | .pr v, _ => by simp [AV.lendW, AV.lok]
  | .nl, _ => by simp [AV.lendW, AV.lok]
  | .im a b, _ => by simp [AV.lendW, AV.lok]
  | .rf a b c, h => by simp [AV.noId] at h
  | .pt a b c, h => by simp [AV.noId] at h
  | .ro a b, _ => by simp [AV.lendW, AV.lok]
  | .ag cs, h => by
    have := lends_noId (f := f) (p := p) (objs := objs) cs (by simpa [AV.noId] using h)
    simp only [AV.lendW, AV.lok]; exact ⟨by rw [this.1], this.2⟩
  | .tu cs, h => by
    have := lends_noId (f := f) (p := p) (objs := objs) cs (by simpa [AV.noId] using h)
    simp only [AV.lendW, AV.lok]; exact ⟨by rw [this.1], this.2⟩
  | .fn g cs, h => by
    have := lends_noId (f := f) (p := p) (objs := objs) cs (by simpa [AV.noId] using h)
    simp only [AV.lendW, AV.lok]; exact ⟨by rw [this.1], this.2⟩
theorem lends_noId {f : List AV → List AV} {p : List AV → Prop} {objs : Nat → Option Ob} : ∀ (l : List AV), noIds l = true → lendsW f objs l = l ∧ loks p objs l
  | [], _ => ⟨rfl, trivial⟩
  | x :: r, h => by
    simp only [noIds, Bool.and_eq_true] at h
    have h1 := lend_noId (f := f) (p := p) (objs := objs) x h.1
    have h2 := lends_noId (f := f) (p := p) (objs := objs) r h.2
    simp only [lendsW, loks]; exact ⟨by rw [h1.1, h2.1], h1.2, h2.2⟩
end
theorem so_leafs (z : List It) : leafs2 (z.map It.c) := by
  have := so_leafy z
  rw [so, leafy_do] at this; exact this
structure Dl (p : It → Bool) (z y : List It) (i j : Nat) : Prop where
  ij : i < j
  jn : j ≤ z.length
  len : y.length = z.length
  kept : y.take i = (z.take j).filter fun t => !p t
  rest : y.drop j = z.drop j
theorem Dl.keep {p : It → Bool} {z y : List It} {i j : Nat} (d : Dl p z y i j) (hj : j < z.length) (hp : p z[j] = false) : Dl p z (y.set i z[j]) (i + 1) (j + 1) := by
  obtain ⟨h1, h2, h3, h4, h5⟩ := d
  refine ⟨by omega, by omega, by simp [h3], ?_, ?_⟩
  · rw [List.take_succ_eq_append_getElem (by simp; omega), List.take_succ_eq_append_getElem hj, List.filter_append, ← h4, List.take_set_of_le (Nat.le_refl _)]
    simp [hp]
  · rw [List.drop_set_of_lt (by omega)]
    have := congrArg (List.drop 1) h5
    simpa [List.drop_drop, Nat.add_comm] using this
theorem Dl.drop {p : It → Bool} {z y : List It} {i j : Nat} (d : Dl p z y i j) (hj : j < z.length) (hp : p z[j] = true) : Dl p z y i (j + 1) := by
  obtain ⟨h1, h2, h3, h4, h5⟩ := d
  refine ⟨by omega, by omega, h3, ?_, ?_⟩
  · rw [List.take_succ_eq_append_getElem hj, List.filter_append, ← h4]
    simp [hp]
  · have := congrArg (List.drop 1) h5
    simpa [List.drop_drop, Nat.add_comm] using this
theorem Dl.at {p : It → Bool} {z y : List It} {i j : Nat} (d : Dl p z y i j) (hj : j < z.length) (hy : j < y.length) : y[j] = z[j] := by
  have h : (y.drop j)[0]? = (z.drop j)[0]? := by rw [d.rest]
  simp only [List.getElem?_drop, Nat.add_zero, List.getElem?_eq_getElem hj, List.getElem?_eq_getElem hy, Option.some.injEq] at h
  exact h
theorem Dl.done {p : It → Bool} {z y : List It} {i : Nat} (d : Dl p z y i z.length) : y.take i = z.filter fun t => !p t := by
  rw [d.kept, List.take_length]
theorem c82 (g : Nat) (caps : List AV) (hc : noIds caps = true) (p : It → Bool) (B : It → Prop) (hg : ∀ t : It, B t → Spec0 Try.prog g (.ag t.c :: caps) (· = bA (p t))) (z : List It) (hB : ∀ t ∈ z, B t) (hl : z.length ≤ 1048576) :
    SpecB Try.prog 82 [.rf 0 0 z.length, .fn g caps] (so z) (fun r o' => ∃ y, y = (z.filter fun t => !p t) ∧ r = .rf 0 0 y.length ∧ o'.sz = 2 ∧ o'.es.take y.length = y.map It.c) := by
  refine specB_of_vc tabOk elems ord82 Try.func82 rfl (rl := [.tmp 4]) rfl (by kernel_rfl) rfl ?_
  (simp -implicitDefEqProofs only [go_sem, so]; repeat (refine GO ?_; simp -implicitDefEqProofs only [go_sem, so]))
  refine .lendTo (s47 g caps hc p B hg z hB (by omega)) ?_ (by rintro _ rfl; rfl) fun q hq => ?_
  · (simp -implicitDefEqProofs only [go_sem, setA]; repeat (refine GO ?_; simp -implicitDefEqProofs only [go_sem, setA]))
    exact ⟨by rw [List.take_of_length_le (by simp), (lends_noId (p := leafs) caps hc).1], so_leafs z, (lends_noId (f := fun x => x) caps hc).2⟩
  subst hq
  (simp -implicitDefEqProofs only [go_sem, idxA, iA]; repeat (refine GO ?_; simp -implicitDefEqProofs only [go_sem, idxA, iA]))
  refine VIF.split (fun h => ?_) (fun h => ?_)
  · have hn : z.findIdx? p = none := by
      cases hf : z.findIdx? p with
      | none => rfl
      | some i => rw [hf] at h; simp [idxI] at h
    rw [List.findIdx?_eq_none_iff] at hn
    have hz : (z.filter fun t => !p t) = z := List.filter_eq_self.2 fun t ht => by simp [hn t ht]
    (simp -implicitDefEqProofs only [go_sem]; repeat (refine GO ?_; simp -implicitDefEqProofs only [go_sem]))
    refine FIN_B [(4, .rf 0 0 z.length)] rfl (so_leafy z) ?_ ?_
    · (simp -implicitDefEqProofs only [go_sem]; repeat (refine GO ?_; simp -implicitDefEqProofs only [go_sem]))
    · exact ⟨so z, ⟨⟨z, hz.symm, rfl, rfl, List.take_of_length_le (by simp [so])⟩, rfl⟩, so_leafy z, rfl⟩
  · obtain ⟨i, hf⟩ : ∃ i, z.findIdx? p = some i := by
      cases hf : z.findIdx? p with
      | none => rw [hf] at h; simp [idxI] at h
      | some i => exact ⟨i, rfl⟩
    rw [hf]
    rw [List.findIdx?_eq_some_iff_getElem] at hf
    obtain ⟨hi, hp, hlt⟩ := hf
    have start : Dl p z z i (i + 1) := by
      refine ⟨by omega, by omega, rfl, ?_, rfl⟩
      rw [List.take_succ_eq_append_getElem hi, List.filter_append]
      have : (z.take i).filter (fun t => !p t) = z.take i := List.filter_eq_self.2 fun t ht => by
        obtain ⟨j, hj, rfl⟩ := List.mem_iff_getElem.1 ht
        rw [List.length_take] at hj
        rw [List.getElem_take]
        have := hlt j (by omega)
        simp [this]
      rw [this]
      simp [hp]
    have w0 := wrap_add1 (show i < 4611686018427387904 by omega)
    (simp -implicitDefEqProofs only [go_sem, idxI, w0]; repeat (refine GO ?_; simp -implicitDefEqProofs only [go_sem, idxI, w0]))
    refine LOOP.mk (ι := { q : Nat × Nat × List It // Dl p z q.2.2 q.1 q.2.1 }) (fun q => mkS [(0, .rf 0 0 z.length), (1, .fn g caps), (5, iA q.1.1), (6, iA q.1.2.1)] [(0, so q.1.2.2)] [0])
      (fun q => z.length - q.1.2.1) ⟨(i, i + 1, z), start⟩ [(0, some 0)] rfl rfl ?_ (fun q => ?_)
    · (simp -implicitDefEqProofs only [go_sem, iA, so]; repeat (refine GO ?_; simp -implicitDefEqProofs only [go_sem, iA, so]))
      exact ⟨wks_noId caps hc, .same (so z) _ _ (so_leafy z) rfl⟩
    · obtain ⟨⟨i, j, y⟩, d⟩ := q
      simp only at d
      have dl := d.len
      have dij := d.ij
      have djn := d.jn
      (simp -implicitDefEqProofs only [go_sem, iA, so]; repeat (refine GO ?_; simp -implicitDefEqProofs only [go_sem, iA, so]))
      refine VIF.split (fun h1 => ?_) (fun h1 => ?_)
      · have h1 : j < z.length := by simpa using h1
        have hjy : j < y.length := by omega
        have hat := d.at h1 hjy
        have w1 := wrap_add1 (show j < 4611686018427387904 by omega)
        have w2 := wrap_add1 (show i < 4611686018427387904 by omega)
        (simp -implicitDefEqProofs only [go_sem]; repeat (refine GO ?_; simp -implicitDefEqProofs only [go_sem]))
        refine ⟨by omega, EL.map hjy ?_⟩
        (simp -implicitDefEqProofs only [go_sem, It.c]; repeat (refine GO ?_; simp -implicitDefEqProofs only [go_sem, It.c]))
        refine .pure _ (hg y[j] (by rw [hat]; exact hB _ (List.getElem_mem h1))) (by simpa [noIds, It.c, AV.noId, rowA, iA] using hc) fun q hq _ => ?_
        subst hq
        (simp -implicitDefEqProofs only [go_sem, bA]; repeat (refine GO ?_; simp -implicitDefEqProofs only [go_sem, bA]))
        refine VIF.split (fun h2 => ?_) (fun h2 => ?_)
        · have h2 : p z[j] = false := by rw [← hat]; simpa using h2
          have d2 := d.keep h1 h2
          have hiy : i < y.length := by omega
          rw [← hat] at d2
          (simp -implicitDefEqProofs only [go_sem]; repeat (refine GO ?_; simp -implicitDefEqProofs only [go_sem]))
          refine ⟨by omega, EL.map hiy ?_⟩
          (simp -implicitDefEqProofs only [go_sem, It.c, w1, w2]; repeat (refine GO ?_; simp -implicitDefEqProofs only [go_sem, It.c, w1, w2]))
          refine BACK.mk ⟨(i + 1, j + 1, y.set i y[j]), d2⟩ [(0, some 0)] rfl rfl (by show z.length - (j + 1) < z.length - j; omega) ?_
          (simp -implicitDefEqProofs only [go_sem, iA, so, w1, w2]; repeat (refine GO ?_; simp -implicitDefEqProofs only [go_sem, iA, so, w1, w2]))
          have e1 : (List.map It.c y).set i [rowA y[j].row, iA y[j].w] = List.map It.c (y.set i y[j]) := by rw [List.map_set]; rfl
          exact ⟨fun _ => trivial, wks_noId caps hc, .same (so []) _ _ (fun x hx => so_leafy (y.set i y[j]) x (by rw [so]; exact e1 ▸ hx)) e1⟩
        · have h2 : p z[j] = true := by rw [← hat]; simpa using h2
          have d2 := d.drop h1 h2
          (simp -implicitDefEqProofs only [go_sem, w1, w2]; repeat (refine GO ?_; simp -implicitDefEqProofs only [go_sem, w1, w2]))
          refine BACK.mk ⟨(i, j + 1, y), d2⟩ [(0, some 0)] rfl rfl (by show z.length - (j + 1) < z.length - j; omega) ?_
          (simp -implicitDefEqProofs only [go_sem, iA, so, w1, w2]; repeat (refine GO ?_; simp -implicitDefEqProofs only [go_sem, iA, so, w1, w2]))
          exact ⟨fun _ => trivial, wks_noId caps hc, .same (so y) _ _ (so_leafy y) rfl⟩
      · have h1 : j = z.length := by simp at h1; omega
        subst h1
        have hk := d.done
        (simp -implicitDefEqProofs only [go_sem]; repeat (refine GO ?_; simp -implicitDefEqProofs only [go_sem]))
        refine ⟨by omega, by omega, by omega, ?_⟩
        have hlf : (Ob.mk 2 (List.take i (List.map It.c y) ++ List.replicate (z.length - i) [.nl, iA 0] ++ List.drop (i + (z.length - i)) (List.map It.c y))).leafy := by
          intro x hx a ha
          simp only [List.mem_append] at hx
          rcases hx with (hx | hx) | hx
          · exact so_leafy y x (List.mem_of_mem_take hx) a ha
          · rw [(List.mem_replicate.1 hx).2] at ha
            simp only [List.mem_cons, List.not_mem_nil, or_false] at ha
            rcases ha with rfl | rfl <;> rfl
          · exact so_leafy y x (List.mem_of_mem_drop hx) a ha
        refine FIN_B [(4, .rf 0 0 i)] rfl hlf ?_ ?_
        · (simp -implicitDefEqProofs only [go_sem]; repeat (refine GO ?_; simp -implicitDefEqProofs only [go_sem]))
          exact ⟨rfl, rfl⟩
        · have hkl : i = (z.filter fun t => !p t).length := by rw [← hk, List.length_take]; omega
          refine ⟨_, ⟨⟨z.filter fun t => !p t, rfl, by rw [← hkl]; rfl, rfl, ?_⟩, rfl⟩, hlf, rfl⟩
          rw [← hkl]
          show List.take i (List.take i (List.map It.c y) ++ List.replicate (z.length - i) [.nl, iA 0] ++ List.drop (i + (z.length - i)) (List.map It.c y)) = _
          rw [List.append_assoc, List.take_append_of_le_length (by rw [List.length_take, List.length_map]; omega), List.take_take, Nat.min_self, ← List.map_take, hk]
end Yt
namespace Yt
open Go Go.Vc Go.Proofs
set_option maxRecDepth 10000
set_option maxHeartbeats 8000000
set_option linter.unusedSimpArgs false
set_option linter.unusedVariables false
theorem c95 (p : Pr) (t : It) (ht : t.row.length < 4611686018427387904) : Spec0 Try.prog 95 [.ag t.c, .ro p.c 0] (· = bA (!holdsP p t.row)) := by
  refine spec0_of_vc tabOk elems ord95 Try.func95 rfl (rl := [.tmp 3]) rfl (by kernel_rfl) rfl ?_
  (simp -implicitDefEqProofs only [go_sem, It.c, rowA, iA, Pr.c]; repeat (refine GO ?_; simp -implicitDefEqProofs only [go_sem, It.c, rowA, iA, Pr.c]))
  refine .pure _ (c60 p t.row ht) rfl fun q hq _ => ?_
  subst hq
  (simp -implicitDefEqProofs only [go_sem, bA]; repeat (refine GO ?_; simp -implicitDefEqProofs only [go_sem, bA]))
def MinR (a b out : List It) (err : Int) : Prop := (¬ (Good a ∧ Good b) ∧ out = [] ∧ err = 1) ∨ (Good a ∧ Good b ∧ MakeR (a ++ b.map negI) out err)
theorem good_neg {z : List It} (h : Good z) : Good (z.map negI) := by
  obtain ⟨h1, h2⟩ := good_made.1 h
  exact good_made.2 ⟨made_neg h1, fun t ht => by obtain ⟨u, hu, rfl⟩ := List.mem_map.1 ht; exact h2 u hu⟩
theorem c55 (a b : List It) (hl : a.length + b.length ≤ 1048576) (ha : ∀ t ∈ a, t.row.length < 1073741824) (hb : ∀ t ∈ b, t.row.length < 1073741824) :
    Spec1 Try.prog 55 [setA a, setA b] (fun r o => ∃ (out : List It) (err : Int), r = .tu [.rf 0 0 out.length, iA err] ∧ o = so out ∧ MinR a b out err) := by
  refine spec1_of_vc tabOk elems ord55 Try.func55 rfl (rl := [.tmp 4, .tmp 5]) rfl (by kernel_rfl) rfl ?_
  (simp -implicitDefEqProofs only [go_sem, setA]; repeat (refine GO ?_; simp -implicitDefEqProofs only [go_sem, setA]))
  have bad : ∀ s : St, s.regs 4 = .nl → s.regs 5 = .pr (.int .i64 1) → ¬ (Good a ∧ Good b) → FIN T noOb [.tmp 4, .tmp 5] (fun r O' => ∃ o, ((∃ (out : List It) (err : Int), r = .tu [.rf 0 0 out.length, iA err] ∧ o = so out ∧ MinR a b out err) ∧ r.only0 = true) ∧ o.leafy ∧ O' = upd noOb 0 (some o)) s := by
    intro s h4 h5 hn
    refine FINmk [(0, none)] [(4, .rf 0 0 0), (5, iA 1)] [(0, so [])] [0] rfl ?_ ?_
    · (simp -implicitDefEqProofs only [go_sem, iA, h4, h5]; repeat (refine GO ?_; simp -implicitDefEqProofs only [go_sem, iA, h4, h5]))
      simp [so]
    · exact ⟨so [], ⟨⟨[], 1, rfl, rfl, .inl ⟨hn, rfl, rfl⟩⟩, rfl⟩, so_leafy [], rfl⟩
  refine .pure _ (s16 a (by omega) (fun t ht => by have := ha t ht; omega)) rfl fun q hq _ => ?_
  obtain ⟨e, rfl, he, hg⟩ := hq
  (simp -implicitDefEqProofs only [go_sem, iA]; repeat (refine GO ?_; simp -implicitDefEqProofs only [go_sem, iA]))
  refine VIF.split (fun h => ?_) (fun h => ?_)
  · have h : e ≠ 0 := by simpa using h
    have h1 : e = 1 := by omega
    subst h1
    (simp -implicitDefEqProofs only [go_sem]; repeat (refine GO ?_; simp -implicitDefEqProofs only [go_sem]))
    exact bad _ rfl rfl fun g => h (hg.2 g.1)
  · have h : e = 0 := by simpa using h
    have hg := hg.1 h
    (simp -implicitDefEqProofs only [go_sem]; repeat (refine GO ?_; simp -implicitDefEqProofs only [go_sem]))
    refine .make 15 _ (s31 b (by omega) hb) rfl (by simp) rfl fun q o hq _ => ?_
    obtain ⟨n, err, rfl, rfl, hn⟩ := hq
    (simp -implicitDefEqProofs only [go_sem, iA, so]; repeat (refine GO ?_; simp -implicitDefEqProofs only [go_sem, iA, so]))
    refine VIF.split (fun h2 => ?_) (fun h2 => ?_)
    · have h2 : err ≠ 0 := by simpa using h2
      obtain ⟨hb2, rfl, rfl⟩ : ¬ Good b ∧ n = [] ∧ err = 1 := by
        rcases hn with h | ⟨_, _, h⟩
        · exact h
        · exact absurd h h2
      (simp -implicitDefEqProofs only [go_sem]; repeat (refine GO ?_; simp -implicitDefEqProofs only [go_sem]))
      exact bad _ rfl rfl fun g => hb2 g.2
    · have h2 : err = 0 := by simpa using h2
      obtain ⟨hb2, rfl⟩ : Good b ∧ n = b.map negI := by
        rcases hn with ⟨_, _, h⟩ | ⟨h, h3, _⟩
        · omega
        · exact ⟨h, h3⟩
      simp -implicitDefEqProofs only [go_sem]
      refine GO ?_
      simp -implicitDefEqProofs only [go_sem]
      refine TO [] [(21, setA a), (22, setA (b.map negI))] [] [] rfl ?_ ?_
      · (simp -implicitDefEqProofs only [go_sem, setA]; repeat (refine GO ?_; simp -implicitDefEqProofs only [go_sem, setA]))
        exact ⟨id, by decide, _, rfl, so_leafy (b.map negI), rfl, List.take_of_length_le (by simp)⟩
      (simp -implicitDefEqProofs only [go_sem, setA]; repeat (refine GO ?_; simp -implicitDefEqProofs only [go_sem, setA]))
      refine .make 23 _ (s23 a (b.map negI) (by rw [List.length_map]; exact hl) ha (fun t ht => by obtain ⟨u, hu, rfl⟩ := List.mem_map.1 ht; exact hb u hu)) rfl (by simp) rfl fun q o hq _ => ?_
      obtain ⟨out, err, rfl, rfl, hm⟩ := hq
      have hm : MakeR (a ++ b.map negI) out err := by
        rcases hm with ⟨h, _⟩ | ⟨_, _, h⟩
        · exact absurd ⟨hg, good_neg hb2⟩ h
        · exact h
      (simp -implicitDefEqProofs only [go_sem, iA]; repeat (refine GO ?_; simp -implicitDefEqProofs only [go_sem, iA]))
      refine FINmk [(0, some 23)] [(4, .rf 0 0 out.length), (5, iA err)] [(0, so out)] [0] rfl ?_ ?_
      · (simp -implicitDefEqProofs only [go_sem, so, iA]; repeat (refine GO ?_; simp -implicitDefEqProofs only [go_sem, so, iA]))
        exact .same (so out) _ _ (so_leafy out) rfl
      · exact ⟨so out, ⟨⟨out, err, rfl, rfl, .inr ⟨hg, hb2, hm⟩⟩, rfl⟩, so_leafy out, rfl⟩
end Yt
namespace Yt
open Go Go.Vc Go.Proofs
set_option maxRecDepth 10000
set_option maxHeartbeats 8000000
set_option linter.unusedSimpArgs false
set_option linter.unusedVariables false
def intsL (l : List Int) : AV := .im 1 (l.map fun n => [iA n])
theorem c132 (g : Nat) (caps : List AV) (hc : noIds caps = true) (p : Int → Bool) (hg : ∀ n : Int, Spec0 Try.prog g (iA n :: caps) (· = bA (p n))) (a : List Int) (ha : a.length < 4611686018427387904) :
    Spec0 Try.prog 132 [intsL a, .fn g caps] (· = idxA p a) := by
  refine spec0_of_vc tabOk elems ord132 Try.func132 rfl (rl := [.tmp 4]) rfl (by kernel_rfl) rfl ?_
  (simp -implicitDefEqProofs only [go_sem, intsL]; repeat (refine GO ?_; simp -implicitDefEqProofs only [go_sem, intsL]))
  refine LOOP.mk (ι := { i : Nat // i ≤ a.length ∧ ∀ j (hj : j < a.length), j < i → p a[j] = false }) (fun i => mkS [(0, intsL a), (1, .fn g caps), (7, iA a.length), (8, iA i.1)] [] []) (fun i => a.length - i.1)
    ⟨0, by simp⟩ [] rfl rfl ?_ (fun i => ?_)
  · (simp -implicitDefEqProofs only [go_sem, intsL, iA]; repeat (refine GO ?_; simp -implicitDefEqProofs only [go_sem, intsL, iA]))
    exact ⟨id, wks_noId caps hc, rfl⟩
  · obtain ⟨i, hi, hz⟩ := i
    (simp -implicitDefEqProofs only [go_sem, intsL, iA]; repeat (refine GO ?_; simp -implicitDefEqProofs only [go_sem, intsL, iA]))
    refine VIF.split (fun h => ?_) (fun h => ?_)
    · have hi' : i < a.length := by simpa using h
      have w1 := wrap_add1 (show i < 4611686018427387904 by omega)
      (simp -implicitDefEqProofs only [go_sem]; repeat (refine GO ?_; simp -implicitDefEqProofs only [go_sem]))
      refine EL.map hi' ?_
      (simp -implicitDefEqProofs only [go_sem]; repeat (refine GO ?_; simp -implicitDefEqProofs only [go_sem]))
      refine .pure _ (hg a[i]) (by simpa [noIds, AV.noId, iA] using hc) fun r hr _ => ?_
      subst hr
      (simp -implicitDefEqProofs only [go_sem, bA]; repeat (refine GO ?_; simp -implicitDefEqProofs only [go_sem, bA]))
      refine VIF.split (fun e => ?_) (fun e => ?_)
      · (simp -implicitDefEqProofs only [go_sem]; repeat (refine GO ?_; simp -implicitDefEqProofs only [go_sem]))
        have : a.findIdx? p = some i := by
          rw [List.findIdx?_eq_some_iff_getElem]
          exact ⟨hi', e, fun j hj => by simpa using hz j (by omega) hj⟩
        simp [idxA, this, idxI, iA]
      · (simp -implicitDefEqProofs only [go_sem, w1]; repeat (refine GO ?_; simp -implicitDefEqProofs only [go_sem, w1]))
        refine BACK.mk ⟨i + 1, by omega, fun j hj hji => ?_⟩ [] rfl rfl (by show a.length - (i + 1) < a.length - i; omega) ?_
        · by_cases e2 : j = i
          · subst e2; exact e
          · exact hz j hj (by omega)
        · (simp -implicitDefEqProofs only [go_sem, intsL, iA, w1]; repeat (refine GO ?_; simp -implicitDefEqProofs only [go_sem, intsL, iA, w1]))
          exact ⟨id, wks_noId caps hc⟩
    · have h : i = a.length := by simp at h; omega
      subst h
      (simp -implicitDefEqProofs only [go_sem]; repeat (refine GO ?_; simp -implicitDefEqProofs only [go_sem]))
      have : a.findIdx? p = none := by
        rw [List.findIdx?_eq_none_iff]; intro x hx
        obtain ⟨j, hj, rfl⟩ := List.mem_iff_getElem.1 hx
        exact hz j hj hj
      simp [idxA, this, idxI, iA]
theorem c102 (g : Nat) (caps : List AV) (hc : noIds caps = true) (p : Int → Bool) (hg : ∀ n : Int, Spec0 Try.prog g (iA n :: caps) (· = bA (p n))) (a : List Int) (ha : a.length < 4611686018427387904) :
    Spec0 Try.prog 102 [intsL a, .fn g caps] (· = bA (a.any p)) := by
  refine spec0_of_vc tabOk elems ord102 Try.func102 rfl (rl := [.tmp 4]) rfl (by kernel_rfl) rfl ?_
  (simp -implicitDefEqProofs only [go_sem, intsL]; repeat (refine GO ?_; simp -implicitDefEqProofs only [go_sem, intsL]))
  refine .pure _ (c132 g caps hc p hg a ha) (by simpa [noIds, AV.noId, intsL] using hc) fun r hr _ => ?_
  subst hr
  (simp -implicitDefEqProofs only [go_sem, idxA, iA]; repeat (refine GO ?_; simp -implicitDefEqProofs only [go_sem, idxA, iA]))
  rw [idx_any]; rfl
def outC (n : Nat) (c : Int) : Bool := decide (c < 0) || decide ((n : Int) ≤ c)
theorem c103 (r : List V) (c : Int) : Spec0 Try.prog 103 [iA c, .ro [rowA r] 0] (· = bA (outC r.length c)) := by
  refine spec0_of_vc tabOk elems ord103 Try.func103 rfl (rl := [.tmp 3]) rfl (by kernel_rfl) rfl ?_
  (simp -implicitDefEqProofs only [go_sem, iA, rowA]; repeat (refine GO ?_; simp -implicitDefEqProofs only [go_sem, iA, rowA]))
  refine VIF.split (fun h => ?_) (fun h => ?_)
  · (simp -implicitDefEqProofs only [go_sem]; repeat (refine GO ?_; simp -implicitDefEqProofs only [go_sem]))
    simp at h; simp [outC, bA, h]
  · (simp -implicitDefEqProofs only [go_sem]; repeat (refine GO ?_; simp -implicitDefEqProofs only [go_sem]))
    have h : ¬ c < 0 := by simpa using h
    simp [outC, bA, h]
def pickE (r : List V) (cols : List Int) : Int := if cols.any (outC r.length) then 1 else if 12 < cols.length then 2 else 0
def pickR (r : List V) (cols : List Int) : List V := cols.map (getV r)
theorem c61 (r : List V) (cols : List Int) (hr : r.length < 1073741824) (hc : cols.length < 1073741824) :
    Spec1 Try.prog 61 [rowA r, intsL cols] (fun q o => ∃ (out : List V) (err : Int), q = .tu [.rf 0 0 out.length, iA err] ∧ o = ro3 out ∧ err = pickE r cols ∧ (err = 0 → out = pickR r cols) ∧ (err ≠ 0 → out = [])) := by
  refine spec1_of_vc tabOk elems ord61 Try.func61 rfl (rl := [.tmp 4, .tmp 5]) rfl (by kernel_rfl) rfl ?_
  (simp -implicitDefEqProofs only [go_sem, rowA, intsL]; repeat (refine GO ?_; simp -implicitDefEqProofs only [go_sem, rowA, intsL]))
  refine .lendTo (c102 103 [.ro [rowA r] 0] rfl (outC r.length) (fun n => c103 r n) cols (by omega)) ?_ (by rintro _ rfl; rfl) fun q hq => ?_
  · (simp -implicitDefEqProofs only [go_sem, rowA, intsL]; repeat (refine GO ?_; simp -implicitDefEqProofs only [go_sem, rowA, intsL]))
  subst hq
  have bad : ∀ (e : Int) (s : St), e ≠ 0 → e = pickE r cols → s.regs 4 = .nl → s.regs 5 = .pr (.int .i64 e) → FIN T noOb [.tmp 4, .tmp 5] (fun q O' => ∃ o, ((∃ (out : List V) (err : Int), q = .tu [.rf 0 0 out.length, iA err] ∧ o = ro3 out ∧ err = pickE r cols ∧ (err = 0 → out = pickR r cols) ∧ (err ≠ 0 → out = [])) ∧ q.only0 = true) ∧ o.leafy ∧ O' = upd noOb 0 (some o)) s := by
    intro e s he hp h4 h5
    refine FINmk [(0, none)] [(4, .rf 0 0 0), (5, iA e)] [(0, ro3 [])] [0] rfl ?_ ?_
    · (simp -implicitDefEqProofs only [go_sem, iA, h4, h5]; repeat (refine GO ?_; simp -implicitDefEqProofs only [go_sem, iA, h4, h5]))
      simp [ro3]
    · exact ⟨ro3 [], ⟨⟨[], e, rfl, rfl, hp, fun h => absurd h he, fun _ => rfl⟩, rfl⟩, ro3_leafy [], rfl⟩
  (simp -implicitDefEqProofs only [go_sem, bA]; repeat (refine GO ?_; simp -implicitDefEqProofs only [go_sem, bA]))
  refine VIF.split (fun h => ?_) (fun h => ?_)
  · (simp -implicitDefEqProofs only [go_sem]; repeat (refine GO ?_; simp -implicitDefEqProofs only [go_sem]))
    exact bad 1 _ (by decide) (by rw [pickE, if_pos h]) rfl rfl
  · (simp -implicitDefEqProofs only [go_sem]; repeat (refine GO ?_; simp -implicitDefEqProofs only [go_sem]))
    refine VIF.split (fun h2 => ?_) (fun h2 => ?_)
    · have h2 : 12 < cols.length := by simp at h2; omega
      (simp -implicitDefEqProofs only [go_sem]; repeat (refine GO ?_; simp -implicitDefEqProofs only [go_sem]))
      exact bad 2 _ (by decide) (by rw [pickE, if_neg (by simp [h]), if_pos h2]) rfl rfl
    · have h2 : ¬ 12 < cols.length := by simp at h2; omega
      have hp : pickE r cols = 0 := by rw [pickE, if_neg (by simp [h]), if_neg h2]
      have hin : ∀ i (hi : i < cols.length), 0 ≤ cols[i] ∧ cols[i].toNat < r.length := fun i hi => by
        rw [List.any_eq_false] at h
        have := h cols[i] (List.getElem_mem hi)
        simp [outC] at this
        omega
      (simp -implicitDefEqProofs only [go_sem]; repeat (refine GO ?_; simp -implicitDefEqProofs only [go_sem]))
      refine LOOP.mk (ι := { i : Nat // i ≤ cols.length }) (fun p => mkS [(2, .pt 1001 0 0), (6, .rf 1000 0 p.1), (17, intsL cols), (18, iA cols.length), (19, iA p.1)] [(1000, ro3 (pickR r (cols.take p.1))), (1001, ⟨1, [[rowA r]]⟩)] [1000, 1001])
        (fun p => cols.length - p.1) ⟨0, Nat.zero_le _⟩ [(1000, none), (1001, some 2)] rfl rfl ?_ (fun p => ?_)
      · (simp -implicitDefEqProofs only [go_sem, intsL, iA, ro3, rowA]; repeat (refine GO ?_; simp -implicitDefEqProofs only [go_sem, intsL, iA, ro3, rowA]))
        exact ⟨id, rfl, rfl, .same ⟨1, [[rowA r]]⟩ _ _ (by simp [AV.leaf]) rfl⟩
      · obtain ⟨i, hi⟩ := p
        (simp -implicitDefEqProofs only [go_sem, intsL, iA, ro3, rowA]; repeat (refine GO ?_; simp -implicitDefEqProofs only [go_sem, intsL, iA, ro3, rowA]))
        refine VIF.split (fun h3 => ?_) (fun h3 => ?_)
        · have h3 : i < cols.length := by simpa using h3
          have w1 := wrap_add1 (show i < 4611686018427387904 by omega)
          obtain ⟨g1, g2⟩ := hin i h3
          (simp -implicitDefEqProofs only [go_sem]; repeat (refine GO ?_; simp -implicitDefEqProofs only [go_sem]))
          refine EL.map h3 ?_
          (simp -implicitDefEqProofs only [go_sem]; repeat (refine GO ?_; simp -implicitDefEqProofs only [go_sem]))
          refine ⟨g1, EL.map g2 ?_⟩
          (simp -implicitDefEqProofs only [go_sem, V.c]; repeat (refine GO ?_; simp -implicitDefEqProofs only [go_sem, V.c]))
          refine ⟨by omega, ?_⟩
          have hpl : (pickR r (cols.take i)).length = i := by simp [pickR]; omega
          have e1 : (List.map V.c (pickR r (cols.take i))).take i ++ [V.c (r[cols[i].toNat]'g2)] = List.map V.c (pickR r (cols.take (i + 1))) := by
            have hgv : getV r cols[i] = r[cols[i].toNat]'g2 := by simp [getV, g2]
            rw [List.take_of_length_le (by rw [List.length_map]; omega), List.take_succ_eq_append_getElem h3, pickR, pickR, List.map_append, List.map_append]
            simp only [List.map_cons, List.map_nil, hgv]
          refine BACK.mk ⟨i + 1, by omega⟩ [(1000, some 29), (1001, some 1001)] rfl rfl (by show cols.length - (i + 1) < cols.length - i; omega) ?_
          (simp -implicitDefEqProofs only [go_sem, intsL, iA, ro3, rowA, w1]; repeat (refine GO ?_; simp -implicitDefEqProofs only [go_sem, intsL, iA, ro3, rowA, w1]))
          exact ⟨id, .same (ro3 []) _ _ (fun x hx => ro3_leafy (pickR r (cols.take (i + 1))) x (by rw [ro3]; exact e1 ▸ hx)) e1, .same ⟨1, [[rowA r]]⟩ _ _ (by simp [AV.leaf]) rfl⟩
        · have h3 : i = cols.length := by simp at h3; omega
          subst h3
          (simp -implicitDefEqProofs only [go_sem, List.take_length]; repeat (refine GO ?_; simp -implicitDefEqProofs only [go_sem, List.take_length]))
          refine FINmk [(0, some 1000)] [(4, .rf 0 0 cols.length), (5, iA 0)] [(0, ro3 (pickR r cols))] [0] rfl ?_ ?_
          · (simp -implicitDefEqProofs only [go_sem, ro3, iA]; repeat (refine GO ?_; simp -implicitDefEqProofs only [go_sem, ro3, iA]))
            exact .same (ro3 (pickR r cols)) _ _ (ro3_leafy (pickR r cols)) rfl
          · exact ⟨ro3 (pickR r cols), ⟨⟨pickR r cols, 0, by rw [pickR, List.length_map]; rfl, rfl, hp.symm, fun _ => rfl, fun h => absurd rfl h⟩, rfl⟩, ro3_leafy (pickR r cols), rfl⟩
def projI (cols : List Int) (t : It) : It := ⟨pickR t.row cols, t.w⟩
def ProjR (z : List It) (cols : List Int) (out : List It) (err : Int) : Prop :=
  (¬ Good z ∧ out = [] ∧ err = 1) ∨ (Good z ∧ (∃ t ∈ z, pickE t.row cols = err) ∧ err ≠ 0 ∧ out = []) ∨
  (Good z ∧ (∀ t ∈ z, pickE t.row cols = 0) ∧ MakeR (z.map (projI cols)) out err)
end Yt
namespace Yt
open Go Go.Vc Go.Proofs
set_option maxRecDepth 10000
set_option maxHeartbeats 8000000
set_option linter.unusedSimpArgs false
set_option linter.unusedVariables false
def nlOk : List AV → List AV → Prop
  | [], [] => True
  | x :: r, y :: r' => (y = x ∨ (y = .nl ∧ ∃ sz, x = .im sz [])) ∧ nlOk r r'
  | _, _ => False
theorem nlOk_get : ∀ {l l' : List AV}, nlOk l l' → l.length = l'.length ∧ ∀ (j : Nat) (x y : AV), l[j]? = some x → l'[j]? = some y → y = x ∨ (y = .nl ∧ ∃ sz, x = .im sz [])
  | [], [], _ => ⟨rfl, by simp⟩
  | x :: r, y :: r', h => by
    obtain ⟨h1, h2⟩ := nlOk_get h.2
    refine ⟨by simp [h1], fun j u v hu hv => ?_⟩
    cases j with
    | zero => simp at hu hv; subst hu; subst hv; exact h.1
    | succ j => exact h2 j u v (by simpa using hu) (by simpa using hv)
theorem spec_nl {P : Program} {f : Nat} {l l' : List AV} {O : Nat → Option Ob} {U : List Nat} {R : AV → (Nat → Option Ob) → Prop} (h : FunSpec P f l O U R) (hn : nlOk l l') : FunSpec P f l' O U R := by
  obtain ⟨hl, hg⟩ := nlOk_get hn
  refine ⟨h.1, fun F φ w vs h1 h2 h3 H hs ha => h.2 F φ w vs h1 h2 h3 H (by rw [hs, hl]) fun j av hj => ?_⟩
  have hj' : j < l'.length := by rw [← hl]; exact (List.getElem?_eq_some_iff.1 hj).1
  have h4 := ha j _ (List.getElem?_eq_getElem hj')
  rcases hg j av _ hj (List.getElem?_eq_getElem hj') with e | ⟨e, sz, rfl⟩
  · rw [e] at h4; exact h4
  · rw [e] at h4
    generalize vs.getD j undef = v at h4 ⊢
    cases h4 with
    | rd r => cases r; exact .rd (.im0 none 0 sz)
def wl (n : Int) : List V := [⟨3, n, ByteArray.empty⟩]
theorem wl_ok (n : Int) (h : -1152921504606846976 ≤ n ∧ n ≤ 1152921504606846976) : okR (wl n) = 0 := by
  simp [wl, okR, okV, inB, h.1, h.2]; rfl
end Yt
namespace Yt
open Go Go.Vc Go.Proofs
set_option maxRecDepth 10000
set_option maxHeartbeats 8000000
set_option linter.unusedSimpArgs false
set_option linter.unusedVariables false
@[go_sem] theorem fzE_so (id : Nat) (o : Ob) (z : List It) : fzE id o (List.map It.c z) = List.map It.c z := fzE_leafy (so_leafy z)
@[go_sem] theorem fzE_ro3 (id : Nat) (o : Ob) (z : List V) : fzE id o (List.map V.c z) = List.map V.c z := fzE_leafy (ro3_leafy z)
@[go_sem] theorem take_so (z : List It) : List.take z.length (List.map It.c z) = List.map It.c z := take_map_len _ _
@[go_sem] theorem take_ro3 (z : List V) : List.take z.length (List.map V.c z) = List.map V.c z := take_map_len _ _
theorem Sm.mono {z : List It} {k j : Nat} (h : Sm z k) (hk : k ≤ j) : Sm z j := ⟨h.made, h.rows, by have := h.len; omega, fun r => by have := h.tot r; omega⟩
theorem Sm.nil (k : Nat) : Sm [] k := ⟨⟨.nil, by simp⟩, by simp, by simp, fun r => by simp [Yt.tot]; omega⟩
theorem Sm.r40 {z : List It} {k : Nat} (h : Sm z k) : ∀ t ∈ z, t.row.length < 1073741824 := fun t ht => by have := (h.rows t ht).2; omega
theorem Sm.min {x y out : List It} {i j : Nat} {err : Int} (hx : Sm x i) (hy : Sm y j) (hij : i + j ≤ 100) (h : MinR x y out err) : err = 0 ∧ Sm out (i + j) ∧ ∀ r, Yt.tot r out = Yt.tot r x - Yt.tot r y := by
  have h2 : AddR x (y.map negI) out err := by
    rcases h with ⟨h, _⟩ | ⟨_, _, h⟩
    · exact absurd ⟨hx.good, hy.good⟩ h
    · exact .inr ⟨hx.good, hy.neg.good, h⟩
  obtain ⟨a, b, c⟩ := hx.add hy.neg hij h2
  exact ⟨a, b, fun r => by rw [c, tot_neg]; omega⟩
theorem Sm.eq {x y : List It} {i j : Nat} (hx : Sm x i) (hy : Sm y j) (h : ∀ r, Yt.tot r x = Yt.tot r y) : x = y := made_eq hx.made hy.made h
theorem Sm.w {z : List It} {k : Nat} (h : Sm z k) : ∀ t ∈ z, -(356400 * (k : Int)) ≤ t.w ∧ t.w ≤ 356400 * k := fun t ht => by
  rw [← tot_made h.made ht]; exact h.tot _
theorem Sm.mul {z : List It} {k : Nat} (h : Sm z k) (n : Nat) (hn : 0 < n) (hk : n * k ≤ 1000) : Sm (z.map (mulI n)) (n * k) := by
  refine ⟨made_mul (by omega) h.made fun t ht => ?_, fun t ht => by obtain ⟨u, hu, rfl⟩ := List.mem_map.1 ht; exact h.rows u hu, ?_, fun r => ?_⟩
  · have h1 := h.w t ht
    have h2 : (n : Int) * t.w ≤ n * (356400 * k) := Int.mul_le_mul_of_nonneg_left h1.2 (by omega)
    have h3 : (n : Int) * (-(356400 * k)) ≤ n * t.w := Int.mul_le_mul_of_nonneg_left h1.1 (by omega)
    have e : (n : Int) * (356400 * k) = 356400 * ((n * k : Nat) : Int) := by rw [Int.natCast_mul, ← Int.mul_assoc, ← Int.mul_assoc, Int.mul_comm (n : Int) 356400]
    rw [Int.mul_neg, e] at h3
    rw [e] at h2
    simp only [okW, inB, Bool.and_eq_true, decide_eq_true_eq]; omega
  · rw [List.length_map]
    have := Nat.le_mul_of_pos_left k hn
    have := h.len
    have : 60 * k ≤ 60 * (n * k) := by omega
    omega
  · rw [tot_mul]
    have h1 := h.tot r
    have h2 : (n : Int) * Yt.tot r z ≤ n * (356400 * k) := Int.mul_le_mul_of_nonneg_left h1.2 (by omega)
    have h3 : (n : Int) * (-(356400 * k)) ≤ n * Yt.tot r z := Int.mul_le_mul_of_nonneg_left h1.1 (by omega)
    have e : (n : Int) * (356400 * k) = 356400 * ((n * k : Nat) : Int) := by rw [Int.natCast_mul, ← Int.mul_assoc, ← Int.mul_assoc, Int.mul_comm (n : Int) 356400]
    rw [Int.mul_neg, e] at h3
    rw [e] at h2
    exact ⟨h3, h2⟩
end Yt
namespace Yt
open Go Go.Vc Go.Proofs
set_option maxRecDepth 10000
set_option maxHeartbeats 8000000
set_option linter.unusedSimpArgs false
set_option linter.unusedVariables false
theorem pick_in {r : List V} {cols : List Int} (h : pickE r cols = 0) : cols.length ≤ 12 ∧ ∀ c ∈ cols, 0 ≤ c ∧ c < r.length := by
  simp only [pickE] at h
  split at h
  · cases h
  · rename_i h1
    split at h
    · cases h
    · refine ⟨by omega, fun c hc => ?_⟩
      have h1 : cols.any (outC r.length) = false := by simpa using h1
      rw [List.any_eq_false] at h1
      have := h1 c hc
      simp [outC] at this
      omega
theorem pick_row {r : List V} {cols : List Int} (h : pickE r cols = 0) (hr : okR r = 0) : okR (pickR r cols) = 0 ∧ (pickR r cols).length ≤ 12 := by
  obtain ⟨h1, h2⟩ := pick_in h
  have hl : (pickR r cols).length = cols.length := by simp [pickR]
  have ha : (pickR r cols).all okV = true := by
    rw [List.all_eq_true]
    intro v hv
    obtain ⟨c, hc, rfl⟩ := List.mem_map.1 hv
    obtain ⟨g1, g2⟩ := h2 c hc
    have hlt : c.toNat < r.length := by omega
    have e : getV r c = r[c.toNat] := by simp [getV, hlt]
    rw [e]
    simp only [okR] at hr
    split at hr
    · cases hr
    · split at hr
      · rename_i h3
        exact List.all_eq_true.1 h3 _ (List.getElem_mem _)
      · cases hr
  refine ⟨?_, by omega⟩
  rw [okR, if_neg (by omega), if_pos ha]
theorem ProjR.ok {z out : List It} {k j : Nat} {cols : List Int} {err : Int} (h : Sm z k) (hb : ∀ r, -(356400 * (j : Int)) ≤ Yt.tot r (z.map (projI cols)) ∧ Yt.tot r (z.map (projI cols)) ≤ 356400 * j) (hk : k ≤ j) (hj : j ≤ 1000)
    (hp : ProjR z cols out err) : (err = 0 ∧ (∀ t ∈ z, pickE t.row cols = 0) ∧ Sm out j ∧ ∀ r, Yt.tot r out = Yt.tot r (z.map (projI cols))) ∨ (err ≠ 0 ∧ out = [] ∧ ∃ t ∈ z, pickE t.row cols = err) := by
  rcases hp with ⟨hn, _⟩ | ⟨_, ht, he, ho⟩ | ⟨_, ht, hm⟩
  · exact absurd h.good hn
  · exact .inr ⟨he, ho, ht⟩
  · refine .inl ?_
    obtain ⟨h1, h2, h3, h4, h5⟩ := makeR_fine hm (by
      rw [List.any_eq_false]; intro t hv
      obtain ⟨u, hu, rfl⟩ := List.mem_map.1 hv
      have e1 := (pick_row (ht u hu) (h.rows u hu).1).1
      have e2 := (h.made.nz u hu).2
      simp [okI, projI, e1, e2]) fun r => by
        have := hb r
        simp only [okW, inB, Bool.and_eq_true, decide_eq_true_eq]; omega
    refine ⟨h1, ht, ⟨h2, fun t hu => ?_, ?_, fun r => by rw [h3]; exact hb r⟩, h3⟩
    · obtain ⟨g1, u, hu, e⟩ := h4 t hu
      obtain ⟨v, hv, rfl⟩ := List.mem_map.1 hu
      refine ⟨g1, ?_⟩
      rw [← e]
      have := (pick_row (ht v hv) (h.rows v hv).1).2
      have e3 : (projI cols v).row = pickR v.row cols := rfl
      rw [e3]; omega
    · have := h.len
      rw [List.length_map] at h5; omega
theorem u64_nat {n : Nat} (h : n < 4611686018427387904) : IntKind.u64.wrap (n : Int) = n := by simp [IntKind.wrap, IntKind.signed, IntKind.bits]; omega
theorem ProjR.len {z out : List It} {cols : List Int} {err : Int} (h : ProjR z cols out err) : out.length ≤ z.length := by
  rcases h with ⟨_, rfl, _⟩ | ⟨_, _, _, rfl⟩ | ⟨_, _, h⟩
  · simp
  · simp
  · rcases h with ⟨_, rfl, _⟩ | ⟨_, rfl, _⟩ | ⟨_, _, _, _, _, h⟩
    · simp
    · simp
    · simpa using h
end Yt
namespace Yt
open Go Go.Vc Go.Proofs
set_option maxRecDepth 10000
set_option maxHeartbeats 8000000
set_option linter.unusedSimpArgs false
set_option linter.unusedVariables false
theorem fz_so (z : List It) : (AV.rf 0 0 z.length).fz 0 (so z) = setA z := by
  rw [fz_rf, if_pos rfl, List.drop_zero, List.take_of_length_le (by simp [so])]; rfl
theorem fz_ro3 (r : List V) : (AV.rf 0 0 r.length).fz 0 (ro3 r) = rowA r := by
  rw [fz_rf, if_pos rfl, List.drop_zero, List.take_of_length_le (by simp [ro3])]; rfl
theorem Spec1.setE {f : Nat} {args : List AV} {Q : List It → Int → Prop} (h : Spec1 Try.prog f args (fun r o => ∃ (out : List It) (err : Int), r = .tu [.rf 0 0 out.length, iA err] ∧ o = so out ∧ Q out err)) :
    Spec0 Try.prog f args fun r => ∃ (out : List It) (err : Int), r = .tu [setA out, iA err] ∧ Q out err :=
  (Spec1.fz h).mono fun r O' ⟨⟨⟨r0, o, ⟨out, err, e1, e2, hq⟩, _, _, e3⟩, hn⟩, hO⟩ => by
    subst e1; subst e2; subst e3
    refine ⟨⟨⟨out, err, ?_, hq⟩, hn⟩, hO⟩
    rw [fz_tu, fzs_cons, fzs_cons, fzs_nil, fz_so, iA, fz_pr]
theorem Spec1.set1 {f : Nat} {args : List AV} {Q : List It → Prop} (h : Spec1 Try.prog f args (fun r o => ∃ (out : List It), r = .rf 0 0 out.length ∧ o = so out ∧ Q out)) :
    Spec0 Try.prog f args fun r => ∃ (out : List It), r = setA out ∧ Q out :=
  (Spec1.fz h).mono fun r O' ⟨⟨⟨r0, o, ⟨out, e1, e2, hq⟩, _, _, e3⟩, hn⟩, hO⟩ => by
    subst e1; subst e2; subst e3
    exact ⟨⟨⟨out, fz_so out, hq⟩, hn⟩, hO⟩
theorem Spec1.setC {f : Nat} {args : List AV} {z : List It} (h : Spec1 Try.prog f args (fun r o => r = .rf 0 0 z.length ∧ o = so z)) : Spec0 Try.prog f args (· = setA z) :=
  (Spec1.fz h).mono fun r O' ⟨⟨⟨r0, o, ⟨e1, e2⟩, _, _, e3⟩, hn⟩, hO⟩ => by
    subst e1; subst e2; subst e3
    exact ⟨⟨fz_so z, hn⟩, hO⟩
theorem EL.mapL {α : Type} {f : α → List AV} {l : List α} {tail : List (List AV)} {i : Nat} {K : List AV → Prop} (h : i < l.length) (k : K (f l[i])) : EL (l.map f ++ tail) i K :=
  ⟨f l[i], by rw [List.getElem?_append_left (by simpa using h)]; simp [h], k⟩
theorem setL {α : Type} {f : α → List AV} {l : List α} {tail : List (List AV)} {i : Nat} {x : α} (h : i < l.length) : (l.map f ++ tail).set i (f x) = (l.set i x).map f ++ tail := by
  rw [List.set_append_left _ _ (by simpa using h), List.map_set]
theorem Spec1.row1 {f : Nat} {args : List AV} {Q : List V → Prop} (h : Spec1 Try.prog f args (fun r o => ∃ (out : List V), r = .rf 0 0 out.length ∧ o = ro3 out ∧ Q out)) :
    Spec0 Try.prog f args fun r => ∃ (out : List V), r = rowA out ∧ Q out :=
  (Spec1.fz h).mono fun r O' ⟨⟨⟨r0, o, ⟨out, e1, e2, hq⟩, _, _, e3⟩, hn⟩, hO⟩ => by
    subst e1; subst e2; subst e3
    exact ⟨⟨⟨out, fz_ro3 out, hq⟩, hn⟩, hO⟩
theorem Spec1.rowE {f : Nat} {args : List AV} {Q : List V → Int → Prop} (h : Spec1 Try.prog f args (fun r o => ∃ (out : List V) (err : Int), r = .tu [.rf 0 0 out.length, iA err] ∧ o = ro3 out ∧ Q out err)) :
    Spec0 Try.prog f args fun r => ∃ (out : List V) (err : Int), r = .tu [rowA out, iA err] ∧ Q out err :=
  (Spec1.fz h).mono fun r O' ⟨⟨⟨r0, o, ⟨out, err, e1, e2, hq⟩, _, _, e3⟩, hn⟩, hO⟩ => by
    subst e1; subst e2; subst e3
    refine ⟨⟨⟨out, err, ?_, hq⟩, hn⟩, hO⟩
    rw [fz_tu, fzs_cons, fzs_cons, fzs_nil, fz_ro3, iA, fz_pr]
theorem spec0_nls {P : Program} {f : Nat} {l l' : List AV} {R : AV → Prop} (h : Spec0 P f l R) (hn : nlOk l l') : Spec0 P f l' R := spec_nl h hn
theorem c84 (t : It) : Spec0 Try.prog 84 [.ag t.c] (· = bA (decide (t.w < 0))) := by
  refine spec0_of_vc tabOk elems ord84 Try.func84 rfl (rl := [.tmp 2]) rfl (by kernel_rfl) rfl ?_
  (simp -implicitDefEqProofs only [go_sem, It.c, iA, rowA]; repeat (refine GO ?_; simp -implicitDefEqProofs only [go_sem, It.c, iA, rowA]))
  simp [bA]
def distL (z : List It) : List It := (z.filter fun t => !decide (t.w < 0)).map fun t => oneI t.row
def upto1 (y : List It) (i : Nat) : List It := (y.take i).map (fun t => oneI t.row) ++ y.drop i
theorem upto1_len {y : List It} {i : Nat} (h : i ≤ y.length) : (upto1 y i).length = y.length := by simp [upto1]; omega
theorem upto1_get {y : List It} {i : Nat} (h : i < y.length) (h2 : i < (upto1 y i).length) : (upto1 y i)[i] = y[i] := by
  simp only [upto1]
  rw [List.getElem_append_right (by simp; omega)]
  simp [Nat.min_eq_left (Nat.le_of_lt h)]
theorem upto1_set {y : List It} {i : Nat} (h : i < y.length) : (upto1 y i).set i (oneI y[i].row) = upto1 y (i + 1) := by
  simp only [upto1]
  rw [List.set_append_right _ _ (by simp; omega), List.take_succ_eq_append_getElem h, List.map_append, List.length_map, List.length_take, Nat.min_eq_left (Nat.le_of_lt h), Nat.sub_self, List.drop_eq_getElem_cons h, List.set_cons_zero]
  simp only [List.map_cons, List.map_nil, List.append_assoc, List.cons_append, List.nil_append]
theorem c32 (z : List It) (hl : z.length ≤ 1048576) (hr : ∀ t ∈ z, t.row.length < 1073741824) :
    Spec0 Try.prog 32 [setA z] (fun r => ∃ (out : List It) (err : Int), r = .tu [setA out, iA err] ∧ ((¬ Good z ∧ out = [] ∧ err = 1) ∨ (Good z ∧ out = distL z ∧ err = 0))) := by
  refine spec0_of_vc tabOk elems ord32 Try.func32 rfl (rl := [.tmp 2, .tmp 3]) rfl (by kernel_rfl) rfl ?_
  (simp -implicitDefEqProofs only [go_sem, setA]; repeat (refine GO ?_; simp -implicitDefEqProofs only [go_sem, setA]))
  refine .pure _ (s16 z (by omega) (fun t ht => by have := hr t ht; omega)) rfl fun q hq _ => ?_
  obtain ⟨e, rfl, he, hg⟩ := hq
  (simp -implicitDefEqProofs only [go_sem, iA]; repeat (refine GO ?_; simp -implicitDefEqProofs only [go_sem, iA]))
  refine VIF.split (fun h => ?_) (fun h => ?_)
  · have h : e ≠ 0 := by simpa using h
    have h1 : e = 1 := by omega
    subst h1
    simp -implicitDefEqProofs only [go_sem]
    refine TO [] [(2, setA []), (3, iA 1)] [] [] rfl ?_ ?_
    · (simp -implicitDefEqProofs only [go_sem, setA, iA]; repeat (refine GO ?_; simp -implicitDefEqProofs only [go_sem, setA, iA]))
      exact ⟨id, rfl⟩
    (simp -implicitDefEqProofs only [go_sem]; repeat (refine GO ?_; simp -implicitDefEqProofs only [go_sem]))
    exact ⟨rfl, [], 1, rfl, .inl ⟨fun g => h (hg.2 g), rfl, rfl⟩⟩
  · have h : e = 0 := by simpa using h
    have hg := hg.1 h
    (simp -implicitDefEqProofs only [go_sem]; repeat (refine GO ?_; simp -implicitDefEqProofs only [go_sem]))
    refine .make 13 _ (s57 z hl hr) rfl (by simp) rfl fun q o hq _ => ?_
    obtain ⟨rfl, rfl⟩ := hq
    simp -implicitDefEqProofs only [go_sem, so]
    refine GO ?_
    simp -implicitDefEqProofs only [go_sem, so]
    refine .both 13 (so z) _ [.rf 0 0 z.length, .fn 84 []] (c82 84 [] rfl (fun t => decide (t.w < 0)) (fun t => True) (fun t ht => c84 t) z (fun t ht => trivial) hl) rfl (so_leafy z) rfl rfl fun q o' hq hlf => ?_
    obtain ⟨y, hy, rfl, hsz, hes⟩ := hq
    have hyl : y.length ≤ z.length := by rw [hy]; exact List.length_filter_le _ _
    obtain ⟨tail, rfl, htl⟩ : ∃ tail, o' = ⟨2, y.map It.c ++ tail⟩ ∧ ∀ x ∈ tail, ∀ a ∈ x, a.leaf = true := by
      refine ⟨o'.es.drop y.length, ?_, fun x hx => hlf x (List.mem_of_mem_drop hx)⟩
      rw [← hes, List.take_append_drop, ← hsz]
    (simp -implicitDefEqProofs only [go_sem]; repeat (refine GO ?_; simp -implicitDefEqProofs only [go_sem]))
    have hlf2 : ∀ i, (Ob.mk 2 ((upto1 y i).map It.c ++ tail)).leafy := fun i x hx => by
      rcases List.mem_append.1 hx with hx | hx
      · exact so_leafy (upto1 y i) x hx
      · exact htl x hx
    refine LOOP.mk (ι := { i : Nat // i ≤ y.length }) (fun p => mkS [(5, .rf 1000 0 y.length), (16, iA y.length), (17, iA p.1)] [(1000, ⟨2, (upto1 y p.1).map It.c ++ tail⟩)] [1000])
      (fun p => y.length - p.1) ⟨0, Nat.zero_le _⟩ [(1000, some 13)] rfl rfl ?_ (fun p => ?_)
    · (simp -implicitDefEqProofs only [go_sem, iA]; repeat (refine GO ?_; simp -implicitDefEqProofs only [go_sem, iA]))
      exact ⟨id, rfl, .same ⟨2, y.map It.c ++ tail⟩ _ _ (hlf2 0) rfl⟩
    · obtain ⟨i, hi⟩ := p
      (simp -implicitDefEqProofs only [go_sem, iA]; repeat (refine GO ?_; simp -implicitDefEqProofs only [go_sem, iA]))
      refine VIF.split (fun h1 => ?_) (fun h1 => ?_)
      · have h1 : i < y.length := by simpa using h1
        have w1 := wrap_add1 (show i < 4611686018427387904 by omega)
        have hi2 : i < (upto1 y i).length := by rw [upto1_len hi]; exact h1
        have e1 : (List.map It.c (upto1 y i) ++ tail).set i [rowA y[i].row, iA 1] = List.map It.c (upto1 y (i + 1)) ++ tail := by
          rw [← upto1_set h1]; exact setL (f := It.c) (x := oneI y[i].row) hi2
        (simp -implicitDefEqProofs only [go_sem]; repeat (refine GO ?_; simp -implicitDefEqProofs only [go_sem]))
        refine ⟨by omega, EL.mapL hi2 ?_⟩
        rw [upto1_get h1]
        (simp -implicitDefEqProofs only [go_sem, It.c, w1]; repeat (refine GO ?_; simp -implicitDefEqProofs only [go_sem, It.c, w1]))
        refine BACK.mk ⟨i + 1, by omega⟩ [(1000, some 1000)] rfl rfl (by show y.length - (i + 1) < y.length - i; omega) ?_
        (simp -implicitDefEqProofs only [go_sem, iA, w1]; repeat (refine GO ?_; simp -implicitDefEqProofs only [go_sem, iA, w1]))
        exact ⟨id, .same (so []) _ _ (fun x hx => hlf2 (i + 1) x (e1 ▸ hx)) e1⟩
      · have h1 : i = y.length := by simp at h1; omega
        subst h1
        have hd : upto1 y y.length = distL z := by
          simp only [upto1, List.take_length, List.drop_length, List.append_nil, distL, hy]
        rw [hd]
        have hdl : (distL z).length = y.length := by rw [← hd, upto1_len (Nat.le_refl _)]
        simp -implicitDefEqProofs only [go_sem]
        refine GO ?_
        simp -implicitDefEqProofs only [go_sem]
        refine TO [] [(25, setA (distL z))] [] [] rfl ?_ ?_
        · (simp -implicitDefEqProofs only [go_sem, setA]; repeat (refine GO ?_; simp -implicitDefEqProofs only [go_sem, setA]))
          refine ⟨id, by decide, _, rfl, ?_, rfl, ?_⟩
          · rw [← hd]; exact hlf2 _
          · rw [← hdl]; show List.take _ (List.map It.c (distL z) ++ tail) = _
            rw [List.take_append_of_le_length (by simp), take_so]
        (simp -implicitDefEqProofs only [go_sem, setA]; repeat (refine GO ?_; simp -implicitDefEqProofs only [go_sem, setA]))
        refine .pure _ (Spec1.setC (s38 (distL z) (by omega))) rfl fun q hq _ => ?_
        subst hq
        (simp -implicitDefEqProofs only [go_sem, setA]; repeat (refine GO ?_; simp -implicitDefEqProofs only [go_sem, setA]))
        exact ⟨rfl, distL z, 0, rfl, .inr ⟨hg, rfl, rfl⟩⟩
def DDel (z dz out : List It) (err : Int) : Prop := ∃ now e, AddR z dz now e ∧ ((e ≠ 0 ∧ out = [] ∧ err = e) ∨ (e = 0 ∧ MinR (distL now) (distL z) out err))
theorem makeR_rows {z out : List It} {err : Int} (h : MakeR z out err) : out.length ≤ z.length ∧ ∀ t ∈ out, ∃ u ∈ z, u.row = t.row := by
  rcases h with ⟨_, rfl, _⟩ | ⟨_, rfl, _⟩ | ⟨_, _, _, _, h, hl⟩
  · simp
  · simp
  · exact ⟨hl, fun t ht => (h t ht).2⟩
theorem addR_rows {a b out : List It} {err : Int} (h : AddR a b out err) : out.length ≤ a.length + b.length ∧ ∀ t ∈ out, ∃ u ∈ a ++ b, u.row = t.row := by
  rcases h with ⟨_, rfl, _⟩ | ⟨_, _, h⟩
  · simp
  · have := makeR_rows h
    rw [List.length_append] at this; exact this
theorem distL_len (z : List It) : (distL z).length ≤ z.length := by
  rw [distL, List.length_map]; exact List.length_filter_le _ _
theorem distL_rows {z : List It} {P : List V → Prop} (h : ∀ t ∈ z, P t.row) : ∀ t ∈ distL z, P t.row := fun t ht => by
  obtain ⟨u, hu, rfl⟩ := List.mem_map.1 ht
  exact h u (List.mem_filter.1 hu).1
theorem addR_good {a b out : List It} {err : Int} (h : AddR a b out err) (he : err = 0) : Good a ∧ Good b ∧ Made out ∧ Good out ∧ ∀ r, tot r out = tot r a + tot r b := by
  rcases h with ⟨_, _, h⟩ | ⟨ha, hb, h⟩
  · omega
  · rcases h with ⟨_, _, h⟩ | ⟨_, _, h, _⟩ | ⟨_, _, hm, ht, hr, _⟩
    · omega
    · omega
    · exact ⟨ha, hb, hm, good_made.2 ⟨hm, fun t h => (hr t h).1⟩, fun r => by rw [ht, tot_append]⟩
theorem dist_ok {z out : List It} {err : Int} (hg : Good z) (h : (¬ Good z ∧ out = [] ∧ err = 1) ∨ (Good z ∧ out = distL z ∧ err = 0)) : err = 0 ∧ out = distL z := by
  rcases h with ⟨h, _⟩ | ⟨_, h1, h2⟩
  · exact absurd hg h
  · exact ⟨h2, h1⟩
theorem c33 (z dz : List It) (hl : z.length + dz.length ≤ 300000) (hz : ∀ t ∈ z, t.row.length < 1073741824) (hd : ∀ t ∈ dz, t.row.length < 1073741824) :
    Spec0 Try.prog 33 [setA z, setA dz] (fun r => ∃ (out : List It) (err : Int), r = .tu [setA out, iA err] ∧ DDel z dz out err) := by
  refine spec0_of_vc tabOk elems ord33 Try.func33 rfl (rl := [.tmp 4, .tmp 5]) rfl (by kernel_rfl) rfl ?_
  (simp -implicitDefEqProofs only [go_sem, setA]; repeat (refine GO ?_; simp -implicitDefEqProofs only [go_sem, setA]))
  refine .pure _ (Spec1.setE (s23 z dz (by omega) hz hd)) rfl fun q hq _ => ?_
  obtain ⟨now, e, rfl, hm⟩ := hq
  obtain ⟨nl, nr⟩ := addR_rows hm
  have nr : ∀ t ∈ now, t.row.length < 1073741824 := fun t ht => by
    obtain ⟨u, hu, e⟩ := nr t ht
    rw [← e]
    rcases List.mem_append.1 hu with hu | hu
    · exact hz u hu
    · exact hd u hu
  (simp -implicitDefEqProofs only [go_sem, iA, setA]; repeat (refine GO ?_; simp -implicitDefEqProofs only [go_sem, iA, setA]))
  refine VIF.split (fun h => ?_) (fun h => ?_)
  · have h : e ≠ 0 := by simpa using h
    simp -implicitDefEqProofs only [go_sem]
    refine TO [] [(4, setA []), (5, iA e)] [] [] rfl ?_ ?_
    · (simp -implicitDefEqProofs only [go_sem, setA, iA]; repeat (refine GO ?_; simp -implicitDefEqProofs only [go_sem, setA, iA]))
      exact ⟨id, rfl⟩
    (simp -implicitDefEqProofs only [go_sem]; repeat (refine GO ?_; simp -implicitDefEqProofs only [go_sem]))
    exact ⟨rfl, [], e, rfl, now, e, hm, .inl ⟨h, rfl, rfl⟩⟩
  · have h : e = 0 := by simpa using h
    subst h
    obtain ⟨gz, gd, mn, gn, tn⟩ := addR_good hm rfl
    (simp -implicitDefEqProofs only [go_sem]; repeat (refine GO ?_; simp -implicitDefEqProofs only [go_sem]))
    refine .pure _ (c32 now (by omega) nr) rfl fun q hq _ => ?_
    obtain ⟨a, e1, rfl, ha⟩ := hq
    obtain ⟨rfl, rfl⟩ := dist_ok gn ha
    have la := distL_len now
    (simp -implicitDefEqProofs only [go_sem, iA, setA]; repeat (refine GO ?_; simp -implicitDefEqProofs only [go_sem, iA, setA]))
    refine .pure _ (c32 z (by omega) hz) rfl fun q hq _ => ?_
    obtain ⟨b, e2, rfl, hb⟩ := hq
    obtain ⟨rfl, rfl⟩ := dist_ok gz hb
    have lb := distL_len z
    (simp -implicitDefEqProofs only [go_sem, iA, setA]; repeat (refine GO ?_; simp -implicitDefEqProofs only [go_sem, iA, setA]))
    refine .pure _ (Spec1.setE (c55 (distL now) (distL z) (by omega) (distL_rows (P := fun r => r.length < 1073741824) nr) (distL_rows (P := fun r => r.length < 1073741824) hz))) rfl fun q hq _ => ?_
    obtain ⟨out, err, rfl, ho⟩ := hq
    (simp -implicitDefEqProofs only [go_sem, iA, setA]; repeat (refine GO ?_; simp -implicitDefEqProofs only [go_sem, iA, setA]))
    exact ⟨rfl, out, err, rfl, now, 0, hm, .inr ⟨rfl, ho⟩⟩
end Yt
namespace Yt
open Go Go.Vc Go.Proofs
set_option maxRecDepth 10000
set_option maxHeartbeats 8000000
set_option linter.unusedSimpArgs false
set_option linter.unusedVariables false
theorem made_dist {z : List It} (h : Made z) : Made (distL z) := by
  refine ⟨?_, fun t ht => ?_⟩
  · rw [distL, List.pairwise_map]
    exact h.pw.filter _
  · obtain ⟨u, hu, rfl⟩ := List.mem_map.1 ht
    exact ⟨by simp [oneI], by simp [oneI, okW, inB]⟩
def sg (n : Int) : Int := if 0 < n then 1 else 0
theorem sg_cases (n : Int) : (0 < n ∧ sg n = 1) ∨ (n ≤ 0 ∧ sg n = 0) := by
  by_cases h : 0 < n
  · exact .inl ⟨h, if_pos h⟩
  · exact .inr ⟨by omega, if_neg h⟩
theorem tot_dist {z : List It} (h : Made z) (r : List V) : tot r (distL z) = sg (tot r z) := by
  by_cases hr : ∃ t ∈ z, t.row = r
  · obtain ⟨t, ht, rfl⟩ := hr
    rw [tot_made h ht]
    have h0 := (h.nz t ht).1
    by_cases hw : t.w < 0
    · have : sg t.w = 0 := if_neg (by omega)
      rw [this]
      refine tot_none fun u hu e => ?_
      obtain ⟨v, hv, rfl⟩ := List.mem_map.1 hu
      obtain ⟨hv1, hv2⟩ := List.mem_filter.1 hv
      have e : v.row = t.row := lin_cmpR.eq _ _ e
      have h1 := tot_made h hv1
      rw [e, tot_made h ht] at h1
      simp at hv2
      omega
    · have : sg t.w = 1 := if_pos (by omega)
      rw [this]
      exact tot_made (made_dist h) (t := oneI t.row) (List.mem_map.2 ⟨t, List.mem_filter.2 ⟨ht, by simpa using hw⟩, rfl⟩)
  · have hz : tot r z = 0 := tot_none fun u hu e => hr ⟨u, hu, lin_cmpR.eq _ _ e⟩
    rw [hz, tot_none fun u hu e => ?_]
    · rfl
    · obtain ⟨v, hv, rfl⟩ := List.mem_map.1 hu
      exact hr ⟨v, (List.mem_filter.1 hv).1, lin_cmpR.eq _ _ e⟩
theorem Sm.dist {z : List It} {k : Nat} (h : Sm z k) : Sm (distL z) (k + 1) :=
  ⟨made_dist h.made, fun t ht => distL_rows (P := fun r => okR r = 0 ∧ r.length ≤ 40) h.rows t ht, by have := distL_len z; have := h.len; omega, fun r => by
    rw [tot_dist h.made]
    have := sg_cases (Yt.tot r z)
    omega⟩
theorem Sm.ddel {z dz out : List It} {i j : Nat} {err : Int} (hz : Sm z i) (hd : Sm dz j) (hij : i + j + 1 + (i + 1) ≤ 100) (h : DDel z dz out err) :
    err = 0 ∧ Sm out (i + j + 1 + (i + 1)) ∧ ∀ r, Yt.tot r out = sg (Yt.tot r z + Yt.tot r dz) - sg (Yt.tot r z) := by
  obtain ⟨now, e, ha, h⟩ := h
  obtain ⟨rfl, sn, tn⟩ := hz.add hd (by omega) ha
  rcases h with ⟨h, _⟩ | ⟨_, h⟩
  · exact absurd rfl h
  · obtain ⟨a, b, c⟩ := sn.dist.min hz.dist hij h
    exact ⟨a, b, fun r => by rw [c, tot_dist sn.made, tot_dist hz.made, tn]⟩
theorem c40 (n : Int) : Spec0 Try.prog 40 [iA n] (· = rowA (wl n)) := by
  have h : Spec1 Try.prog 40 [iA n] (fun r o => ∃ (out : List V), r = .rf 0 0 out.length ∧ o = ro3 out ∧ out = wl n) := by
    refine spec1_of_vc tabOk elems ord40 Try.func40 rfl (rl := [.tmp 2]) rfl (by kernel_rfl) rfl ?_
    (simp -implicitDefEqProofs only [go_sem, iA]; repeat (refine GO ?_; simp -implicitDefEqProofs only [go_sem, iA]))
    refine FINmk [(0, some 5)] [(2, .rf 0 0 1)] [(0, ro3 (wl n))] [0] rfl ?_ ?_
    · (simp -implicitDefEqProofs only [go_sem, ro3, wl]; repeat (refine GO ?_; simp -implicitDefEqProofs only [go_sem, ro3, wl]))
      exact .same (ro3 (wl n)) _ _ (ro3_leafy (wl n)) rfl
    · exact ⟨ro3 _, ⟨⟨wl n, rfl, rfl, rfl⟩, rfl⟩, ro3_leafy _, rfl⟩
  refine (Spec1.row1 h).mono ?_
  rintro r O' ⟨⟨⟨out, rfl, rfl⟩, hn⟩, hO⟩
  exact ⟨⟨rfl, hn⟩, hO⟩
def wd : List It := [⟨wl 1, -2⟩, ⟨wl 3, 4⟩]
theorem wl_cmp (a b : Int) : cmpR (wl a) (wl b) = cmpI a b := by
  have : cmpS ByteArray.empty ByteArray.empty = 0 := by
    have := lin_cmpV.self ⟨0, 0, ByteArray.empty⟩
    simp [cmpV, nz, cmpI] at this
    exact Classical.byContradiction fun h => h (this h)
  simp only [wl, cmpR, cmpV, nz, cmpI, this]
  split <;> simp_all
theorem wl_sm {n w : Int} (hn : -1152921504606846976 ≤ n ∧ n ≤ 1152921504606846976) (h0 : w ≠ 0) (hw : -356400 ≤ w ∧ w ≤ 356400) : Sm [⟨wl n, w⟩] 1 :=
  ⟨⟨List.pairwise_singleton _ _, by simpa [okW, inB, h0] using by omega⟩, by simpa using ⟨wl_ok n hn, by simp [wl]⟩, by simp, fun r => by
    simp only [Yt.tot]; split <;> omega⟩
theorem wd_good : Good wd := good_made.2 ⟨⟨by simp [wd, cI, wl_cmp, cmpI], by simp [wd, okW, inB]⟩, fun t ht => by
  simp only [wd, List.mem_cons, List.not_mem_nil, or_false] at ht
  rcases ht with rfl | rfl <;> exact wl_ok _ (by decide)⟩
theorem wd_dist : distL wd = [⟨wl 3, 1⟩] := by simp [distL, wd, oneI]
theorem c35 : Spec0 Try.prog 35 [] (· = bA true) := by
  refine spec0_of_vc tabOk elems ord35 Try.func35 rfl (rl := [.tmp 0]) rfl (by kernel_rfl) rfl ?_
  (simp -implicitDefEqProofs only [go_sem]; repeat (refine GO ?_; simp -implicitDefEqProofs only [go_sem]))
  refine .pure _ (c40 1) rfl fun r hq _ => ?_
  subst hq
  (simp -implicitDefEqProofs only [go_sem]; repeat (refine GO ?_; simp -implicitDefEqProofs only [go_sem]))
  refine .pure _ (c40 3) rfl fun r hq _ => ?_
  subst hq
  simp -implicitDefEqProofs only [go_sem]
  refine FRZ 10 (so wd) rfl (so_leafy wd) ?_
  simp -implicitDefEqProofs only [go_sem, so]
  refine .pure _ (show Spec0 Try.prog 32 [setA wd] _ from c32 wd (by decide) (by simp [wd, wl])) rfl fun r hq _ => ?_
  obtain ⟨a, e, rfl, ha⟩ := hq
  obtain ⟨rfl, rfl⟩ := dist_ok wd_good ha
  rw [wd_dist]
  (simp -implicitDefEqProofs only [go_sem, iA]; repeat (refine GO ?_; simp -implicitDefEqProofs only [go_sem, iA]))
  refine .pure _ (c40 3) rfl fun r hq _ => ?_
  subst hq
  simp -implicitDefEqProofs only [go_sem]
  refine FRZ 18 (so [⟨wl 3, -1⟩]) rfl (so_leafy [⟨wl 3, -1⟩]) ?_
  simp -implicitDefEqProofs only [go_sem, so]
  refine .pure _ (show Spec0 Try.prog 33 [setA [⟨wl 3, 1⟩], setA [⟨wl 3, -1⟩]] _ from c33 _ _ (by decide) (by simp [wl]) (by simp [wl])) rfl fun r hq _ => ?_
  obtain ⟨b, e, rfl, hb⟩ := hq
  obtain ⟨rfl, sb, tb⟩ := (wl_sm (n := 3) (w := 1) (by decide) (by decide) (by decide)).ddel (wl_sm (n := 3) (w := -1) (by decide) (by decide) (by decide)) (by decide) hb
  obtain rfl : b = [⟨wl 3, -1⟩] := made_eq sb.made (wl_sm (n := 3) (w := -1) (by decide) (by decide) (by decide)).made fun r => by
    rw [tb]
    simp only [tot]
    split <;> simp [sg]
  (simp -implicitDefEqProofs only [go_sem, setA, iA]; repeat (refine GO ?_; simp -implicitDefEqProofs only [go_sem, setA, iA]))
  repeat (refine VIF.split (fun _ => ?_) (fun h => absurd h (by decide)); (simp -implicitDefEqProofs only [go_sem]; repeat (refine GO ?_; simp -implicitDefEqProofs only [go_sem])))
  refine ⟨by decide, EL.map (l := [(⟨wl 3, 1⟩ : It)]) (i := 0) (by decide) ?_⟩
  (simp -implicitDefEqProofs only [go_sem, It.c, iA, rowA]; repeat (refine GO ?_; simp -implicitDefEqProofs only [go_sem, It.c, iA, rowA]))
  repeat (refine VIF.split (fun _ => ?_) (fun h => absurd h (by decide)); (simp -implicitDefEqProofs only [go_sem]; repeat (refine GO ?_; simp -implicitDefEqProofs only [go_sem])))
  refine ⟨by decide, EL.map (l := [(⟨wl 3, 1⟩ : It)]) (i := 0) (by decide) ?_⟩
  (simp -implicitDefEqProofs only [go_sem, It.c, iA, rowA]; repeat (refine GO ?_; simp -implicitDefEqProofs only [go_sem, It.c, iA, rowA]))
  repeat (refine VIF.split (fun _ => ?_) (fun h => absurd h (by decide)); (simp -implicitDefEqProofs only [go_sem]; repeat (refine GO ?_; simp -implicitDefEqProofs only [go_sem])))
  refine ⟨by decide, EL.map (l := [(⟨wl 3, 1⟩ : It)]) (i := 0) (by decide) ?_⟩
  (simp -implicitDefEqProofs only [go_sem, It.c, iA, rowA]; repeat (refine GO ?_; simp -implicitDefEqProofs only [go_sem, It.c, iA, rowA]))
  refine ⟨by decide, EL.map (l := wl 3) (i := 0) (by decide) ?_⟩
  (simp -implicitDefEqProofs only [go_sem, V.c]; repeat (refine GO ?_; simp -implicitDefEqProofs only [go_sem, V.c]))
  repeat (refine VIF.split (fun _ => ?_) (fun h => absurd h (by decide)); (simp -implicitDefEqProofs only [go_sem]; repeat (refine GO ?_; simp -implicitDefEqProofs only [go_sem])))
  refine ⟨by decide, EL.map (l := [(⟨wl 3, -1⟩ : It)]) (i := 0) (by decide) ?_⟩
  (simp -implicitDefEqProofs only [go_sem, It.c, iA]; repeat (refine GO ?_; simp -implicitDefEqProofs only [go_sem, It.c, iA]))
  simp [bA]
end Yt
