/- Values and rows: which may be. What is proved: contracts of the program's functions over abstract values, or plain facts on which these lean; the conditions stand in each theorem. -/
import Derived.Test.YtpipfaegkgakiaaYtA
set_option linter.all false
/-! Values and rows: which may be. -/
namespace Yt
open Go Go.Vc Go.Proofs
set_option maxRecDepth 10000

def noS : ByteArray := ⟨#[]⟩
def inB (x lo hi : Int) : Bool := decide (lo ≤ x) && decide (x ≤ hi)
def okV (v : V) : Bool :=
  if v.k = 1 then decide (v.i = 0) && decide (v.s = noS)
  else if v.k = 2 then inB v.i 0 1 && decide (v.s = noS)
  else if v.k = 3 then inB v.i (-1152921504606846976) 1152921504606846976 && decide (v.s = noS)
  else if v.k = 4 then decide (v.i = 0) && decide ((v.s.size : Int) ≤ 24)
  else false
def eqV (a b : V) : Bool := decide (a.k = b.k) && decide (a.i = b.i) && decide (a.s = b.s)
def bA (b : Bool) : AV := .pr (.bool b)
def iA (n : Int) : AV := .pr (.int .i64 n)

theorem s46 (a b : V) : Spec0 Try.prog 46 [.ag a.c, .ag b.c] (· = bA (eqV a b)) := by
  refine spec0_of_vc tabOk elems ord46 Try.func46 rfl (rl := [.tmp 4]) rfl (by kernel_rfl) rfl ?_
  (simp -implicitDefEqProofs only [go_sem, V.c]; repeat (refine GO ?_; simp -implicitDefEqProofs only [go_sem, V.c]))
  refine VIF.split (fun h => ?_) (fun h => ?_)
  · (simp -implicitDefEqProofs only [go_sem]; repeat (refine GO ?_; simp -implicitDefEqProofs only [go_sem]))
    refine VIF.split (fun g => ?_) (fun g => ?_)
    · (simp -implicitDefEqProofs only [go_sem]; repeat (refine GO ?_; simp -implicitDefEqProofs only [go_sem]))
      simp at h g; simp [h, g, eqV, bA]
    · (simp -implicitDefEqProofs only [go_sem]; repeat (refine GO ?_; simp -implicitDefEqProofs only [go_sem]))
      simp at h g; simp [h, g, eqV, bA]
  · (simp -implicitDefEqProofs only [go_sem]; repeat (refine GO ?_; simp -implicitDefEqProofs only [go_sem]))
    simp at h; simp [h, eqV, bA]

theorem s74 (x y : Int) (hy : 0 ≤ y) (hy' : y < 4611686018427387904) : Spec0 Try.prog 74 [iA x, iA y] (· = bA (inB x (-y) y)) := by
  refine spec0_of_vc tabOk elems ord74 Try.func74 rfl (rl := [.tmp 4]) rfl (by kernel_rfl) rfl ?_
  have hw : IntKind.i64.wrap (0 - y) = -y := by rw [wrap_i64] <;> omega
  (simp -implicitDefEqProofs only [go_sem, iA]; repeat (refine GO ?_; simp -implicitDefEqProofs only [go_sem, iA]))
  refine VIF.split (fun h => ?_) (fun h => ?_)
  · (simp -implicitDefEqProofs only [go_sem]; repeat (refine GO ?_; simp -implicitDefEqProofs only [go_sem]))
    rw [hw] at h
    simp at h; simp [h, inB, bA]
  · (simp -implicitDefEqProofs only [go_sem]; repeat (refine GO ?_; simp -implicitDefEqProofs only [go_sem]))
    rw [hw] at h
    simp at h; simp [h, inB, bA]; omega

theorem s64 (x y z : Int) : Spec0 Try.prog 64 [iA x, iA y, iA z] (· = bA (inB x y z)) := by
  refine spec0_of_vc tabOk elems ord64 Try.func64 rfl (rl := [.tmp 6]) rfl (by kernel_rfl) rfl ?_
  (simp -implicitDefEqProofs only [go_sem, iA]; repeat (refine GO ?_; simp -implicitDefEqProofs only [go_sem, iA]))
  refine VIF.split (fun h => ?_) (fun h => ?_)
  · (simp -implicitDefEqProofs only [go_sem]; repeat (refine GO ?_; simp -implicitDefEqProofs only [go_sem]))
    simp at h; simp [h, inB, bA]
  · (simp -implicitDefEqProofs only [go_sem]; repeat (refine GO ?_; simp -implicitDefEqProofs only [go_sem]))
    simp at h; simp [h, inB, bA]; omega
theorem s53 (x y z : Int) : Spec0 Try.prog 53 [iA x, iA y, iA z] (· = bA (inB x y z)) := by
  refine spec0_of_vc tabOk elems ord53 Try.func53 rfl (rl := [.tmp 6]) rfl (by kernel_rfl) rfl ?_
  (simp -implicitDefEqProofs only [go_sem, iA]; repeat (refine GO ?_; simp -implicitDefEqProofs only [go_sem, iA]))
  refine VIF.split (fun h => ?_) (fun h => ?_)
  · (simp -implicitDefEqProofs only [go_sem]; repeat (refine GO ?_; simp -implicitDefEqProofs only [go_sem]))
    simp at h; simp [h, inB, bA]
  · (simp -implicitDefEqProofs only [go_sem]; repeat (refine GO ?_; simp -implicitDefEqProofs only [go_sem]))
    simp at h; simp [h, inB, bA]; omega

theorem s69 (v : V) : Spec0 Try.prog 69 [.ag v.c] (· = iA (if okV v then 0 else 1)) := by
  refine spec0_of_vc tabOk elems ord69 Try.func69 rfl (rl := [.tmp 2]) rfl (by kernel_rfl) rfl ?_
  (simp -implicitDefEqProofs only [go_sem, V.c]; repeat (refine GO ?_; simp -implicitDefEqProofs only [go_sem, V.c]))
  iterate 9 all_goals (first
    | (refine VIF.split (fun h => ?_) (fun h => ?_) <;> (simp -implicitDefEqProofs only [go_sem]; repeat (refine GO ?_; simp -implicitDefEqProofs only [go_sem])))
    | (refine .pure _ (s74 v.i 1152921504606846976 (by decide) (by decide)) rfl fun r hr _ => ?_
       subst hr
       (simp -implicitDefEqProofs only [go_sem, bA]; repeat (refine GO ?_; simp -implicitDefEqProofs only [go_sem, bA])))
    | skip)
  all_goals simp_all [okV, inB, iA, bA, noS]
  all_goals (intros; omega)

theorem s59 (v : V) : Spec0 Try.prog 59 [.ag v.c] (· = bA (!okV v)) := by
  refine spec0_of_vc tabOk elems ord59 Try.func59 rfl (rl := [.tmp 2]) rfl (by kernel_rfl) rfl ?_
  (simp -implicitDefEqProofs only [go_sem, V.c]; repeat (refine GO ?_; simp -implicitDefEqProofs only [go_sem, V.c]))
  refine .pure _ (s69 v) rfl fun r hr _ => ?_
  subst hr
  (simp -implicitDefEqProofs only [go_sem, iA]; repeat (refine GO ?_; simp -implicitDefEqProofs only [go_sem, iA]))
  cases okV v <;> simp [bA]

/-- The first place of which p holds. -/
def idxI : Option Nat → Int
  | some i => i
  | none => -1
def idxA {α : Type} (p : α → Bool) (l : List α) : AV := iA (idxI (l.findIdx? p))
theorem idx_any {α : Type} {p : α → Bool} {l : List α} : decide (0 ≤ idxI (l.findIdx? p)) = l.any p := by
  cases h : l.findIdx? p with
  | none => rw [List.findIdx?_eq_none_iff] at h; simp [idxI] at h ⊢; exact h
  | some i => rw [List.findIdx?_eq_some_iff_getElem] at h; obtain ⟨h1, h2, _⟩ := h; simp [idxI] at h2 ⊢; exact ⟨_, List.getElem_mem h1, h2⟩
theorem idx_none {α : Type} {p : α → Bool} {l : List α} (h : ∀ j (hj : j < l.length), p l[j] = false) : l.findIdx? p = none := by
  rw [List.findIdx?_eq_none_iff]
  intro x hx
  obtain ⟨j, hj, rfl⟩ := List.mem_iff_getElem.1 hx
  exact h j hj
theorem idx_some {α : Type} {p : α → Bool} {l : List α} {i : Nat} (hi : i < l.length) (h : ∀ j (hj : j < l.length), j < i → p l[j] = false) (hp : p l[i] = true) : l.findIdx? p = some i := by
  rw [List.findIdx?_eq_some_iff_getElem]
  exact ⟨hi, hp, fun j hj => by simp [h j (by omega) hj]⟩

theorem s68 (g : Nat) (caps : List AV) (hc : noIds caps = true) (p : V → Bool) (hg : ∀ v : V, Spec0 Try.prog g (.ag v.c :: caps) (· = bA (p v))) (a : List V) (ha : a.length < 4611686018427387904) :
    Spec0 Try.prog 68 [rowA a, .fn g caps] (· = idxA p a) := by
  refine spec0_of_vc tabOk elems ord68 Try.func68 rfl (rl := [.tmp 4]) rfl (by kernel_rfl) rfl ?_
  (simp -implicitDefEqProofs only [go_sem, rowA]; repeat (refine GO ?_; simp -implicitDefEqProofs only [go_sem, rowA]))
  refine LOOP.mk (ι := { i : Nat // i ≤ a.length ∧ ∀ j (hj : j < a.length), j < i → p a[j] = false }) (fun i => mkS [(0, rowA a), (1, .fn g caps), (7, .pr (.int .i64 a.length)), (8, .pr (.int .i64 i.1))] [] []) (fun i => a.length - i.1)
    ⟨0, by simp⟩ [] rfl rfl ?_ (fun i => ?_)
  · (simp -implicitDefEqProofs only [go_sem, rowA]; repeat (refine GO ?_; simp -implicitDefEqProofs only [go_sem, rowA]))
    simp [wks_noId caps hc]
  · obtain ⟨i, hi, hz⟩ := i
    (simp -implicitDefEqProofs only [go_sem, rowA]; repeat (refine GO ?_; simp -implicitDefEqProofs only [go_sem, rowA]))
    refine ⟨fun h => ?_, fun h => ?_⟩
    · simp only [decide_eq_true_eq] at h
      have hi' : i < a.length := by omega
      (simp -implicitDefEqProofs only [go_sem]; repeat (refine GO ?_; simp -implicitDefEqProofs only [go_sem]))
      refine EL.map hi' ?_
      (simp -implicitDefEqProofs only [go_sem, V.c]; repeat (refine GO ?_; simp -implicitDefEqProofs only [go_sem, V.c]))
      refine .pure _ (hg a[i]) ?_ fun r hr _ => ?_
      · simp [noIds, AV.noId, V.c, hc]
      subst hr
      (simp -implicitDefEqProofs only [go_sem, bA]; repeat (refine GO ?_; simp -implicitDefEqProofs only [go_sem, bA]))
      refine VIF.split (fun e => ?_) (fun e => ?_)
      · (simp -implicitDefEqProofs only [go_sem]; repeat (refine GO ?_; simp -implicitDefEqProofs only [go_sem]))
        simp [idxA, idxI, iA, idx_some hi' hz e]
      · (simp -implicitDefEqProofs only [go_sem]; repeat (refine GO ?_; simp -implicitDefEqProofs only [go_sem]))
        refine BACK.mk ⟨i + 1, hi', fun j hj hji => ?_⟩ [] rfl rfl (by show a.length - (i + 1) < a.length - i; omega) ?_
        · by_cases hji' : j = i
          · subst hji'; exact e
          · exact hz j hj (by omega)
        · (simp -implicitDefEqProofs only [go_sem, rowA]; repeat (refine GO ?_; simp -implicitDefEqProofs only [go_sem, rowA]))
          simp [wrap_succ hi' ha, wks_noId caps hc]
    · simp at h
      (simp -implicitDefEqProofs only [go_sem]; repeat (refine GO ?_; simp -implicitDefEqProofs only [go_sem]))
      simp [idxA, idxI, iA, idx_none fun j hj => hz j hj (by omega)]

def okR (r : List V) : Int := if 12 < r.length then 2 else if r.all okV then 0 else 1
theorem s58 (a : List V) (ha : a.length < 4611686018427387904) : Spec0 Try.prog 58 [rowA a, .fn 59 []] (· = bA (!a.all okV)) := by
  refine spec0_of_vc tabOk elems ord58 Try.func58 rfl (rl := [.tmp 4]) rfl (by kernel_rfl) rfl ?_
  (simp -implicitDefEqProofs only [go_sem, rowA]; repeat (refine GO ?_; simp -implicitDefEqProofs only [go_sem, rowA]))
  refine .pure _ (s68 59 [] rfl (fun v => !okV v) (fun v => s59 v) a ha) rfl fun r hr _ => ?_
  subst hr
  (simp -implicitDefEqProofs only [go_sem, idxA, iA]; repeat (refine GO ?_; simp -implicitDefEqProofs only [go_sem, idxA, iA]))
  rw [idx_any]
  simp [bA, List.not_all_eq_any_not]

theorem s36 (a : List V) (ha : a.length < 4611686018427387904) : Spec0 Try.prog 36 [rowA a] (· = iA (okR a)) := by
  refine spec0_of_vc tabOk elems ord36 Try.func36 rfl (rl := [.tmp 2]) rfl (by kernel_rfl) rfl ?_
  (simp -implicitDefEqProofs only [go_sem, rowA]; repeat (refine GO ?_; simp -implicitDefEqProofs only [go_sem, rowA]))
  refine VIF.split (fun h => ?_) (fun h => ?_)
  · (simp -implicitDefEqProofs only [go_sem]; repeat (refine GO ?_; simp -implicitDefEqProofs only [go_sem]))
    simp at h; simp [okR, iA]; omega
  · (simp -implicitDefEqProofs only [go_sem]; repeat (refine GO ?_; simp -implicitDefEqProofs only [go_sem]))
    refine .pure _ (s58 a ha) rfl fun r hr _ => ?_
    subst hr
    (simp -implicitDefEqProofs only [go_sem, bA]; repeat (refine GO ?_; simp -implicitDefEqProofs only [go_sem, bA]))
    simp at h
    have h' : ¬ 12 < a.length := by omega
    refine VIF.split (fun g => ?_) (fun g => ?_)
    · (simp -implicitDefEqProofs only [go_sem]; repeat (refine GO ?_; simp -implicitDefEqProofs only [go_sem]))
      simp only [Bool.not_eq_true'] at g
      simp [okR, iA, g, h']
    · (simp -implicitDefEqProofs only [go_sem]; repeat (refine GO ?_; simp -implicitDefEqProofs only [go_sem]))
      simp only [Bool.not_eq_false'] at g
      simp [okR, iA, g, h']

def okW (w : Int) : Bool := inB w (-72057594037927936) 72057594037927936
theorem s37 (w : Int) : Spec0 Try.prog 37 [iA w] (· = bA (okW w)) := by
  refine spec0_of_vc tabOk elems ord37 Try.func37 rfl (rl := [.tmp 2]) rfl (by kernel_rfl) rfl ?_
  (simp -implicitDefEqProofs only [go_sem, iA]; repeat (refine GO ?_; simp -implicitDefEqProofs only [go_sem, iA]))
  refine VIF.split (fun h => ?_) (fun h => ?_)
  · (simp -implicitDefEqProofs only [go_sem]; repeat (refine GO ?_; simp -implicitDefEqProofs only [go_sem]))
    simp at h; simp [h, okW, inB, bA]
  · (simp -implicitDefEqProofs only [go_sem]; repeat (refine GO ?_; simp -implicitDefEqProofs only [go_sem]))
    simp at h; simp [okW, inB, bA]; omega

structure It where
  row : List V
  w : Int
def It.c (t : It) : List AV := [rowA t.row, iA t.w]
def setA (z : List It) : AV := .im 2 (z.map It.c)
def okI (t : It) : Bool := decide (okR t.row = 0) && okW t.w
theorem s35 (t : It) (ht : t.row.length < 4611686018427387904) : Spec0 Try.prog 35 [.ag t.c] (· = bA (!okI t)) := by
  refine spec0_of_vc tabOk elems ord35 Try.func35 rfl (rl := [.tmp 2]) rfl (by kernel_rfl) rfl ?_
  (simp -implicitDefEqProofs only [go_sem, It.c, rowA, iA]; repeat (refine GO ?_; simp -implicitDefEqProofs only [go_sem, It.c, rowA, iA]))
  refine .pure _ (s36 t.row ht) rfl fun r hr _ => ?_
  subst hr
  (simp -implicitDefEqProofs only [go_sem, iA]; repeat (refine GO ?_; simp -implicitDefEqProofs only [go_sem, iA]))
  refine VIF.split (fun h => ?_) (fun h => ?_)
  · (simp -implicitDefEqProofs only [go_sem]; repeat (refine GO ?_; simp -implicitDefEqProofs only [go_sem]))
    simp at h; simp [okI, h, bA]
  · (simp -implicitDefEqProofs only [go_sem]; repeat (refine GO ?_; simp -implicitDefEqProofs only [go_sem]))
    refine .pure _ (s37 t.w) rfl fun r hr _ => ?_
    subst hr
    (simp -implicitDefEqProofs only [go_sem, bA]; repeat (refine GO ?_; simp -implicitDefEqProofs only [go_sem, bA]))
    simp at h; simp [okI, h]
theorem s40 (a b : It) (ha : a.row.length < 4611686018427387904) : Spec0 Try.prog 40 [.ag a.c, .ag b.c] (· = iA (cmpR a.row b.row)) := by
  refine spec0_of_vc tabOk elems ord40 Try.func40 rfl (rl := [.tmp 4]) rfl (by kernel_rfl) rfl ?_
  (simp -implicitDefEqProofs only [go_sem, It.c, rowA, iA]; repeat (refine GO ?_; simp -implicitDefEqProofs only [go_sem, It.c, rowA, iA]))
  refine .pure _ (s13 a.row b.row ha) rfl fun r hr _ => ?_
  subst hr
  (simp -implicitDefEqProofs only [go_sem]; repeat (refine GO ?_; simp -implicitDefEqProofs only [go_sem]))
  rfl
end Yt
