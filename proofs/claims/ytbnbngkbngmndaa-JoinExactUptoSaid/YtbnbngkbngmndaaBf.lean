/- Contracts of the program's functions over abstract values and states, plain facts on which these lean, and the framework of these values over the model: Values and rows: how they compare. Values and rows: which may be. A stable sort, in place: what it leaves. A rotation, in place. An insertion sort, in place. Merging in place: the plain part. Merging in place: the walk. Sorting stably, in place: the whole. How rows are ordered; the stable sort of items by rows. Items: found, weighed. Copies; sums that are kept in two parts. What the laws leave aside; rows that are equal. Rows that are equal; sets that may be. Sums by rows: the plain part of what is made of items. Group by group: the plain part. What is made of items: the walk. Is a set right; its size. The law SetSorted. Sets added; sets compared. Rows and values by the page; the set of rows. The page's comparison of rows, its check of sets. The page's sort. The conditions stand in each theorem. -/
import Derived.Test.YtbnbngkbngmndaaBe
set_option linter.all false
namespace Yt
open Go Go.Vc Go.Proofs
set_option maxRecDepth 10000

structure V where
  k : Int
  i : Int
  s : ByteArray
def V.c (v : V) : List AV := [.pr (.int .i64 v.k), .pr (.int .i64 v.i), .pr (.string v.s)]
def rowA (r : List V) : AV := .im 3 (r.map V.c)
def cmpI (x y : Int) : Int := if x < y then -1 else if y < x then 1 else 0
def cmpS (x y : ByteArray) : Int := if Op.bytesLess x.toList y.toList then -1 else if !(Op.bytesLess x.toList y.toList || decide (x = y)) then 1 else 0
def nz : List Int → Int
  | [] => 0
  | x :: r => if x = 0 then nz r else x
def cmpV (a b : V) : Int := nz [cmpI a.k b.k, cmpI a.i b.i, cmpS a.s b.s]
def cmpR : List V → List V → Int
  | [], [] => 0
  | [], _ :: _ => -1
  | _ :: _, [] => 1
  | a :: r, b :: r' => if cmpV a b = 0 then cmpR r r' else cmpV a b

theorem s72 (x : Int) : Spec0 Try.prog 140 [.pr (.int .i64 x)] (· = .pr (.bool false)) := by
  refine spec0_of_vc tabOk elems ord140 Try.func140 rfl (rl := [.tmp 2]) rfl (by kernel_rfl) rfl ?_
  (simp -implicitDefEqProofs only [go_sem]; repeat (refine GO ?_; simp -implicitDefEqProofs only [go_sem]))
  simp
theorem s73 (x : ByteArray) : Spec0 Try.prog 141 [.pr (.string x)] (· = .pr (.bool false)) := by
  refine spec0_of_vc tabOk elems ord141 Try.func141 rfl (rl := [.tmp 2]) rfl (by kernel_rfl) rfl ?_
  (simp -implicitDefEqProofs only [go_sem]; repeat (refine GO ?_; simp -implicitDefEqProofs only [go_sem]))
  simp
theorem s62 (x y : Int) : Spec0 Try.prog 130 [.pr (.int .i64 x), .pr (.int .i64 y)] (· = .pr (.int .i64 (cmpI x y))) := by
  refine spec0_of_vc tabOk elems ord130 Try.func130 rfl (rl := [.tmp 4]) rfl (by kernel_rfl) rfl ?_
  (simp -implicitDefEqProofs only [go_sem]; repeat (refine GO ?_; simp -implicitDefEqProofs only [go_sem]))
  refine .pure _ (s72 x) rfl fun r hr _ => ?_
  subst hr
  (simp -implicitDefEqProofs only [go_sem]; repeat (refine GO ?_; simp -implicitDefEqProofs only [go_sem]))
  refine .pure _ (s72 y) rfl fun r hr _ => ?_
  subst hr
  (simp -implicitDefEqProofs only [go_sem]; repeat (refine GO ?_; simp -implicitDefEqProofs only [go_sem]))
  refine ⟨fun h => ?_, fun h => ?_⟩
  · (simp -implicitDefEqProofs only [go_sem]; repeat (refine GO ?_; simp -implicitDefEqProofs only [go_sem]))
    simp at h; simp [h, cmpI]
  · (simp -implicitDefEqProofs only [go_sem]; repeat (refine GO ?_; simp -implicitDefEqProofs only [go_sem]))
    simp at h
    have h' : ¬ x < y := by omega
    refine ⟨fun g => ?_, fun g => ?_⟩
    · (simp -implicitDefEqProofs only [go_sem]; repeat (refine GO ?_; simp -implicitDefEqProofs only [go_sem]))
      simp at g; simp [g, h', cmpI]
    · (simp -implicitDefEqProofs only [go_sem]; repeat (refine GO ?_; simp -implicitDefEqProofs only [go_sem]))
      simp at g
      have g' : ¬ y < x := by omega
      simp [g', h', cmpI]
theorem s63 (x y : ByteArray) : Spec0 Try.prog 131 [.pr (.string x), .pr (.string y)] (· = .pr (.int .i64 (cmpS x y))) := by
  refine spec0_of_vc tabOk elems ord131 Try.func131 rfl (rl := [.tmp 4]) rfl (by kernel_rfl) rfl ?_
  (simp -implicitDefEqProofs only [go_sem]; repeat (refine GO ?_; simp -implicitDefEqProofs only [go_sem]))
  refine .pure _ (s73 x) rfl fun r hr _ => ?_
  subst hr
  (simp -implicitDefEqProofs only [go_sem]; repeat (refine GO ?_; simp -implicitDefEqProofs only [go_sem]))
  refine .pure _ (s73 y) rfl fun r hr _ => ?_
  subst hr
  (simp -implicitDefEqProofs only [go_sem]; repeat (refine GO ?_; simp -implicitDefEqProofs only [go_sem]))
  refine ⟨fun h => ?_, fun h => ?_⟩
  · (simp -implicitDefEqProofs only [go_sem]; repeat (refine GO ?_; simp -implicitDefEqProofs only [go_sem]))
    simp [h, cmpS]
  · (simp -implicitDefEqProofs only [go_sem]; repeat (refine GO ?_; simp -implicitDefEqProofs only [go_sem]))
    refine ⟨fun g => ?_, fun g => ?_⟩
    · (simp -implicitDefEqProofs only [go_sem]; repeat (refine GO ?_; simp -implicitDefEqProofs only [go_sem]))
      simp only [h] at g; simp [cmpS, h]; simp at g; exact g
    · (simp -implicitDefEqProofs only [go_sem]; repeat (refine GO ?_; simp -implicitDefEqProofs only [go_sem]))
      simp only [h] at g; simp [cmpS, h]; simp at g; exact g

theorem nz_take {l : List Int} {i : Nat} (hz : ∀ x ∈ l.take i, x = 0) : nz l = nz (l.drop i) := by
  induction l generalizing i with
  | nil => simp
  | cons x r ih =>
    cases i with
    | zero => rfl
    | succ i =>
      simp only [List.take_succ_cons, List.mem_cons, forall_eq_or_imp] at hz
      simp only [nz, hz.1, if_true, List.drop_succ_cons]
      exact ih hz.2
def intsA (l : List Int) : AV := .im 1 (l.map fun x => [.pr (.int .i64 x)])
theorem wrap_succ {i : Nat} {n : Nat} (h : i < n) (hn : n < 4611686018427387904) : IntKind.i64.wrap ((i : Int) + 1) = ((i + 1 : Nat) : Int) := by rw [wrap_i64] <;> omega
theorem s61 (l : List Int) (hl : l.length < 4611686018427387904) : Spec0 Try.prog 129 [intsA l] (· = .pr (.int .i64 (nz l))) := by
  refine spec0_of_vc tabOk elems ord129 Try.func129 rfl (rl := [.tmp 2]) rfl (by kernel_rfl) rfl ?_
  (simp -implicitDefEqProofs only [go_sem, intsA]; repeat (refine GO ?_; simp -implicitDefEqProofs only [go_sem, intsA]))
  refine LOOP.mk (ι := { i : Nat // i ≤ l.length ∧ ∀ x ∈ l.take i, x = 0 }) (fun i => mkS [(3, .pr (.int .i64 0)), (6, .im 1 (l.map fun x => [.pr (.int .i64 x)])), (7, .pr (.int .i64 l.length)), (8, .pr (.int .i64 i.1))] [] []) (fun i => l.length - i.1)
    ⟨0, by simp⟩ [] rfl rfl ?_ (fun i => ?_)
  · (simp -implicitDefEqProofs only [go_sem]; repeat (refine GO ?_; simp -implicitDefEqProofs only [go_sem]))
    simp
  · obtain ⟨i, hi, hz⟩ := i
    (simp -implicitDefEqProofs only [go_sem]; repeat (refine GO ?_; simp -implicitDefEqProofs only [go_sem]))
    refine ⟨fun h => ?_, fun h => ?_⟩
    · simp only [decide_eq_true_eq] at h
      have hi' : i < l.length := by omega
      have hd : nz l = nz (l[i] :: l.drop (i + 1)) := by rw [nz_take hz, List.drop_eq_getElem_cons hi']
      (simp -implicitDefEqProofs only [go_sem]; repeat (refine GO ?_; simp -implicitDefEqProofs only [go_sem]))
      refine EL.map hi' ?_
      (simp -implicitDefEqProofs only [go_sem]; repeat (refine GO ?_; simp -implicitDefEqProofs only [go_sem]))
      refine ⟨fun g => ?_, fun g => ?_⟩
      · (simp -implicitDefEqProofs only [go_sem]; repeat (refine GO ?_; simp -implicitDefEqProofs only [go_sem]))
        simp at g
        simp [hd, nz, g]
      · (simp -implicitDefEqProofs only [go_sem]; repeat (refine GO ?_; simp -implicitDefEqProofs only [go_sem]))
        simp at g
        refine BACK.mk ⟨i + 1, hi', ?_⟩ [] rfl rfl (by show l.length - (i + 1) < l.length - i; omega) ?_
        · intro x hx
          rw [List.take_add_one, List.getElem?_eq_getElem hi'] at hx
          rcases List.mem_append.1 hx with hx | hx
          · exact hz x hx
          · simp at hx; rw [hx]; exact g
        · (simp -implicitDefEqProofs only [go_sem]; repeat (refine GO ?_; simp -implicitDefEqProofs only [go_sem]))
          simp [wrap_succ hi' hl]
    · (simp -implicitDefEqProofs only [go_sem]; repeat (refine GO ?_; simp -implicitDefEqProofs only [go_sem]))
      simp at h
      have : i = l.length := by omega
      subst this
      have : nz l = 0 := by rw [nz_take hz]; simp [nz]
      simp [this]

theorem s45 (a b : V) : Spec0 Try.prog 101 [.ag a.c, .ag b.c] (· = .pr (.int .i64 (cmpV a b))) := by
  refine spec0_of_vc tabOk elems ord101 Try.func101 rfl (rl := [.tmp 4]) rfl (by kernel_rfl) rfl ?_
  (simp -implicitDefEqProofs only [go_sem, V.c]; repeat (refine GO ?_; simp -implicitDefEqProofs only [go_sem, V.c]))
  refine .pure _ (s62 a.k b.k) rfl fun r hr _ => ?_
  subst hr
  (simp -implicitDefEqProofs only [go_sem]; repeat (refine GO ?_; simp -implicitDefEqProofs only [go_sem]))
  refine .pure _ (s62 a.i b.i) rfl fun r hr _ => ?_
  subst hr
  (simp -implicitDefEqProofs only [go_sem]; repeat (refine GO ?_; simp -implicitDefEqProofs only [go_sem]))
  refine .pure _ (s63 a.s b.s) rfl fun r hr _ => ?_
  subst hr
  (simp -implicitDefEqProofs only [go_sem]; repeat (refine GO ?_; simp -implicitDefEqProofs only [go_sem]))

  refine .lendTo (s61 [cmpI a.k b.k, cmpI a.i b.i, cmpS a.s b.s] (by simp)) ?_ (by rintro _ rfl; rfl) fun r hr => ?_
  · (simp -implicitDefEqProofs only [go_sem]; repeat (refine GO ?_; simp -implicitDefEqProofs only [go_sem]))
    simp [intsA]
  subst hr
  (simp -implicitDefEqProofs only [go_sem]; repeat (refine GO ?_; simp -implicitDefEqProofs only [go_sem]))
  rfl

theorem cmpR_cons {a b : List V} {i : Nat} (ha : i < a.length) (hb : i < b.length) : cmpR (a.drop i) (b.drop i) = if cmpV a[i] b[i] = 0 then cmpR (a.drop (i + 1)) (b.drop (i + 1)) else cmpV a[i] b[i] := by
  rw [List.drop_eq_getElem_cons ha, List.drop_eq_getElem_cons hb]; rfl
theorem cmpR_long {a b : List V} {i : Nat} (ha : i < a.length) (hb : b.length ≤ i) : cmpR (a.drop i) (b.drop i) = 1 := by
  rw [List.drop_eq_getElem_cons ha, List.drop_of_length_le hb]; rfl
theorem cmpR_end {a b : List V} {i : Nat} (ha : a.length ≤ i) (hb : i ≤ b.length) (hi : i = a.length) : cmpR (a.drop i) (b.drop i) = if a.length < b.length then -1 else 0 := by
  rw [List.drop_of_length_le ha]
  by_cases h : i < b.length
  · rw [List.drop_eq_getElem_cons h, if_pos (by omega)]; rfl
  · rw [List.drop_of_length_le (by omega), if_neg (by omega)]; rfl

theorem s44 (a b : List V) (ha : a.length < 4611686018427387904) : Spec0 Try.prog 126 [rowA a, rowA b, .fn 101 []] (· = .pr (.int .i64 (cmpR a b))) := by
  refine spec0_of_vc tabOk elems ord126 Try.func126 rfl (rl := [.tmp 6]) rfl (by kernel_rfl) rfl ?_
  (simp -implicitDefEqProofs only [go_sem, rowA]; repeat (refine GO ?_; simp -implicitDefEqProofs only [go_sem, rowA]))
  refine LOOP.mk (ι := { i : Nat // i ≤ a.length ∧ i ≤ b.length ∧ cmpR a b = cmpR (a.drop i) (b.drop i) }) (fun i => mkS [(0, rowA a), (1, rowA b), (2, .fn 101 []), (11, rowA a), (12, .pr (.int .i64 a.length)), (13, .pr (.int .i64 i.1))] [] []) (fun i => a.length - i.1)
    ⟨0, by simp⟩ [] rfl rfl ?_ (fun i => ?_)
  · (simp -implicitDefEqProofs only [go_sem, rowA]; repeat (refine GO ?_; simp -implicitDefEqProofs only [go_sem, rowA]))
    simp
  · obtain ⟨i, hi, hj, hz⟩ := i
    (simp -implicitDefEqProofs only [go_sem, rowA]; repeat (refine GO ?_; simp -implicitDefEqProofs only [go_sem, rowA]))
    refine ⟨fun h => ?_, fun h => ?_⟩
    · simp only [decide_eq_true_eq] at h
      have hi' : i < a.length := by omega
      (simp -implicitDefEqProofs only [go_sem]; repeat (refine GO ?_; simp -implicitDefEqProofs only [go_sem]))
      refine EL.map hi' ?_
      (simp -implicitDefEqProofs only [go_sem, V.c]; repeat (refine GO ?_; simp -implicitDefEqProofs only [go_sem, V.c]))
      refine ⟨fun g => ?_, fun g => ?_⟩
      · (simp -implicitDefEqProofs only [go_sem]; repeat (refine GO ?_; simp -implicitDefEqProofs only [go_sem]))
        simp at g
        simp [hz, cmpR_long hi' (by omega)]
      · simp at g
        have hj' : i < b.length := by omega
        (simp -implicitDefEqProofs only [go_sem]; repeat (refine GO ?_; simp -implicitDefEqProofs only [go_sem]))
        refine EL.map hj' ?_
        (simp -implicitDefEqProofs only [go_sem, V.c]; repeat (refine GO ?_; simp -implicitDefEqProofs only [go_sem, V.c]))
        refine .pure _ (s45 a[i] b[i]) rfl fun r hr _ => ?_
        subst hr
        (simp -implicitDefEqProofs only [go_sem]; repeat (refine GO ?_; simp -implicitDefEqProofs only [go_sem]))
        refine ⟨fun e => ?_, fun e => ?_⟩
        · (simp -implicitDefEqProofs only [go_sem]; repeat (refine GO ?_; simp -implicitDefEqProofs only [go_sem]))
          simp at e
          simp [hz, cmpR_cons hi' hj', e]
        · (simp -implicitDefEqProofs only [go_sem]; repeat (refine GO ?_; simp -implicitDefEqProofs only [go_sem]))
          simp at e
          refine BACK.mk ⟨i + 1, hi', hj', by rw [hz, cmpR_cons hi' hj', if_pos e]⟩ [] rfl rfl (by show a.length - (i + 1) < a.length - i; omega) ?_
          (simp -implicitDefEqProofs only [go_sem, rowA]; repeat (refine GO ?_; simp -implicitDefEqProofs only [go_sem, rowA]))
          simp [wrap_succ hi' ha]
    · simp at h
      have hil : i = a.length := by omega
      (simp -implicitDefEqProofs only [go_sem]; repeat (refine GO ?_; simp -implicitDefEqProofs only [go_sem]))
      refine ⟨fun g => ?_, fun g => ?_⟩
      · (simp -implicitDefEqProofs only [go_sem]; repeat (refine GO ?_; simp -implicitDefEqProofs only [go_sem]))
        simp at g
        simp [hz, cmpR_end h hj hil, g]
      · (simp -implicitDefEqProofs only [go_sem]; repeat (refine GO ?_; simp -implicitDefEqProofs only [go_sem]))
        simp at g
        have : ¬ a.length < b.length := by omega
        simp [hz, cmpR_end h hj hil, this]

theorem s13 (a b : List V) (ha : a.length < 4611686018427387904) : Spec0 Try.prog 93 [rowA a, rowA b] (· = .pr (.int .i64 (cmpR a b))) := by
  refine spec0_of_vc tabOk elems ord93 Try.func93 rfl (rl := [.tmp 4]) rfl (by kernel_rfl) rfl ?_
  (simp -implicitDefEqProofs only [go_sem, rowA]; repeat (refine GO ?_; simp -implicitDefEqProofs only [go_sem, rowA]))
  refine .pure _ (s44 a b ha) rfl fun r hr _ => ?_
  subst hr
  (simp -implicitDefEqProofs only [go_sem]; repeat (refine GO ?_; simp -implicitDefEqProofs only [go_sem]))
end Yt
namespace Yt
open Go Go.Vc Go.Proofs
set_option maxRecDepth 10000

def noS : ByteArray := ⟨#[]⟩
def inB (x lo hi : Int) : Bool := decide (lo ≤ x) && decide (x ≤ hi)
def okV (v : V) : Bool :=
  if v.k = 1 then decide (v.i = 0) && decide (v.s = noS)
  else if v.k = 2 then inB v.i 0 1 && decide (v.s = noS)
  else if v.k = 3 then inB v.i (-1152921504606846976) 1152921504606846976 && decide (v.s = noS)
  else if v.k = 4 then decide (v.i = 0) && decide ((v.s.size : Int) ≤ 24)
  else false
def eqV (a b : V) : Bool := decide (a.k = b.k) && decide (a.i = b.i) && decide (a.s = b.s)
def bA (b : Bool) : AV := .pr (.bool b)
def iA (n : Int) : AV := .pr (.int .i64 n)

theorem s46 (a b : V) : Spec0 Try.prog 43 [.ag a.c, .ag b.c] (· = bA (eqV a b)) := by
  refine spec0_of_vc tabOk elems ord43 Try.func43 rfl (rl := [.tmp 4]) rfl (by kernel_rfl) rfl ?_
  (simp -implicitDefEqProofs only [go_sem, V.c]; repeat (refine GO ?_; simp -implicitDefEqProofs only [go_sem, V.c]))
  refine VIF.split (fun h => ?_) (fun h => ?_)
  · (simp -implicitDefEqProofs only [go_sem]; repeat (refine GO ?_; simp -implicitDefEqProofs only [go_sem]))
    refine VIF.split (fun g => ?_) (fun g => ?_)
    · (simp -implicitDefEqProofs only [go_sem]; repeat (refine GO ?_; simp -implicitDefEqProofs only [go_sem]))
      simp at h g; simp [h, g, eqV, bA]
    · (simp -implicitDefEqProofs only [go_sem]; repeat (refine GO ?_; simp -implicitDefEqProofs only [go_sem]))
      simp at h g; simp [h, g, eqV, bA]
  · (simp -implicitDefEqProofs only [go_sem]; repeat (refine GO ?_; simp -implicitDefEqProofs only [go_sem]))
    simp at h; simp [h, eqV, bA]

theorem s74 (x y : Int) (hy : 0 ≤ y) (hy' : y < 4611686018427387904) : Spec0 Try.prog 150 [iA x, iA y] (· = bA (inB x (-y) y)) := by
  refine spec0_of_vc tabOk elems ord150 Try.func150 rfl (rl := [.tmp 4]) rfl (by kernel_rfl) rfl ?_
  have hw : IntKind.i64.wrap (0 - y) = -y := by rw [wrap_i64] <;> omega
  (simp -implicitDefEqProofs only [go_sem, iA]; repeat (refine GO ?_; simp -implicitDefEqProofs only [go_sem, iA]))
  refine VIF.split (fun h => ?_) (fun h => ?_)
  · (simp -implicitDefEqProofs only [go_sem]; repeat (refine GO ?_; simp -implicitDefEqProofs only [go_sem]))
    rw [hw] at h
    simp at h; simp [h, inB, bA]
  · (simp -implicitDefEqProofs only [go_sem]; repeat (refine GO ?_; simp -implicitDefEqProofs only [go_sem]))
    rw [hw] at h
    simp at h; simp [h, inB, bA]; omega

theorem s64 (x y z : Int) : Spec0 Try.prog 128 [iA x, iA y, iA z] (· = bA (inB x y z)) := by
  refine spec0_of_vc tabOk elems ord128 Try.func128 rfl (rl := [.tmp 6]) rfl (by kernel_rfl) rfl ?_
  (simp -implicitDefEqProofs only [go_sem, iA]; repeat (refine GO ?_; simp -implicitDefEqProofs only [go_sem, iA]))
  refine VIF.split (fun h => ?_) (fun h => ?_)
  · (simp -implicitDefEqProofs only [go_sem]; repeat (refine GO ?_; simp -implicitDefEqProofs only [go_sem]))
    simp at h; simp [h, inB, bA]
  · (simp -implicitDefEqProofs only [go_sem]; repeat (refine GO ?_; simp -implicitDefEqProofs only [go_sem]))
    simp at h; simp [h, inB, bA]; omega
theorem s53 (x y z : Int) : Spec0 Try.prog 87 [iA x, iA y, iA z] (· = bA (inB x y z)) := by
  refine spec0_of_vc tabOk elems ord87 Try.func87 rfl (rl := [.tmp 6]) rfl (by kernel_rfl) rfl ?_
  (simp -implicitDefEqProofs only [go_sem, iA]; repeat (refine GO ?_; simp -implicitDefEqProofs only [go_sem, iA]))
  refine VIF.split (fun h => ?_) (fun h => ?_)
  · (simp -implicitDefEqProofs only [go_sem]; repeat (refine GO ?_; simp -implicitDefEqProofs only [go_sem]))
    simp at h; simp [h, inB, bA]
  · (simp -implicitDefEqProofs only [go_sem]; repeat (refine GO ?_; simp -implicitDefEqProofs only [go_sem]))
    simp at h; simp [h, inB, bA]; omega

theorem s69 (v : V) : Spec0 Try.prog 143 [.ag v.c] (· = iA (if okV v then 0 else 1)) := by
  refine spec0_of_vc tabOk elems ord143 Try.func143 rfl (rl := [.tmp 2]) rfl (by kernel_rfl) rfl ?_
  (simp -implicitDefEqProofs only [go_sem, V.c]; repeat (refine GO ?_; simp -implicitDefEqProofs only [go_sem, V.c]))
  iterate 9 all_goals (first
    | (refine VIF.split (fun h => ?_) (fun h => ?_) <;> (simp -implicitDefEqProofs only [go_sem]; repeat (refine GO ?_; simp -implicitDefEqProofs only [go_sem])))
    | (refine .pure _ (s74 v.i 1152921504606846976 (by decide) (by decide)) rfl fun r hr _ => ?_
       subst hr
       (simp -implicitDefEqProofs only [go_sem, bA]; repeat (refine GO ?_; simp -implicitDefEqProofs only [go_sem, bA])))
    | skip)
  all_goals simp_all [okV, inB, iA, bA, noS]
  all_goals (intros; omega)

theorem s59 (v : V) : Spec0 Try.prog 134 [.ag v.c] (· = bA (!okV v)) := by
  refine spec0_of_vc tabOk elems ord134 Try.func134 rfl (rl := [.tmp 2]) rfl (by kernel_rfl) rfl ?_
  (simp -implicitDefEqProofs only [go_sem, V.c]; repeat (refine GO ?_; simp -implicitDefEqProofs only [go_sem, V.c]))
  refine .pure _ (s69 v) rfl fun r hr _ => ?_
  subst hr
  (simp -implicitDefEqProofs only [go_sem, iA]; repeat (refine GO ?_; simp -implicitDefEqProofs only [go_sem, iA]))
  cases okV v <;> simp [bA]

/-- The first place of which p holds. -/
def idxI : Option Nat → Int
  | some i => i
  | none => -1
def idxA {α : Type} (p : α → Bool) (l : List α) : AV := iA (idxI (l.findIdx? p))
theorem idx_any {α : Type} {p : α → Bool} {l : List α} : decide (0 ≤ idxI (l.findIdx? p)) = l.any p := by
  cases h : l.findIdx? p with
  | none => rw [List.findIdx?_eq_none_iff] at h; simp [idxI] at h ⊢; exact h
  | some i => rw [List.findIdx?_eq_some_iff_getElem] at h; obtain ⟨h1, h2, _⟩ := h; simp [idxI] at h2 ⊢; exact ⟨_, List.getElem_mem h1, h2⟩
theorem idx_none {α : Type} {p : α → Bool} {l : List α} (h : ∀ j (hj : j < l.length), p l[j] = false) : l.findIdx? p = none := by
  rw [List.findIdx?_eq_none_iff]
  intro x hx
  obtain ⟨j, hj, rfl⟩ := List.mem_iff_getElem.1 hx
  exact h j hj
theorem idx_some {α : Type} {p : α → Bool} {l : List α} {i : Nat} (hi : i < l.length) (h : ∀ j (hj : j < l.length), j < i → p l[j] = false) (hp : p l[i] = true) : l.findIdx? p = some i := by
  rw [List.findIdx?_eq_some_iff_getElem]
  exact ⟨hi, hp, fun j hj => by simp [h j (by omega) hj]⟩

theorem s68 (g : Nat) (caps : List AV) (hc : noIds caps = true) (p : V → Bool) (hg : ∀ v : V, Spec0 Try.prog g (.ag v.c :: caps) (· = bA (p v))) (a : List V) (ha : a.length < 4611686018427387904) :
    Spec0 Try.prog 142 [rowA a, .fn g caps] (· = idxA p a) := by
  refine spec0_of_vc tabOk elems ord142 Try.func142 rfl (rl := [.tmp 4]) rfl (by kernel_rfl) rfl ?_
  (simp -implicitDefEqProofs only [go_sem, rowA]; repeat (refine GO ?_; simp -implicitDefEqProofs only [go_sem, rowA]))
  refine LOOP.mk (ι := { i : Nat // i ≤ a.length ∧ ∀ j (hj : j < a.length), j < i → p a[j] = false }) (fun i => mkS [(0, rowA a), (1, .fn g caps), (7, .pr (.int .i64 a.length)), (8, .pr (.int .i64 i.1))] [] []) (fun i => a.length - i.1)
    ⟨0, by simp⟩ [] rfl rfl ?_ (fun i => ?_)
  · (simp -implicitDefEqProofs only [go_sem, rowA]; repeat (refine GO ?_; simp -implicitDefEqProofs only [go_sem, rowA]))
    simp [wks_noId caps hc]
  · obtain ⟨i, hi, hz⟩ := i
    (simp -implicitDefEqProofs only [go_sem, rowA]; repeat (refine GO ?_; simp -implicitDefEqProofs only [go_sem, rowA]))
    refine ⟨fun h => ?_, fun h => ?_⟩
    · simp only [decide_eq_true_eq] at h
      have hi' : i < a.length := by omega
      (simp -implicitDefEqProofs only [go_sem]; repeat (refine GO ?_; simp -implicitDefEqProofs only [go_sem]))
      refine EL.map hi' ?_
      (simp -implicitDefEqProofs only [go_sem, V.c]; repeat (refine GO ?_; simp -implicitDefEqProofs only [go_sem, V.c]))
      refine .pure _ (hg a[i]) ?_ fun r hr _ => ?_
      · simp [noIds, AV.noId, V.c, hc]
      subst hr
      (simp -implicitDefEqProofs only [go_sem, bA]; repeat (refine GO ?_; simp -implicitDefEqProofs only [go_sem, bA]))
      refine VIF.split (fun e => ?_) (fun e => ?_)
      · (simp -implicitDefEqProofs only [go_sem]; repeat (refine GO ?_; simp -implicitDefEqProofs only [go_sem]))
        simp [idxA, idxI, iA, idx_some hi' hz e]
      · (simp -implicitDefEqProofs only [go_sem]; repeat (refine GO ?_; simp -implicitDefEqProofs only [go_sem]))
        refine BACK.mk ⟨i + 1, hi', fun j hj hji => ?_⟩ [] rfl rfl (by show a.length - (i + 1) < a.length - i; omega) ?_
        · by_cases hji' : j = i
          · subst hji'; exact e
          · exact hz j hj (by omega)
        · (simp -implicitDefEqProofs only [go_sem, rowA]; repeat (refine GO ?_; simp -implicitDefEqProofs only [go_sem, rowA]))
          simp [wrap_succ hi' ha, wks_noId caps hc]
    · simp at h
      (simp -implicitDefEqProofs only [go_sem]; repeat (refine GO ?_; simp -implicitDefEqProofs only [go_sem]))
      simp [idxA, idxI, iA, idx_none fun j hj => hz j hj (by omega)]

def okR (r : List V) : Int := if 12 < r.length then 2 else if r.all okV then 0 else 1
theorem s58 (a : List V) (ha : a.length < 4611686018427387904) : Spec0 Try.prog 133 [rowA a, .fn 134 []] (· = bA (!a.all okV)) := by
  refine spec0_of_vc tabOk elems ord133 Try.func133 rfl (rl := [.tmp 4]) rfl (by kernel_rfl) rfl ?_
  (simp -implicitDefEqProofs only [go_sem, rowA]; repeat (refine GO ?_; simp -implicitDefEqProofs only [go_sem, rowA]))
  refine .pure _ (s68 134 [] rfl (fun v => !okV v) (fun v => s59 v) a ha) rfl fun r hr _ => ?_
  subst hr
  (simp -implicitDefEqProofs only [go_sem, idxA, iA]; repeat (refine GO ?_; simp -implicitDefEqProofs only [go_sem, idxA, iA]))
  rw [idx_any]
  simp [bA, List.not_all_eq_any_not]

theorem s36 (a : List V) (ha : a.length < 4611686018427387904) : Spec0 Try.prog 104 [rowA a] (· = iA (okR a)) := by
  refine spec0_of_vc tabOk elems ord104 Try.func104 rfl (rl := [.tmp 2]) rfl (by kernel_rfl) rfl ?_
  (simp -implicitDefEqProofs only [go_sem, rowA]; repeat (refine GO ?_; simp -implicitDefEqProofs only [go_sem, rowA]))
  refine VIF.split (fun h => ?_) (fun h => ?_)
  · (simp -implicitDefEqProofs only [go_sem]; repeat (refine GO ?_; simp -implicitDefEqProofs only [go_sem]))
    simp at h; simp [okR, iA]; omega
  · (simp -implicitDefEqProofs only [go_sem]; repeat (refine GO ?_; simp -implicitDefEqProofs only [go_sem]))
    refine .pure _ (s58 a ha) rfl fun r hr _ => ?_
    subst hr
    (simp -implicitDefEqProofs only [go_sem, bA]; repeat (refine GO ?_; simp -implicitDefEqProofs only [go_sem, bA]))
    simp at h
    have h' : ¬ 12 < a.length := by omega
    refine VIF.split (fun g => ?_) (fun g => ?_)
    · (simp -implicitDefEqProofs only [go_sem]; repeat (refine GO ?_; simp -implicitDefEqProofs only [go_sem]))
      simp only [Bool.not_eq_true'] at g
      simp [okR, iA, g, h']
    · (simp -implicitDefEqProofs only [go_sem]; repeat (refine GO ?_; simp -implicitDefEqProofs only [go_sem]))
      simp only [Bool.not_eq_false'] at g
      simp [okR, iA, g, h']

def okW (w : Int) : Bool := inB w (-72057594037927936) 72057594037927936
theorem s37 (w : Int) : Spec0 Try.prog 105 [iA w] (· = bA (okW w)) := by
  refine spec0_of_vc tabOk elems ord105 Try.func105 rfl (rl := [.tmp 2]) rfl (by kernel_rfl) rfl ?_
  (simp -implicitDefEqProofs only [go_sem, iA]; repeat (refine GO ?_; simp -implicitDefEqProofs only [go_sem, iA]))
  refine VIF.split (fun h => ?_) (fun h => ?_)
  · (simp -implicitDefEqProofs only [go_sem]; repeat (refine GO ?_; simp -implicitDefEqProofs only [go_sem]))
    simp at h; simp [h, okW, inB, bA]
  · (simp -implicitDefEqProofs only [go_sem]; repeat (refine GO ?_; simp -implicitDefEqProofs only [go_sem]))
    simp at h; simp [okW, inB, bA]; omega

structure It where
  row : List V
  w : Int
def It.c (t : It) : List AV := [rowA t.row, iA t.w]
def setA (z : List It) : AV := .im 2 (z.map It.c)
def okI (t : It) : Bool := decide (okR t.row = 0) && okW t.w
theorem s35 (t : It) (ht : t.row.length < 4611686018427387904) : Spec0 Try.prog 119 [.ag t.c] (· = bA (!okI t)) := by
  refine spec0_of_vc tabOk elems ord119 Try.func119 rfl (rl := [.tmp 2]) rfl (by kernel_rfl) rfl ?_
  (simp -implicitDefEqProofs only [go_sem, It.c, rowA, iA]; repeat (refine GO ?_; simp -implicitDefEqProofs only [go_sem, It.c, rowA, iA]))
  refine .pure _ (s36 t.row ht) rfl fun r hr _ => ?_
  subst hr
  (simp -implicitDefEqProofs only [go_sem, iA]; repeat (refine GO ?_; simp -implicitDefEqProofs only [go_sem, iA]))
  refine VIF.split (fun h => ?_) (fun h => ?_)
  · (simp -implicitDefEqProofs only [go_sem]; repeat (refine GO ?_; simp -implicitDefEqProofs only [go_sem]))
    simp at h; simp [okI, h, bA]
  · (simp -implicitDefEqProofs only [go_sem]; repeat (refine GO ?_; simp -implicitDefEqProofs only [go_sem]))
    refine .pure _ (s37 t.w) rfl fun r hr _ => ?_
    subst hr
    (simp -implicitDefEqProofs only [go_sem, bA]; repeat (refine GO ?_; simp -implicitDefEqProofs only [go_sem, bA]))
    simp at h; simp [okI, h]
theorem s40 (a b : It) (ha : a.row.length < 4611686018427387904) : Spec0 Try.prog 121 [.ag a.c, .ag b.c] (· = iA (cmpR a.row b.row)) := by
  refine spec0_of_vc tabOk elems ord121 Try.func121 rfl (rl := [.tmp 4]) rfl (by kernel_rfl) rfl ?_
  (simp -implicitDefEqProofs only [go_sem, It.c, rowA, iA]; repeat (refine GO ?_; simp -implicitDefEqProofs only [go_sem, It.c, rowA, iA]))
  refine .pure _ (s13 a.row b.row ha) rfl fun r hr _ => ?_
  subst hr
  (simp -implicitDefEqProofs only [go_sem]; repeat (refine GO ?_; simp -implicitDefEqProofs only [go_sem]))
  rfl
end Yt
namespace Yt
open Go Go.Vc Go.Proofs
set_option maxRecDepth 10000
set_option linter.unusedSimpArgs false
set_option linter.unusedVariables false
def so (z : List It) : Ob := ⟨2, z.map It.c⟩
theorem so_leafy (z : List It) : (so z).leafy := by
  rw [so, leafy_do]
  exact leafs2_map fun x _ => by simp [It.c, leafs, rowA, iA, AV.leaf]
/-- Within [a, b) its items are exchanged; nothing else is touched. -/
structure Win (z z' : List It) (a b : Nat) : Prop where
  perm : z'.Perm z
  out : ∀ k, k < a ∨ b ≤ k → z'[k]? = z[k]?
  ins : ∀ k, a ≤ k → k < b → ∃ j, a ≤ j ∧ j < b ∧ z'[k]? = z[j]?
theorem Win.refl (z : List It) (a b : Nat) : Win z z a b := ⟨.refl _, fun _ _ => rfl, fun k h1 h2 => ⟨k, h1, h2, rfl⟩⟩
theorem Win.trans {x y z : List It} {a b : Nat} (h : Win x y a b) (g : Win y z a b) : Win x z a b := by
  refine ⟨g.perm.trans h.perm, fun k hk => (g.out k hk).trans (h.out k hk), fun k h1 h2 => ?_⟩
  obtain ⟨j, j1, j2, j3⟩ := g.ins k h1 h2
  obtain ⟨i, i1, i2, i3⟩ := h.ins j j1 j2
  exact ⟨i, i1, i2, j3.trans i3⟩
theorem Win.wide {x y : List It} {a b a' b' : Nat} (h : Win x y a b) (ha : a' ≤ a) (hb : b ≤ b') : Win x y a' b' := by
  refine ⟨h.perm, fun k hk => h.out k (by omega), fun k h1 h2 => ?_⟩
  by_cases hk : a ≤ k ∧ k < b
  · obtain ⟨j, j1, j2, j3⟩ := h.ins k hk.1 hk.2
    exact ⟨j, by omega, by omega, j3⟩
  · exact ⟨k, h1, h2, h.out k (by omega)⟩
theorem Win.len {x y : List It} {a b : Nat} (h : Win x y a b) : y.length = x.length := h.perm.length_eq
/-- Two items exchanged. -/
def swp (z : List It) (i j : Nat) (hi : i < z.length) (hj : j < z.length) : List It := (z.set i z[j]).set j z[i]
theorem swp_get {z : List It} {i j : Nat} (hi : i < z.length) (hj : j < z.length) (k : Nat) : (swp z i j hi hj)[k]? = if k = j then z[i]? else if k = i then z[j]? else z[k]? := by
  simp only [swp, List.getElem?_set, List.length_set]
  by_cases h1 : k = j
  · subst h1; simp [hj, hi]
  · have h1' : ¬ j = k := fun e => h1 e.symm
    rw [if_neg h1', if_neg h1]
    by_cases h2 : k = i
    · subst h2; simp [hi, hj]
    · have h2' : ¬ i = k := fun e => h2 e.symm
      rw [if_neg h2', if_neg h2]
theorem swp_win {z : List It} {i j a b : Nat} (hi : i < z.length) (hj : j < z.length) (h1 : a ≤ i) (h2 : i < b) (h3 : a ≤ j) (h4 : j < b) : Win z (swp z i j hi hj) a b := by
  refine ⟨?_, fun k hk => ?_, fun k k1 k2 => ?_⟩
  · exact List.set_set_perm hi hj
  · rw [swp_get, if_neg (by omega), if_neg (by omega)]
  · rw [swp_get]
    by_cases e1 : k = j
    · exact ⟨i, h1, h2, by rw [if_pos e1]⟩
    · by_cases e2 : k = i
      · exact ⟨j, h3, h4, by rw [if_neg e1, if_pos e2]⟩
      · exact ⟨k, k1, k2, by rw [if_neg e1, if_neg e2]⟩
theorem swp_map {z : List It} {i j : Nat} (hi : i < z.length) (hj : j < z.length) : ((z.map It.c).set i (It.c z[j])).set j (It.c z[i]) = (swp z i j hi hj).map It.c := by
  simp [swp, List.map_set]

theorem wrap_add {a b : Nat} (h : a + b < 4611686018427387904) : IntKind.i64.wrap ((a : Int) + (b : Int)) = ((a + b : Nat) : Int) := by rw [wrap_i64] <;> omega
theorem wrap_sub {a b : Nat} (h : b ≤ a) (h' : a < 4611686018427387904) : IntKind.i64.wrap ((a : Int) - (b : Int)) = ((a - b : Nat) : Int) := by rw [wrap_i64] <;> omega
theorem wrap_add1 {a : Nat} (h : a < 4611686018427387904) : IntKind.i64.wrap ((a : Int) + 1) = ((a + 1 : Nat) : Int) := by rw [wrap_i64] <;> omega
theorem wrap_sub1 {a : Nat} (h : 1 ≤ a) (h' : a < 4611686018427387904) : IntKind.i64.wrap ((a : Int) - 1) = ((a - 1 : Nat) : Int) := by rw [wrap_i64] <;> omega
/-- So many items from a on exchanged with those from b on. -/
structure Sw (z z' : List It) (a b n : Nat) : Prop where
  win : Win z z' a (b + n)
  get : ∀ k, z'[k]? = if a ≤ k ∧ k < a + n then z[k - a + b]? else if b ≤ k ∧ k < b + n then z[k - b + a]? else z[k]?
theorem Sw.zero (z : List It) (a b : Nat) : Sw z z a b 0 := ⟨.refl _ _ _, fun k => by rw [if_neg (by omega), if_neg (by omega)]⟩
theorem Sw.succ {z z' : List It} {a b n : Nat} (h : Sw z z' a b n) (hab : a + (n + 1) ≤ b) (ha : a + n < z'.length) (hb : b + n < z'.length) : Sw z (swp z' (a + n) (b + n) ha hb) a b (n + 1) := by
  refine ⟨(h.win.wide (Nat.le_refl _) (by omega)).trans (swp_win ha hb (by omega) (by omega) (by omega) (by omega)), fun k => ?_⟩
  rw [swp_get]
  by_cases e1 : k = b + n
  · rw [if_pos e1, h.get, if_neg (by omega), if_neg (by omega), if_neg (by omega), if_pos (by omega)]; congr 1; omega
  · rw [if_neg e1]
    by_cases e2 : k = a + n
    · rw [if_pos e2, h.get, if_neg (by omega), if_neg (by omega), if_pos (by omega)]; congr 1; omega
    · rw [if_neg e2, h.get]
      by_cases e3 : a ≤ k ∧ k < a + n
      · rw [if_pos e3, if_pos (by omega)]
      · by_cases e4 : b ≤ k ∧ k < b + n
        · rw [if_neg e3, if_pos e4, if_neg (by omega), if_pos (by omega)]
        · rw [if_neg e3, if_neg e4, if_neg (by omega), if_neg (by omega)]

theorem s76 (g : Nat) (z : List It) (a b n : Nat) (h1 : a + n ≤ b) (h2 : b + n ≤ z.length) (hl : z.length < 2305843009213693952) :
    SpecO Try.prog 154 [.rf 0 0 z.length, iA a, iA b, iA n, .fn g []] (so z) (fun r o' => r = .tu [] ∧ ∃ z', o' = so z' ∧ Sw z z' a b n) := by
  refine specO_of_vc tabOk elems ord154 Try.func154 rfl (rl := []) rfl (by kernel_rfl) rfl ?_
  (simp -implicitDefEqProofs only [go_sem, iA, so]; repeat (refine GO ?_; simp -implicitDefEqProofs only [go_sem, iA, so]))
  refine LOOP.mk (ι := { p : Nat × List It // p.1 ≤ n ∧ Sw z p.2 a b p.1 }) (fun p => mkS [(0, .rf 0 0 z.length), (1, iA a), (2, iA b), (3, iA n), (10, iA p.1.1)] [(0, so p.1.2)] [0]) (fun p => n - p.1.1)
    ⟨(0, z), by simp, .zero _ _ _⟩ [(0, some 0)] rfl rfl ?_ (fun p => ?_)
  · (simp -implicitDefEqProofs only [go_sem, iA, so]; repeat (refine GO ?_; simp -implicitDefEqProofs only [go_sem, iA, so]))
    exact ⟨rfl, .same (so z) _ _ (so_leafy z) rfl⟩
  · obtain ⟨⟨i, y⟩, hi, hs⟩ := p
    have hlen := hs.win.len
    simp only at hi hs hlen
    (simp -implicitDefEqProofs only [go_sem, iA, so]; repeat (refine GO ?_; simp -implicitDefEqProofs only [go_sem, iA, so]))
    refine VIF.split (fun h => ?_) (fun h => ?_)
    · simp only [decide_eq_true_eq] at h
      have hb : b + i < y.length := by omega
      have ha : a + i < y.length := by omega
      have w1 := wrap_add (show b + i < 4611686018427387904 by omega)
      have w2 := wrap_add (show a + i < 4611686018427387904 by omega)
      (simp -implicitDefEqProofs only [go_sem, w1, w2]; repeat (refine GO ?_; simp -implicitDefEqProofs only [go_sem, w1, w2]))
      refine ⟨by omega, EL.map hb ?_⟩
      (simp -implicitDefEqProofs only [go_sem, It.c, w1, w2]; repeat (refine GO ?_; simp -implicitDefEqProofs only [go_sem, It.c, w1, w2]))
      refine ⟨by omega, EL.map ha ?_⟩
      (simp -implicitDefEqProofs only [go_sem, It.c, w1, w2]; repeat (refine GO ?_; simp -implicitDefEqProofs only [go_sem, It.c, w1, w2]))
      refine ⟨by omega, EL.map ha ?_⟩
      (simp -implicitDefEqProofs only [go_sem, It.c, w1, w2]; repeat (refine GO ?_; simp -implicitDefEqProofs only [go_sem, It.c, w1, w2]))
      refine ⟨by omega, EL.setmap (by omega) hb ?_⟩
      (simp -implicitDefEqProofs only [go_sem, It.c, w1, w2]; repeat (refine GO ?_; simp -implicitDefEqProofs only [go_sem, It.c, w1, w2]))
      have w3 := wrap_add1 (show i < 4611686018427387904 by omega)
      refine BACK.mk ⟨(i + 1, swp y (a + i) (b + i) ha hb), by show i + 1 ≤ n; omega, hs.succ (by omega) ha hb⟩ [(0, some 0)] rfl rfl (by show n - (i + 1) < n - i; omega) ?_
      (simp -implicitDefEqProofs only [go_sem, iA, so, w3]; repeat (refine GO ?_; simp -implicitDefEqProofs only [go_sem, iA, so, w3]))
      exact .same (so (swp y (a + i) (b + i) ha hb)) _ _ (fun x hx => so_leafy (swp y (a + i) (b + i) ha hb) x (by rw [so, ← swp_map]; exact hx)) (swp_map ha hb)
    · simp at h
      have hin : i = n := by omega
      subst hin
      (simp -implicitDefEqProofs only [go_sem]; repeat (refine GO ?_; simp -implicitDefEqProofs only [go_sem]))
      refine FIN_O (o' := so y) rfl ?_ (so_leafy y) ?_
      · rfl
      · exact ⟨so y, ⟨⟨rfl, y, rfl, hs⟩, rfl⟩, so_leafy y, rfl⟩
end Yt
namespace Yt
open Go Go.Vc Go.Proofs
set_option maxRecDepth 10000
set_option linter.unusedSimpArgs false
set_option linter.unusedVariables false
/-- What stands at k when the i items ahead of m and the j behind it have changed places. -/
def rotG (y : List It) (i j m k : Nat) : Option It := if m - i ≤ k ∧ k < m - i + j then y[k + i]? else if m - i + j ≤ k ∧ k < m + j then y[k - j]? else y[k]?
structure Rot (z z' : List It) (a m b : Nat) : Prop where
  win : Win z z' a b
  get : ∀ k, z'[k]? = rotG z (m - a) (b - m) m k
theorem rot_left {y y' : List It} {i j m : Nat} (hj : j < i) (hi : i ≤ m) (h : Sw y y' (m - i) m j) (k : Nat) : rotG y' (i - j) j m k = rotG y i j m k := by
  simp only [rotG]
  by_cases h1 : k < m - i
  · repeat (first | rw [if_pos (by omega)] | rw [if_neg (by omega)])
    rw [h.get]
    repeat (first | rw [if_pos (by omega)] | rw [if_neg (by omega)])
  · by_cases h2 : k < m - i + j
    · rw [if_neg (by omega), if_neg (by omega), if_pos (by omega), h.get, if_pos (by omega)]
      congr 1; omega
    · by_cases h3 : k < m
      · by_cases h4 : k < m - (i - j) + j
        · rw [if_pos (by omega), if_neg (by omega), if_pos (by omega), h.get]
          by_cases h5 : k + (i - j) < m
          · rw [if_neg (by omega), if_neg (by omega)]
            omega
          · rw [if_neg (by omega), if_pos (by omega)]; congr 1; omega
        · rw [if_neg (by omega), if_pos (by omega), if_neg (by omega), if_pos (by omega), h.get, if_neg (by omega), if_neg (by omega)]
      · by_cases h4 : k < m + j
        · by_cases h6 : k < m - (i - j) + j
          · rw [if_pos (by omega), if_neg (by omega), if_pos (by omega), h.get, if_neg (by omega), if_pos (by omega)]; congr 1; omega
          · rw [if_neg (by omega), if_pos (by omega), if_neg (by omega), if_pos (by omega), h.get, if_neg (by omega), if_neg (by omega)]
        · rw [if_neg (by omega), if_neg (by omega), if_neg (by omega), if_neg (by omega), h.get, if_neg (by omega), if_neg (by omega)]
theorem rot_right {y y' : List It} {i j m : Nat} (hj : i < j) (hi : i ≤ m) (h : Sw y y' (m - i) (m + j - i) i) (k : Nat) : rotG y' i (j - i) m k = rotG y i j m k := by
  simp only [rotG]
  by_cases h1 : k < m - i
  · rw [if_neg (by omega), if_neg (by omega), if_neg (by omega), if_neg (by omega), h.get, if_neg (by omega), if_neg (by omega)]
  · by_cases h2 : k < m - i + (j - i)
    · rw [if_pos (by omega), if_pos (by omega), h.get, if_neg (by omega), if_neg (by omega)]
    · by_cases h3 : k < m + (j - i)
      · rw [if_neg (by omega), if_pos (by omega), h.get]
        by_cases h4 : k < m - i + j
        · rw [if_pos (by omega), if_pos (by omega)]; congr 1; omega
        · omega
      · by_cases h4 : k < m + j
        · rw [if_neg (by omega), if_neg (by omega), h.get, if_neg (by omega), if_pos (by omega)]
          by_cases h5 : k < m - i + j
          · omega
          · rw [if_neg (by omega), if_pos (by omega)]; congr 1; omega
        · rw [if_neg (by omega), if_neg (by omega), if_neg (by omega), if_neg (by omega), h.get, if_neg (by omega), if_neg (by omega)]
theorem rot_end {y y' : List It} {i m : Nat} (hi : i ≤ m) (h : Sw y y' (m - i) m i) (k : Nat) : y'[k]? = rotG y i i m k := by
  rw [h.get]
  simp only [rotG]
  by_cases h1 : k < m - i
  · rw [if_neg (by omega), if_neg (by omega), if_neg (by omega), if_neg (by omega)]
  · by_cases h2 : k < m
    · rw [if_pos (by omega), if_pos (by omega)]; congr 1; omega
    · by_cases h3 : k < m + i
      · rw [if_neg (by omega), if_pos (by omega), if_neg (by omega), if_pos (by omega)]; congr 1; omega
      · rw [if_neg (by omega), if_neg (by omega), if_neg (by omega), if_neg (by omega)]

theorem s75 (g : Nat) (z : List It) (a m b : Nat) (h1 : a < m) (h2 : m < b) (h3 : b ≤ z.length) (hl : z.length < 2305843009213693952) :
    SpecO Try.prog 152 [.rf 0 0 z.length, iA a, iA m, iA b, .fn g []] (so z) (fun r o' => r = .tu [] ∧ ∃ z', o' = so z' ∧ Rot z z' a m b) := by
  refine specO_of_vc tabOk elems ord152 Try.func152 rfl (rl := []) rfl (by kernel_rfl) rfl ?_
  (simp -implicitDefEqProofs only [go_sem, iA, so]; repeat (refine GO ?_; simp -implicitDefEqProofs only [go_sem, iA, so]))
  refine LOOP.mk (ι := { p : Nat × Nat × List It // 0 < p.1 ∧ 0 < p.2.1 ∧ p.1 ≤ m - a ∧ p.2.1 ≤ b - m ∧ Win z p.2.2 a b ∧ ∀ k, rotG p.2.2 p.1 p.2.1 m k = rotG z (m - a) (b - m) m k })
    (fun p => mkS [(0, .rf 0 0 z.length), (1, iA a), (2, iA m), (3, iA b), (4, .fn g []), (10, iA p.1.1), (11, iA p.1.2.1)] [(0, so p.1.2.2)] [0]) (fun p => p.1.1 + p.1.2.1)
    ⟨(m - a, b - m, z), by show 0 < m - a; omega, by show 0 < b - m; omega, Nat.le_refl _, Nat.le_refl _, .refl _ _ _, fun _ => rfl⟩ [(0, some 0)] rfl rfl ?_ (fun p => ?_)
  · have w1 := wrap_sub (show a ≤ m by omega) (by omega)
    have w2 := wrap_sub (show m ≤ b by omega) (by omega)
    (simp -implicitDefEqProofs only [go_sem, iA, so, w1, w2]; repeat (refine GO ?_; simp -implicitDefEqProofs only [go_sem, iA, so, w1, w2]))
    exact .same (so z) _ _ (so_leafy z) rfl
  · obtain ⟨⟨i, j, y⟩, hi0, hj0, hi, hj, hw, hg⟩ := p
    have hlen := hw.len
    simp only at hi0 hj0 hi hj hw hg hlen
    (simp -implicitDefEqProofs only [go_sem, iA, so]; repeat (refine GO ?_; simp -implicitDefEqProofs only [go_sem, iA, so]))
    refine VIF.split (fun h => ?_) (fun h => ?_)
    · (simp -implicitDefEqProofs only [go_sem]; repeat (refine GO ?_; simp -implicitDefEqProofs only [go_sem]))
      simp at h
      refine VIF.split (fun e => ?_) (fun e => ?_)
      · simp at e
        have w1 := wrap_sub (show i ≤ m by omega) (by omega)
        (simp -implicitDefEqProofs only [go_sem, w1]; repeat (refine GO ?_; simp -implicitDefEqProofs only [go_sem, w1]))
        rw [← hlen]
        refine .obj 0 (so y) _ _ (s76 g y (m - i) m j (by omega) (by omega) (by omega)) rfl (so_leafy y) rfl rfl fun r o' hr _ _ => ?_
        obtain ⟨rfl, y', rfl, hs⟩ := hr
        have w2 := wrap_sub (show j ≤ i by omega) (by omega)
        (simp -implicitDefEqProofs only [go_sem, w2]; repeat (refine GO ?_; simp -implicitDefEqProofs only [go_sem, w2]))
        refine BACK.mk ⟨(i - j, j, y'), by show 0 < i - j; omega, hj0, by show i - j ≤ m - a; omega, hj, hw.trans (hs.win.wide (by omega) (by omega)), fun k => (rot_left e (by omega) hs k).trans (hg k)⟩ [(0, some 0)] rfl rfl (by show i - j + j < i + j; omega) ?_
        (simp -implicitDefEqProofs only [go_sem, iA, so]; repeat (refine GO ?_; simp -implicitDefEqProofs only [go_sem, iA, so]))
        exact .same (so y') _ _ (so_leafy y') rfl
      · simp at e
        have hlt : i < j := by omega
        have w1 := wrap_sub (show i ≤ m by omega) (by omega)
        have w2 := wrap_add (show m + j < 4611686018427387904 by omega)
        have w3 := wrap_sub (show i ≤ m + j by omega) (by omega)
        (simp -implicitDefEqProofs only [go_sem, w1, w2, w3]; repeat (refine GO ?_; simp -implicitDefEqProofs only [go_sem, w1, w2, w3]))
        rw [← hlen]
        refine .obj 0 (so y) _ _ (s76 g y (m - i) (m + j - i) i (by omega) (by omega) (by omega)) rfl (so_leafy y) rfl rfl fun r o' hr _ _ => ?_
        obtain ⟨rfl, y', rfl, hs⟩ := hr
        have w4 := wrap_sub (show i ≤ j by omega) (by omega)
        (simp -implicitDefEqProofs only [go_sem, w4]; repeat (refine GO ?_; simp -implicitDefEqProofs only [go_sem, w4]))
        refine BACK.mk ⟨(i, j - i, y'), hi0, by show 0 < j - i; omega, hi, by show j - i ≤ b - m; omega, hw.trans (hs.win.wide (by omega) (by omega)), fun k => (rot_right hlt (by omega) hs k).trans (hg k)⟩ [(0, some 0)] rfl rfl (by show i + (j - i) < i + j; omega) ?_
        (simp -implicitDefEqProofs only [go_sem, iA, so]; repeat (refine GO ?_; simp -implicitDefEqProofs only [go_sem, iA, so]))
        exact .same (so y') _ _ (so_leafy y') rfl
    · simp at h
      have hij : i = j := by omega
      subst hij
      have w1 := wrap_sub (show i ≤ m by omega) (by omega)
      (simp -implicitDefEqProofs only [go_sem, w1]; repeat (refine GO ?_; simp -implicitDefEqProofs only [go_sem, w1]))
      rw [← hlen]
      refine .obj 0 (so y) _ _ (s76 g y (m - i) m i (by omega) (by omega) (by omega)) rfl (so_leafy y) rfl rfl fun r o' hr _ _ => ?_
      obtain ⟨rfl, y', rfl, hs⟩ := hr
      (simp -implicitDefEqProofs only [go_sem]; repeat (refine GO ?_; simp -implicitDefEqProofs only [go_sem]))
      refine FIN_O (o' := so y') rfl ?_ (so_leafy y') ?_
      · rfl
      · exact ⟨so y', ⟨⟨rfl, y', rfl, hw.trans (hs.win.wide (by omega) (by omega)), fun k => (rot_end (by omega) hs k).trans (hg k)⟩, rfl⟩, so_leafy y', rfl⟩
end Yt
namespace Yt
open Go Go.Vc Go.Proofs
set_option maxRecDepth 10000
set_option linter.unusedSimpArgs false
set_option linter.unusedVariables false
/-- A comparison that orders. -/
structure Cmp (c : It → It → Int) : Prop where
  tot : ∀ x y, ¬ c y x < 0 → c x y ≤ 0
  trans : ∀ x y z, c x y ≤ 0 → c y z ≤ 0 → c x z ≤ 0
def leO (c : It → It → Int) (a b : Option It) : Prop := ∀ x y, a = some x → b = some y → c x y ≤ 0
def SR (c : It → It → Int) (z : List It) (a b : Nat) : Prop := ∀ i j, a ≤ i → i < j → j < b → leO c z[i]? z[j]?
/-- Sorted but for what stands at j, which is no greater than all behind it. -/
structure Ins (c : It → It → Int) (z : List It) (a j i : Nat) : Prop where
  but : ∀ p q, a ≤ p → p < q → q ≤ i → p ≠ j → q ≠ j → leO c z[p]? z[q]?
  at' : ∀ q, j < q → q ≤ i → leO c z[j]? z[q]?
theorem Ins.start {c : It → It → Int} {z : List It} {a i : Nat} (h : SR c z a i) : Ins c z a i i :=
  ⟨fun p q h1 h2 h3 h4 h5 => h p q h1 h2 (by omega), fun q h1 h2 => by omega⟩
theorem Ins.done {c : It → It → Int} (hc : Cmp c) {z : List It} {a j i : Nat} (h : Ins c z a j i) (hj : j = a ∨ (a < j ∧ leO c z[j - 1]? z[j]?)) (hi : i < z.length) (hji : j ≤ i) : SR c z a (i + 1) := by
  intro p q h1 h2 h3
  by_cases e1 : p = j
  · subst e1; exact h.at' q h2 (by omega)
  · by_cases e2 : q = j
    · subst e2
      rcases hj with hj | ⟨hj, hle⟩
      · omega
      · by_cases e3 : p = q - 1
        · subst e3; exact hle
        · intro x y hx hy
          have hlt : q - 1 < z.length := by omega
          have k1 := h.but p (q - 1) h1 (by omega) (by omega) e1 (by omega) x z[q - 1] hx (List.getElem?_eq_getElem hlt)
          exact hc.trans _ _ _ k1 (hle _ _ (List.getElem?_eq_getElem hlt) hy)
    · exact h.but p q h1 h2 (by omega) e1 e2
theorem Ins.step {c : It → It → Int} {z : List It} {a j i : Nat} (h : Ins c z a j i) (hj : a < j) (hji : j ≤ i) (h1 : j < z.length) (h2 : j - 1 < z.length) (hlt : c z[j] z[j - 1] < 0) : Ins c (swp z j (j - 1) h1 h2) a (j - 1) i := by
  refine ⟨fun p q k1 k2 k3 k4 k5 => ?_, fun q k1 k2 => ?_⟩
  · rw [swp_get, swp_get, if_neg k4, if_neg k5]
    by_cases e1 : p = j
    · rw [if_pos e1, if_neg (by omega)]
      exact h.but (j - 1) q (by omega) (by omega) k3 (by omega) (by omega)
    · rw [if_neg e1]
      by_cases e2 : q = j
      · rw [if_pos e2]; exact h.but p (j - 1) k1 (by omega) (by omega) e1 (by omega)
      · rw [if_neg e2]; exact h.but p q k1 k2 k3 e1 e2
  · rw [swp_get, swp_get, if_pos rfl, if_neg (by omega)]
    by_cases e : q = j
    · rw [if_pos e]
      intro x y hx hy
      rw [List.getElem?_eq_getElem h1] at hx
      rw [List.getElem?_eq_getElem h2] at hy
      cases hx; cases hy; omega
    · rw [if_neg e]; exact h.at' q (by omega) k2

theorem s70 (g : Nat) (c : It → It → Int) (hc : Cmp c) (B : It → Prop) (hg : ∀ x y, B x → B y → Spec0 Try.prog g [.ag x.c, .ag y.c] (· = iA (c x y))) (z : List It) (hB : ∀ x ∈ z, B x) (a b : Nat) (h1 : a ≤ b) (h2 : b ≤ z.length) (hl : z.length < 2305843009213693952) :
    SpecO Try.prog 148 [.rf 0 0 z.length, iA a, iA b, .fn g []] (so z) (fun r o' => r = .tu [] ∧ ∃ z', o' = so z' ∧ Win z z' a b ∧ SR c z' a b) := by
  refine specO_of_vc tabOk elems ord148 Try.func148 rfl (rl := []) rfl (by kernel_rfl) rfl ?_
  have w1 := wrap_add1 (show a < 4611686018427387904 by omega)
  (simp -implicitDefEqProofs only [go_sem, iA, so, w1]; repeat (refine GO ?_; simp -implicitDefEqProofs only [go_sem, iA, so, w1]))
  refine LOOP.mk (ι := { p : Nat × List It // a < p.1 ∧ (p.1 ≤ b ∨ p.1 = a + 1) ∧ Win z p.2 a b ∧ SR c p.2 a p.1 })
    (fun p => mkS [(0, .rf 0 0 z.length), (1, iA a), (2, iA b), (3, .fn g []), (8, iA p.1.1)] [(0, so p.1.2)] [0]) (fun p => b + 1 - p.1.1)
    ⟨(a + 1, z), by show a < a + 1; omega, .inr rfl, .refl _ _ _, fun i j k1 k2 k3 => by omega⟩ [(0, some 0)] rfl rfl ?_ (fun p => ?_)
  · (simp -implicitDefEqProofs only [go_sem, iA, so]; repeat (refine GO ?_; simp -implicitDefEqProofs only [go_sem, iA, so]))
    exact .same (so z) _ _ (so_leafy z) rfl
  · obtain ⟨⟨i, y⟩, hai, hib, hw, hs⟩ := p
    have hlen := hw.len
    simp only at hai hib hw hs hlen
    (simp -implicitDefEqProofs only [go_sem, iA, so]; repeat (refine GO ?_; simp -implicitDefEqProofs only [go_sem, iA, so]))
    refine VIF.split (fun h => ?_) (fun h => ?_)
    · (simp -implicitDefEqProofs only [go_sem]; repeat (refine GO ?_; simp -implicitDefEqProofs only [go_sem]))
      simp at h
      refine LOOP.mk (ι := { p : Nat × List It // a ≤ p.1 ∧ p.1 ≤ i ∧ Win z p.2 a b ∧ Ins c p.2 a p.1 i })
        (fun p => mkS [(0, .rf 0 0 z.length), (1, iA a), (2, iA b), (3, .fn g []), (8, iA i), (9, iA p.1.1)] [(0, so p.1.2)] [0]) (fun p => p.1.1)
        ⟨(i, y), by show a ≤ i; omega, Nat.le_refl _, hw, .start hs⟩ [(0, some 0)] rfl rfl ?_ (fun p => ?_)
      · (simp -implicitDefEqProofs only [go_sem, iA, so]; repeat (refine GO ?_; simp -implicitDefEqProofs only [go_sem, iA, so]))
        exact .same (so y) _ _ (so_leafy y) rfl
      · obtain ⟨⟨j, x⟩, haj, hji, hwx, hins⟩ := p
        have hlx := hwx.len
        simp only at haj hji hwx hins hlx
        (simp -implicitDefEqProofs only [go_sem, iA, so]; repeat (refine GO ?_; simp -implicitDefEqProofs only [go_sem, iA, so]))
        refine VIF.split (fun e => ?_) (fun e => ?_)
        · simp at e
          have w2 := wrap_sub1 (show 1 ≤ j by omega) (by omega)
          have hj1 : j < x.length := by omega
          have hj2 : j - 1 < x.length := by omega
          have hx1 : B x[j] := hB _ (hwx.perm.subset (List.getElem_mem hj1))
          have hx2 : B x[j - 1] := hB _ (hwx.perm.subset (List.getElem_mem hj2))
          (simp -implicitDefEqProofs only [go_sem, w2]; repeat (refine GO ?_; simp -implicitDefEqProofs only [go_sem, w2]))
          refine ⟨by omega, EL.map hj1 ?_⟩
          (simp -implicitDefEqProofs only [go_sem, It.c, w2]; repeat (refine GO ?_; simp -implicitDefEqProofs only [go_sem, It.c, w2]))
          refine ⟨by omega, EL.map hj2 ?_⟩
          (simp -implicitDefEqProofs only [go_sem, It.c, w2]; repeat (refine GO ?_; simp -implicitDefEqProofs only [go_sem, It.c, w2]))
          refine .pure _ (hg x[j] x[j - 1] hx1 hx2) rfl fun r hr _ => ?_
          subst hr
          (simp -implicitDefEqProofs only [go_sem, iA]; repeat (refine GO ?_; simp -implicitDefEqProofs only [go_sem, iA]))
          refine VIF.split (fun q => ?_) (fun q => ?_)
          · simp at q
            (simp -implicitDefEqProofs only [go_sem, w2]; repeat (refine GO ?_; simp -implicitDefEqProofs only [go_sem, w2]))
            refine ⟨by omega, EL.map hj2 ?_⟩
            (simp -implicitDefEqProofs only [go_sem, It.c, w2]; repeat (refine GO ?_; simp -implicitDefEqProofs only [go_sem, It.c, w2]))
            refine ⟨by omega, EL.map hj1 ?_⟩
            (simp -implicitDefEqProofs only [go_sem, It.c, w2]; repeat (refine GO ?_; simp -implicitDefEqProofs only [go_sem, It.c, w2]))
            refine ⟨by omega, EL.map hj1 ?_⟩
            (simp -implicitDefEqProofs only [go_sem, It.c, w2]; repeat (refine GO ?_; simp -implicitDefEqProofs only [go_sem, It.c, w2]))
            refine ⟨by omega, EL.setmap (by omega) hj2 ?_⟩
            (simp -implicitDefEqProofs only [go_sem, It.c, w2]; repeat (refine GO ?_; simp -implicitDefEqProofs only [go_sem, It.c, w2]))
            refine BACK.mk ⟨(j - 1, swp x j (j - 1) hj1 hj2), by show a ≤ j - 1; omega, by show j - 1 ≤ i; omega, hwx.trans (swp_win _ _ (by omega) (by omega) (by omega) (by omega)), hins.step e hji hj1 hj2 q⟩ [(0, some 0)] rfl rfl (by show j - 1 < j; omega) ?_
            (simp -implicitDefEqProofs only [go_sem, iA, so]; repeat (refine GO ?_; simp -implicitDefEqProofs only [go_sem, iA, so]))
            exact .same (so (swp x j (j - 1) hj1 hj2)) _ _ (fun u hu => so_leafy (swp x j (j - 1) hj1 hj2) u (by rw [so, ← swp_map]; exact hu)) (swp_map hj1 hj2)
          · simp at q
            have w3 := wrap_add1 (show i < 4611686018427387904 by omega)
            (simp -implicitDefEqProofs only [go_sem, w3]; repeat (refine GO ?_; simp -implicitDefEqProofs only [go_sem, w3]))
            have hd := hins.done hc (.inr ⟨e, fun u v hu hv => by
              rw [List.getElem?_eq_getElem hj2] at hu
              rw [List.getElem?_eq_getElem hj1] at hv
              cases hu; cases hv
              exact hc.tot _ _ (by omega)⟩) (by omega) hji
            refine BACK.mk ⟨(i + 1, x), by show a < i + 1; omega, .inl (by show i + 1 ≤ b; omega), hwx, hd⟩ [(0, some 0)] rfl rfl (by show b + 1 - (i + 1) < b + 1 - i; omega) ?_
            (simp -implicitDefEqProofs only [go_sem, iA, so]; repeat (refine GO ?_; simp -implicitDefEqProofs only [go_sem, iA, so]))
            exact .same (so x) _ _ (so_leafy x) rfl
        · simp at e
          have w3 := wrap_add1 (show i < 4611686018427387904 by omega)
          (simp -implicitDefEqProofs only [go_sem, w3]; repeat (refine GO ?_; simp -implicitDefEqProofs only [go_sem, w3]))
          have hd := hins.done hc (.inl (by omega)) (by omega) hji
          refine BACK.mk ⟨(i + 1, x), by show a < i + 1; omega, .inl (by show i + 1 ≤ b; omega), hwx, hd⟩ [(0, some 0)] rfl rfl (by show b + 1 - (i + 1) < b + 1 - i; omega) ?_
          (simp -implicitDefEqProofs only [go_sem, iA, so]; repeat (refine GO ?_; simp -implicitDefEqProofs only [go_sem, iA, so]))
          exact .same (so x) _ _ (so_leafy x) rfl
    · simp at h
      (simp -implicitDefEqProofs only [go_sem]; repeat (refine GO ?_; simp -implicitDefEqProofs only [go_sem]))
      refine FIN_O (o' := so y) rfl ?_ (so_leafy y) ?_
      · rfl
      · exact ⟨so y, ⟨⟨rfl, y, rfl, hw, fun p q k1 k2 k3 => hs p q k1 k2 (by omega)⟩, rfl⟩, so_leafy y, rfl⟩
end Yt
namespace Yt
open Go Go.Vc Go.Proofs
set_option linter.unusedSimpArgs false
set_option linter.unusedVariables false
section
variable {c : It → It → Int} (hc : Cmp c) {z y z1 z2 z3 : List It} {a m b s e mid i : Nat}
include hc
theorem leO.trans {x y z : Option It} (h : leO c x y) (g : leO c y z) (hy : y ≠ none) : leO c x z := by
  intro u v hu hv
  cases y with
  | none => exact absurd rfl hy
  | some w => exact hc.trans _ _ _ (h u w hu rfl) (g w v rfl hv)
theorem SR.le (h : SR c z a b) (hb : b ≤ z.length) {p q : Nat} (h1 : a ≤ p) (h2 : p < q) (h3 : q < b) : leO c z[p]? z[q]? := h p q h1 h2 h3
theorem some_ne {k : Nat} (h : k < z.length) : z[k]? ≠ none := by simp [h]

/-- One item taken to its place among those behind it. -/
theorem merge_one (h2 : SR c z m b) (hm : m = a + 1) (hi : m ≤ i) (hib : i ≤ b) (hb : b ≤ z.length) (lo : i = m ∨ leO c z[i - 1]? z[a]?) (hi2 : i = b ∨ leO c z[a]? z[i]?)
    (hy : ∀ k, y[k]? = if a ≤ k ∧ k < i - 1 then z[k + 1]? else if k = i - 1 then z[a]? else z[k]?) : SR c y a b := by
  intro p q k1 k2 k3
  rw [hy, hy]
  by_cases e1 : p < i - 1
  · rw [if_pos ⟨k1, e1⟩]
    by_cases e2 : q < i - 1
    · rw [if_pos ⟨by omega, e2⟩]; exact h2 _ _ (by omega) (by omega) (by omega)
    · rw [if_neg (by omega)]
      by_cases e3 : q = i - 1
      · rw [if_pos e3]
        have hlo := lo.resolve_left (by omega)
        by_cases e4 : p + 1 = i - 1
        · rw [e4]; exact hlo
        · exact leO.trans hc (h2 (p + 1) (i - 1) (by omega) (by omega) (by omega)) hlo (some_ne hc (by omega))
      · rw [if_neg e3]; exact h2 _ _ (by omega) (by omega) (by omega)
  · by_cases e3 : p = i - 1
    · rw [if_neg (by omega), if_pos e3, if_neg (by omega), if_neg (by omega)]
      have hhi := hi2.resolve_left (by omega)
      by_cases e4 : q = i
      · rw [e4]; exact hhi
      · exact leO.trans hc hhi (h2 i q (by omega) (by omega) (by omega)) (some_ne hc (by omega))
    · rw [if_neg (by omega), if_neg e3, if_neg (by omega), if_neg (by omega)]; exact h2 _ _ (by omega) (by omega) (by omega)

theorem merge_last (h1 : SR c z a m) (hm : b = m + 1) (hi : a ≤ i) (him : i ≤ m) (hb : b ≤ z.length) (lo : i = a ∨ leO c z[i - 1]? z[m]?) (hi2 : i = m ∨ leO c z[m]? z[i]?)
    (hy : ∀ k, y[k]? = if i < k ∧ k ≤ m then z[k - 1]? else if k = i then z[m]? else z[k]?) : SR c y a b := by
  intro p q k1 k2 k3
  rw [hy, hy]
  by_cases e1 : p < i
  · rw [if_neg (by omega), if_neg (by omega)]
    by_cases e2 : q < i
    · rw [if_neg (by omega), if_neg (by omega)]; exact h1 _ _ k1 k2 (by omega)
    · by_cases e3 : q = i
      · rw [if_neg (by omega), if_pos e3]
        have hlo := lo.resolve_left (by omega)
        by_cases e4 : p = i - 1
        · rw [e4]; exact hlo
        · exact leO.trans hc (h1 p (i - 1) k1 (by omega) (by omega)) hlo (some_ne hc (by omega))
      · rw [if_pos (by omega)]; exact h1 _ _ k1 (by omega) (by omega)
  · by_cases e2 : p = i
    · rw [if_neg (by omega), if_pos e2, if_pos (by omega)]
      have hhi := hi2.resolve_left (by omega)
      by_cases e4 : q - 1 = i
      · rw [e4]; exact hhi
      · exact leO.trans hc hhi (h1 i (q - 1) (by omega) (by omega) (by omega)) (some_ne hc (by omega))
    · rw [if_pos (by omega), if_pos (by omega)]; exact h1 _ _ (by omega) (by omega) (by omega)

/-- What the rotation leaves: four runs, of which the first two are no greater than the last two. -/
theorem rot_runs (h1 : SR c z a m) (h2 : SR c z m b) (hs : a ≤ s) (hsm : s ≤ m) (hme : m ≤ e) (heb : e ≤ b) (hb : b ≤ z.length) (hmid : mid = s + (e - m))
    (lo : s = a ∨ e = b ∨ leO c z[s - 1]? z[e]?) (hi : s = m ∨ e = m ∨ leO c z[e - 1]? z[s]?) (hy : ∀ k, y[k]? = rotG z (m - s) (e - m) m k) :
    SR c y a s ∧ SR c y s mid ∧ SR c y mid e ∧ SR c y e b ∧ ∀ p q, a ≤ p → p < mid → mid ≤ q → q < b → leO c y[p]? y[q]? := by
  have f1 : ∀ k, k < s → y[k]? = z[k]? := fun k hk => by rw [hy, rotG, if_neg (by omega), if_neg (by omega)]
  have f2 : ∀ k, s ≤ k → k < mid → y[k]? = z[k + (m - s)]? := fun k h1 h2 => by rw [hy, rotG, if_pos (by omega)]
  have f3 : ∀ k, mid ≤ k → k < e → y[k]? = z[k - (e - m)]? := fun k h1 h2 => by rw [hy, rotG, if_neg (by omega), if_pos (by omega)]
  have f4 : ∀ k, e ≤ k → y[k]? = z[k]? := fun k hk => by rw [hy, rotG, if_neg (by omega), if_neg (by omega)]
  refine ⟨fun p q k1 k2 k3 => ?_, fun p q k1 k2 k3 => ?_, fun p q k1 k2 k3 => ?_, fun p q k1 k2 k3 => ?_, fun p q k1 k2 k3 k4 => ?_⟩
  · rw [f1 p (by omega), f1 q (by omega)]; exact h1 _ _ k1 k2 (by omega)
  · rw [f2 p (by omega) (by omega), f2 q (by omega) (by omega)]; exact h2 _ _ (by omega) (by omega) (by omega)
  · rw [f3 p (by omega) (by omega), f3 q (by omega) (by omega)]; exact h1 _ _ (by omega) (by omega) (by omega)
  · rw [f4 p (by omega), f4 q (by omega)]; exact h2 _ _ (by omega) (by omega) (by omega)
  · -- A1 or B1 against A2 or B2
    by_cases e1 : p < s
    · rw [f1 p e1]
      by_cases e2 : q < e
      · rw [f3 q k3 e2]; exact h1 _ _ k1 (by omega) (by omega)
      · rw [f4 q (by omega)]
        have hlo : leO c z[s - 1]? z[e]? := by
          rcases lo with h | h | h
          · omega
          · omega
          · exact h
        have g1 : leO c z[p]? z[e]? := by
          by_cases e3 : p = s - 1
          · rw [e3]; exact hlo
          · exact leO.trans hc (h1 p (s - 1) k1 (by omega) (by omega)) hlo (some_ne hc (by omega))
        by_cases e4 : q = e
        · rw [e4]; exact g1
        · exact leO.trans hc g1 (h2 e q (by omega) (by omega) k4) (some_ne hc (by omega))
    · rw [f2 p (by omega) k2]
      by_cases e2 : q < e
      · rw [f3 q k3 e2]
        have hhi : leO c z[e - 1]? z[s]? := by
          rcases hi with h | h | h
          · omega
          · omega
          · exact h
        have g1 : leO c z[p + (m - s)]? z[s]? := by
          by_cases e3 : p + (m - s) = e - 1
          · rw [e3]; exact hhi
          · exact leO.trans hc (h2 (p + (m - s)) (e - 1) (by omega) (by omega) (by omega)) hhi (some_ne hc (by omega))
        by_cases e4 : q - (e - m) = s
        · rw [e4]; exact g1
        · exact leO.trans hc g1 (h1 s (q - (e - m)) (by omega) (by omega) (by omega)) (some_ne hc (by omega))
      · rw [f4 q (by omega)]; exact h2 _ _ (by omega) (by omega) k4

theorem merge_fin (hsep : ∀ p q, a ≤ p → p < mid → mid ≤ q → q < b → leO c z1[p]? z1[q]?) (w1 : Win z1 z2 a mid) (s1 : SR c z2 a mid) (w2 : Win z2 z3 mid b) (s2 : SR c z3 mid b) : SR c z3 a b := by
  intro p q k1 k2 k3
  by_cases e1 : q < mid
  · rw [w2.out p (.inl (by omega)), w2.out q (.inl e1)]; exact s1 p q k1 k2 e1
  · by_cases e2 : p < mid
    · rw [w2.out p (.inl e2)]
      obtain ⟨q', j1, j2, j3⟩ := w2.ins q (by omega) k3
      obtain ⟨p', i1, i2, i3⟩ := w1.ins p k1 e2
      rw [j3, i3, w1.out q' (.inr j1)]
      exact hsep p' q' i1 i2 j1 j2
    · exact s2 p q (by omega) k2 k3
end
end Yt
namespace Yt
open Go Go.Vc Go.Proofs
set_option maxRecDepth 10000
set_option maxHeartbeats 8000000
set_option linter.unusedSimpArgs false
set_option linter.unusedVariables false
theorem half {n : Nat} (h : n < 4611686018427387904) : IntKind.i64.wrap (IntKind.u64.wrap (n : Int) / 2 ^ min (Int.toNat 1) 64) = ((n / 2 : Nat) : Int) := by
  have h1 : IntKind.u64.wrap (n : Int) = n := by simp only [IntKind.wrap, IntKind.bits, IntKind.signed]; simp; omega
  have h2 : (2 : Int) ^ min (Int.toNat 1) 64 = 2 := by decide
  rw [h1, h2, wrap_i64] <;> omega
theorem s71 (g : Nat) (c : It → It → Int) (hc : Cmp c) (B : It → Prop) (hg : ∀ x y, B x → B y → Spec0 Try.prog g [.ag x.c, .ag y.c] (· = iA (c x y))) : ∀ (d : Nat) (z : List It) (hB : ∀ x ∈ z, B x) (a m b : Nat) (hd : b - a ≤ d) (h1 : a < m) (h2 : m < b) (h3 : b ≤ z.length) (hl : z.length < 2305843009213693952)
    (r1 : SR c z a m) (r2 : SR c z m b),
    SpecO Try.prog 149 [.rf 0 0 z.length, iA a, iA m, iA b, .fn g []] (so z) (fun r o' => r = .tu [] ∧ ∃ z', o' = so z' ∧ Win z z' a b ∧ SR c z' a b) := by
  intro d
  induction d with
  | zero => intro z hB a m b hd h1 h2; omega
  | succ d ih =>
    have ihL : ∀ (d' : Nat) (_ : ∀ (z : List It) (_ : ∀ x ∈ z, B x) (a m b : Nat), b - a ≤ d' → a < m → m < b → b ≤ z.length → z.length < 2305843009213693952 → SR c z a m → SR c z m b →
        SpecO Try.prog 149 [.rf 0 0 z.length, iA a, iA m, iA b, .fn g []] (so z) (fun r o' => r = .tu [] ∧ ∃ z', o' = so z' ∧ Win z z' a b ∧ SR c z' a b)) {N : Nat} (z : List It) (_ : z.length = N) (_ : ∀ x ∈ z, B x) (a m b : Nat), b - a ≤ d' → a < m → m < b → b ≤ N → N < 2305843009213693952 → SR c z a m → SR c z m b →
        SpecO Try.prog 149 [.rf 0 0 N, iA a, iA m, iA b, .fn g []] (so z) (fun r o' => r = .tu [] ∧ ∃ z', o' = so z' ∧ Win z z' a b ∧ SR c z' a b) := by
      intro d' ih' N z hN hB a m b k1 k2 k3 k4 k5 k6 k7
      subst hN
      exact ih' z hB a m b k1 k2 k3 k4 k5 k6 k7
    intro z hB a m b hd h1 h2 h3 hl r1 r2
    refine specO_of_vc tabOk elems ord149 Try.func149 rfl (rl := []) rfl (by kernel_rfl) rfl ?_
    have w1 := wrap_sub (show a ≤ m by omega) (by omega)
    (simp -implicitDefEqProofs only [go_sem, iA, so, w1]; repeat (refine GO ?_; simp -implicitDefEqProofs only [go_sem, iA, so, w1]))
    refine VIF.split (fun h => ?_) (fun h => ?_)
    · simp at h
      have hm : m = a + 1 := by omega
      (simp -implicitDefEqProofs only [go_sem]; repeat (refine GO ?_; simp -implicitDefEqProofs only [go_sem]))
      refine LOOP.mk (ι := { p : Nat × Nat // m ≤ p.1 ∧ p.1 ≤ p.2 ∧ p.2 ≤ b ∧ (p.1 = m ∨ leO c z[p.1 - 1]? z[a]?) ∧ (p.2 = b ∨ leO c z[a]? z[p.2]?) })
        (fun p => mkS [(0, .rf 0 0 z.length), (1, iA a), (2, iA m), (3, iA b), (4, .fn g []), (10, iA p.1.1), (11, iA p.1.2)] [(0, so z)] [0]) (fun p => p.1.2 - p.1.1)
        ⟨(m, b), Nat.le_refl _, by show m ≤ b; omega, Nat.le_refl _, .inl rfl, .inl rfl⟩ [(0, some 0)] rfl rfl ?_ (fun p => ?_)
      · (simp -implicitDefEqProofs only [go_sem, iA, so]; repeat (refine GO ?_; simp -implicitDefEqProofs only [go_sem, iA, so]))
        exact .same (so z) _ _ (so_leafy z) rfl
      · obtain ⟨⟨i, j⟩, hi, hij, hj, lo, hi2⟩ := p
        simp only at hi hij hj lo hi2
        (simp -implicitDefEqProofs only [go_sem, iA, so]; repeat (refine GO ?_; simp -implicitDefEqProofs only [go_sem, iA, so]))
        refine VIF.split (fun e => ?_) (fun e => ?_)
        · simp at e
          have w2 := wrap_add (show i + j < 4611686018427387904 by omega)
          have w3 := half (show i + j < 4611686018427387904 by omega)
          have hh1 : (i + j) / 2 < j := by omega
          have hh2 : i ≤ (i + j) / 2 := by omega
          generalize hhd : (i + j) / 2 = hh at *
          have hz1 : hh < z.length := by omega
          have hz2 : a < z.length := by omega
          (simp -implicitDefEqProofs only [go_sem, w2, w3]; repeat (refine GO ?_; simp -implicitDefEqProofs only [go_sem, w2, w3]))
          refine ⟨by decide, by omega, EL.map hz1 ?_⟩
          (simp -implicitDefEqProofs only [go_sem, It.c, w2, w3]; repeat (refine GO ?_; simp -implicitDefEqProofs only [go_sem, It.c, w2, w3]))
          refine ⟨by omega, EL.map hz2 ?_⟩
          (simp -implicitDefEqProofs only [go_sem, It.c, w2, w3]; repeat (refine GO ?_; simp -implicitDefEqProofs only [go_sem, It.c, w2, w3]))
          refine .pure _ (hg z[hh] z[a] (hB _ (List.getElem_mem _)) (hB _ (List.getElem_mem _))) rfl fun r hr _ => ?_
          subst hr
          (simp -implicitDefEqProofs only [go_sem, iA]; repeat (refine GO ?_; simp -implicitDefEqProofs only [go_sem, iA]))
          refine VIF.split (fun q => ?_) (fun q => ?_)
          · simp at q
            have w4 := wrap_add1 (show hh < 4611686018427387904 by omega)
            (simp -implicitDefEqProofs only [go_sem, w4]; repeat (refine GO ?_; simp -implicitDefEqProofs only [go_sem, w4]))
            refine BACK.mk ⟨(hh + 1, j), by show m ≤ hh + 1; omega, by show hh + 1 ≤ j; omega, hj, .inr fun u v hu hv => ?_, hi2⟩ [(0, some 0)] rfl rfl (by show j - (hh + 1) < j - i; omega) ?_
            · simp only [Nat.add_sub_cancel, List.getElem?_eq_getElem hz1, List.getElem?_eq_getElem hz2] at hu hv
              cases hu; cases hv; omega
            · (simp -implicitDefEqProofs only [go_sem, iA, so]; repeat (refine GO ?_; simp -implicitDefEqProofs only [go_sem, iA, so]))
              exact .same (so z) _ _ (so_leafy z) rfl
          · simp at q
            (simp -implicitDefEqProofs only [go_sem]; repeat (refine GO ?_; simp -implicitDefEqProofs only [go_sem]))
            refine BACK.mk ⟨(i, hh), hi, hh2, by show hh ≤ b; omega, lo, .inr fun u v hu hv => ?_⟩ [(0, some 0)] rfl rfl (by show hh - i < j - i; omega) ?_
            · simp only [List.getElem?_eq_getElem hz1, List.getElem?_eq_getElem hz2] at hu hv
              cases hu; cases hv; exact hc.tot _ _ (by omega)
            · (simp -implicitDefEqProofs only [go_sem, iA, so]; repeat (refine GO ?_; simp -implicitDefEqProofs only [go_sem, iA, so]))
              exact .same (so z) _ _ (so_leafy z) rfl
        · simp at e
          have hij' : i = j := by omega
          subst hij'
          (simp -implicitDefEqProofs only [go_sem]; repeat (refine GO ?_; simp -implicitDefEqProofs only [go_sem]))
          refine LOOP.mk (ι := { p : Nat × List It // a ≤ p.1 ∧ p.1 ≤ i - 1 ∧ Win z p.2 a b ∧ ∀ k, p.2[k]? = if a ≤ k ∧ k < p.1 then z[k + 1]? else if k = p.1 then z[a]? else z[k]? })
            (fun p => mkS [(0, .rf 0 0 z.length), (10, iA i), (13, iA p.1.1)] [(0, so p.1.2)] [0]) (fun p => i - p.1.1)
            ⟨(a, z), Nat.le_refl _, by show a ≤ i - 1; omega, .refl _ _ _, fun k => by
              show z[k]? = if a ≤ k ∧ k < a then z[k + 1]? else if k = a then z[a]? else z[k]?
              rw [if_neg (by omega)]; split <;> simp_all⟩ [(0, some 0)] rfl rfl ?_ (fun p => ?_)
          · (simp -implicitDefEqProofs only [go_sem, iA, so]; repeat (refine GO ?_; simp -implicitDefEqProofs only [go_sem, iA, so]))
            exact .same (so z) _ _ (so_leafy z) rfl
          · obtain ⟨⟨k, y⟩, hk1, hk2, hw, hy⟩ := p
            have hlen := hw.len
            simp only at hk1 hk2 hw hy hlen
            have w5 := wrap_sub1 (show 1 ≤ i by omega) (by omega)
            (simp -implicitDefEqProofs only [go_sem, iA, so, w5]; repeat (refine GO ?_; simp -implicitDefEqProofs only [go_sem, iA, so, w5]))
            refine VIF.split (fun e => ?_) (fun e => ?_)
            · simp only [decide_eq_true_eq] at e
              have w6 := wrap_add1 (show k < 4611686018427387904 by omega)
              have g1 : k < y.length := by omega
              have g2 : k + 1 < y.length := by omega
              (simp -implicitDefEqProofs only [go_sem, w6]; repeat (refine GO ?_; simp -implicitDefEqProofs only [go_sem, w6]))
              refine ⟨by omega, EL.map g2 ?_⟩
              (simp -implicitDefEqProofs only [go_sem, It.c, w6]; repeat (refine GO ?_; simp -implicitDefEqProofs only [go_sem, It.c, w6]))
              refine ⟨by omega, EL.map g1 ?_⟩
              (simp -implicitDefEqProofs only [go_sem, It.c, w6]; repeat (refine GO ?_; simp -implicitDefEqProofs only [go_sem, It.c, w6]))
              refine ⟨by omega, EL.map g1 ?_⟩
              (simp -implicitDefEqProofs only [go_sem, It.c, w6]; repeat (refine GO ?_; simp -implicitDefEqProofs only [go_sem, It.c, w6]))
              refine ⟨by omega, EL.setmap (by omega) g2 ?_⟩
              (simp -implicitDefEqProofs only [go_sem, It.c, w6]; repeat (refine GO ?_; simp -implicitDefEqProofs only [go_sem, It.c, w6]))
              refine BACK.mk ⟨(k + 1, swp y k (k + 1) g1 g2), by show a ≤ k + 1; omega, by show k + 1 ≤ i - 1; omega, hw.trans (swp_win _ _ (by omega) (by omega) (by omega) (by omega)), fun q => ?_⟩ [(0, some 0)] rfl rfl (by show i - (k + 1) < i - k; omega) ?_
              · show (swp y k (k + 1) g1 g2)[q]? = if a ≤ q ∧ q < k + 1 then z[q + 1]? else if q = k + 1 then z[a]? else z[q]?
                rw [swp_get]
                by_cases e1 : q = k + 1
                · rw [if_pos e1, if_neg (by omega), if_pos e1, hy, if_neg (by omega), if_pos rfl]
                · by_cases e2 : q = k
                  · rw [if_neg e1, if_pos e2, if_pos (by omega), hy, if_neg (by omega), if_neg (by omega), e2]
                  · rw [if_neg e1, if_neg e2, hy]
                    by_cases e3 : a ≤ q ∧ q < k
                    · rw [if_pos e3, if_pos (by omega)]
                    · rw [if_neg e3, if_neg e2, if_neg (by omega), if_neg e1]
              · (simp -implicitDefEqProofs only [go_sem, iA, so]; repeat (refine GO ?_; simp -implicitDefEqProofs only [go_sem, iA, so]))
                exact .same (so (swp y k (k + 1) g1 g2)) _ _ (fun u hu => so_leafy (swp y k (k + 1) g1 g2) u (by rw [so, ← swp_map]; exact hu)) (swp_map g1 g2)
            · simp only [decide_eq_false_iff_not] at e
              have hki : k = i - 1 := by omega
              subst hki
              (simp -implicitDefEqProofs only [go_sem]; repeat (refine GO ?_; simp -implicitDefEqProofs only [go_sem]))
              refine FIN_O (o' := so y) rfl ?_ (so_leafy y) ?_
              · rfl
              · exact ⟨so y, ⟨⟨rfl, y, rfl, hw, merge_one hc r2 hm hi (by omega) h3 lo hi2 hy⟩, rfl⟩, so_leafy y, rfl⟩
    · simp at h
      have v1 := wrap_sub (show m ≤ b by omega) (by omega)
      (simp -implicitDefEqProofs only [go_sem, v1]; repeat (refine GO ?_; simp -implicitDefEqProofs only [go_sem, v1]))
      refine VIF.split (fun h' => ?_) (fun h' => ?_)
      · simp at h'
        have hm : b = m + 1 := by omega
        (simp -implicitDefEqProofs only [go_sem]; repeat (refine GO ?_; simp -implicitDefEqProofs only [go_sem]))
        refine LOOP.mk (ι := { p : Nat × Nat // a ≤ p.1 ∧ p.1 ≤ p.2 ∧ p.2 ≤ m ∧ (p.1 = a ∨ leO c z[p.1 - 1]? z[m]?) ∧ (p.2 = m ∨ leO c z[m]? z[p.2]?) })
          (fun p => mkS [(0, .rf 0 0 z.length), (1, iA a), (2, iA m), (3, iA b), (4, .fn g []), (14, iA p.1.1), (15, iA p.1.2)] [(0, so z)] [0]) (fun p => p.1.2 - p.1.1)
          ⟨(a, m), Nat.le_refl _, by show a ≤ m; omega, Nat.le_refl _, .inl rfl, .inl rfl⟩ [(0, some 0)] rfl rfl ?_ (fun p => ?_)
        · (simp -implicitDefEqProofs only [go_sem, iA, so]; repeat (refine GO ?_; simp -implicitDefEqProofs only [go_sem, iA, so]))
          exact .same (so z) _ _ (so_leafy z) rfl
        · obtain ⟨⟨i, j⟩, hi, hij, hj, lo, hi2⟩ := p
          simp only at hi hij hj lo hi2
          (simp -implicitDefEqProofs only [go_sem, iA, so]; repeat (refine GO ?_; simp -implicitDefEqProofs only [go_sem, iA, so]))
          refine VIF.split (fun e => ?_) (fun e => ?_)
          · simp at e
            have w2 := wrap_add (show i + j < 4611686018427387904 by omega)
            have w3 := half (show i + j < 4611686018427387904 by omega)
            have hh1 : (i + j) / 2 < j := by omega
            have hh2 : i ≤ (i + j) / 2 := by omega
            generalize hhd : (i + j) / 2 = hh at *
            have hz1 : hh < z.length := by omega
            have hz2 : m < z.length := by omega
            (simp -implicitDefEqProofs only [go_sem, w2, w3]; repeat (refine GO ?_; simp -implicitDefEqProofs only [go_sem, w2, w3]))
            refine ⟨by decide, by omega, EL.map hz2 ?_⟩
            (simp -implicitDefEqProofs only [go_sem, It.c, w2, w3]; repeat (refine GO ?_; simp -implicitDefEqProofs only [go_sem, It.c, w2, w3]))
            refine ⟨by omega, EL.map hz1 ?_⟩
            (simp -implicitDefEqProofs only [go_sem, It.c, w2, w3]; repeat (refine GO ?_; simp -implicitDefEqProofs only [go_sem, It.c, w2, w3]))
            refine .pure _ (hg z[m] z[hh] (hB _ (List.getElem_mem _)) (hB _ (List.getElem_mem _))) rfl fun r hr _ => ?_
            subst hr
            (simp -implicitDefEqProofs only [go_sem, iA]; repeat (refine GO ?_; simp -implicitDefEqProofs only [go_sem, iA]))
            refine VIF.split (fun q => ?_) (fun q => ?_)
            · simp at q
              have w4 := wrap_add1 (show hh < 4611686018427387904 by omega)
              (simp -implicitDefEqProofs only [go_sem, w4]; repeat (refine GO ?_; simp -implicitDefEqProofs only [go_sem, w4]))
              refine BACK.mk ⟨(hh + 1, j), by show a ≤ hh + 1; omega, by show hh + 1 ≤ j; omega, hj, .inr fun u v hu hv => ?_, hi2⟩ [(0, some 0)] rfl rfl (by show j - (hh + 1) < j - i; omega) ?_
              · simp only [Nat.add_sub_cancel, List.getElem?_eq_getElem hz1, List.getElem?_eq_getElem hz2] at hu hv
                cases hu; cases hv; exact hc.tot _ _ (by omega)
              · (simp -implicitDefEqProofs only [go_sem, iA, so]; repeat (refine GO ?_; simp -implicitDefEqProofs only [go_sem, iA, so]))
                exact .same (so z) _ _ (so_leafy z) rfl
            · simp at q
              (simp -implicitDefEqProofs only [go_sem]; repeat (refine GO ?_; simp -implicitDefEqProofs only [go_sem]))
              refine BACK.mk ⟨(i, hh), hi, hh2, by show hh ≤ m; omega, lo, .inr fun u v hu hv => ?_⟩ [(0, some 0)] rfl rfl (by show hh - i < j - i; omega) ?_
              · simp only [List.getElem?_eq_getElem hz1, List.getElem?_eq_getElem hz2] at hu hv
                cases hu; cases hv; omega
              · (simp -implicitDefEqProofs only [go_sem, iA, so]; repeat (refine GO ?_; simp -implicitDefEqProofs only [go_sem, iA, so]))
                exact .same (so z) _ _ (so_leafy z) rfl
          · simp at e
            have hij' : i = j := by omega
            subst hij'
            (simp -implicitDefEqProofs only [go_sem]; repeat (refine GO ?_; simp -implicitDefEqProofs only [go_sem]))
            refine LOOP.mk (ι := { p : Nat × List It // i ≤ p.1 ∧ p.1 ≤ m ∧ Win z p.2 a b ∧ ∀ k, p.2[k]? = if p.1 < k ∧ k ≤ m then z[k - 1]? else if k = p.1 then z[m]? else z[k]? })
              (fun p => mkS [(0, .rf 0 0 z.length), (14, iA i), (17, iA p.1.1)] [(0, so p.1.2)] [0]) (fun p => p.1.1)
              ⟨(m, z), by show i ≤ m; omega, Nat.le_refl _, .refl _ _ _, fun k => by
                show z[k]? = if m < k ∧ k ≤ m then z[k - 1]? else if k = m then z[m]? else z[k]?
                rw [if_neg (by omega)]; split <;> simp_all⟩ [(0, some 0)] rfl rfl ?_ (fun p => ?_)
            · (simp -implicitDefEqProofs only [go_sem, iA, so]; repeat (refine GO ?_; simp -implicitDefEqProofs only [go_sem, iA, so]))
              exact .same (so z) _ _ (so_leafy z) rfl
            · obtain ⟨⟨k, y⟩, hk1, hk2, hw, hy⟩ := p
              have hlen := hw.len
              simp only at hk1 hk2 hw hy hlen
              (simp -implicitDefEqProofs only [go_sem, iA, so]; repeat (refine GO ?_; simp -implicitDefEqProofs only [go_sem, iA, so]))
              refine VIF.split (fun e => ?_) (fun e => ?_)
              · simp at e
                have w6 := wrap_sub1 (show 1 ≤ k by omega) (by omega)
                have g1 : k < y.length := by omega
                have g2 : k - 1 < y.length := by omega
                (simp -implicitDefEqProofs only [go_sem, w6]; repeat (refine GO ?_; simp -implicitDefEqProofs only [go_sem, w6]))
                refine ⟨by omega, EL.map g2 ?_⟩
                (simp -implicitDefEqProofs only [go_sem, It.c, w6]; repeat (refine GO ?_; simp -implicitDefEqProofs only [go_sem, It.c, w6]))
                refine ⟨by omega, EL.map g1 ?_⟩
                (simp -implicitDefEqProofs only [go_sem, It.c, w6]; repeat (refine GO ?_; simp -implicitDefEqProofs only [go_sem, It.c, w6]))
                refine ⟨by omega, EL.map g1 ?_⟩
                (simp -implicitDefEqProofs only [go_sem, It.c, w6]; repeat (refine GO ?_; simp -implicitDefEqProofs only [go_sem, It.c, w6]))
                refine ⟨by omega, EL.setmap (by omega) g2 ?_⟩
                (simp -implicitDefEqProofs only [go_sem, It.c, w6]; repeat (refine GO ?_; simp -implicitDefEqProofs only [go_sem, It.c, w6]))
                refine BACK.mk ⟨(k - 1, swp y k (k - 1) g1 g2), by show i ≤ k - 1; omega, by show k - 1 ≤ m; omega, hw.trans (swp_win _ _ (by omega) (by omega) (by omega) (by omega)), fun q => ?_⟩ [(0, some 0)] rfl rfl (by show k - 1 < k; omega) ?_
                · show (swp y k (k - 1) g1 g2)[q]? = if k - 1 < q ∧ q ≤ m then z[q - 1]? else if q = k - 1 then z[m]? else z[q]?
                  rw [swp_get]
                  by_cases e1 : q = k - 1
                  · rw [if_pos e1, if_neg (by omega), if_pos e1, hy, if_neg (by omega), if_pos rfl]
                  · by_cases e2 : q = k
                    · rw [if_neg e1, if_pos e2, if_pos (by omega), hy, if_neg (by omega), if_neg (by omega), e2]
                    · rw [if_neg e1, if_neg e2, hy]
                      by_cases e3 : k < q ∧ q ≤ m
                      · rw [if_pos e3, if_pos (by omega)]
                      · rw [if_neg e3, if_neg e2, if_neg (by omega), if_neg e1]
                · (simp -implicitDefEqProofs only [go_sem, iA, so]; repeat (refine GO ?_; simp -implicitDefEqProofs only [go_sem, iA, so]))
                  exact .same (so (swp y k (k - 1) g1 g2)) _ _ (fun u hu => so_leafy (swp y k (k - 1) g1 g2) u (by rw [so, ← swp_map]; exact hu)) (swp_map g1 g2)
              · simp at e
                have hki : k = i := by omega
                subst hki
                (simp -implicitDefEqProofs only [go_sem]; repeat (refine GO ?_; simp -implicitDefEqProofs only [go_sem]))
                refine FIN_O (o' := so y) rfl ?_ (so_leafy y) ?_
                · rfl
                · exact ⟨so y, ⟨⟨rfl, y, rfl, hw, merge_last hc r1 hm hi (by omega) h3 lo hi2 hy⟩, rfl⟩, so_leafy y, rfl⟩
      · simp at h'
        (simp -implicitDefEqProofs only [go_sem]; repeat (refine GO ?_; simp -implicitDefEqProofs only [go_sem]))
        have u1 := wrap_add (show a + b < 4611686018427387904 by omega)
        have u2 := half (show a + b < 4611686018427387904 by omega)
        have hm1 : a < (a + b) / 2 := by omega
        have hm2 : (a + b) / 2 < b := by omega
        generalize hmd : (a + b) / 2 = mid at *
        have u3 := wrap_add (show mid + m < 4611686018427387904 by omega)
        (simp -implicitDefEqProofs only [go_sem, u1, u2, u3]; repeat (refine GO ?_; simp -implicitDefEqProofs only [go_sem, u1, u2, u3]))
        refine ⟨by decide, ?_⟩
        refine VIF.join (ι := { p : Nat × Nat // a ≤ p.1 ∧ p.1 ≤ p.2 ∧ p.2 ≤ mid ∧ p.2 ≤ m ∧ mid + m - p.1 ≤ b ∧ (p.1 = a ∨ mid + m - p.1 = b) ∧ (p.2 = m ∨ mid + m - p.2 = m) })
          (fun p => mkS [(0, .rf 0 0 z.length), (1, iA a), (2, iA m), (3, iA b), (4, .fn g []), (18, iA mid), (19, iA (mid + m : Nat)), (20, iA p.1.1), (21, iA p.1.2)] [(0, so z)] [0]) (fun hmm => ?_) (fun hmm => ?_) (fun p => ?_)
        · simp at hmm
          have w := wrap_sub (show b ≤ mid + m by omega) (by omega)
          (simp -implicitDefEqProofs only [go_sem, w, u1, u2, u3]; repeat (refine GO ?_; simp -implicitDefEqProofs only [go_sem, w, u1, u2, u3]))
          refine JB.mk ⟨(mid + m - b, mid), by show a ≤ mid + m - b; omega, by show mid + m - b ≤ mid; omega, by show mid ≤ mid; omega, by show mid ≤ m; omega, by show mid + m - (mid + m - b) ≤ b; omega, .inr (by show mid + m - (mid + m - b) = b; omega), .inr (by show mid + m - mid = m; omega)⟩ [(0, some 0)] rfl rfl ?_
          (simp -implicitDefEqProofs only [go_sem, iA, so, w, u1, u2, u3]; repeat (refine GO ?_; simp -implicitDefEqProofs only [go_sem, iA, so, w, u1, u2, u3]))
          exact .same (so z) _ _ (so_leafy z) rfl
        · simp at hmm
          (simp -implicitDefEqProofs only [go_sem, u1, u2, u3]; repeat (refine GO ?_; simp -implicitDefEqProofs only [go_sem, u1, u2, u3]))
          refine JB.mk ⟨(a, m), Nat.le_refl _, by show a ≤ m; omega, by show m ≤ mid; omega, Nat.le_refl _, by show mid + m - a ≤ b; omega, .inl rfl, .inl rfl⟩ [(0, some 0)] rfl rfl ?_
          (simp -implicitDefEqProofs only [go_sem, iA, so, u1, u2, u3]; repeat (refine GO ?_; simp -implicitDefEqProofs only [go_sem, iA, so, u1, u2, u3]))
          exact .same (so z) _ _ (so_leafy z) rfl
        · obtain ⟨⟨S, E⟩, f1⟩ := p
          simp only at f1
          have v2 := wrap_sub1 (show 1 ≤ mid + m by omega) (by omega)
          refine GO ?_
          (simp -implicitDefEqProofs only [go_sem, iA, so, v2]; repeat (refine GO ?_; simp -implicitDefEqProofs only [go_sem, iA, so, v2]))
          refine LOOP.mk (ι := { p : Nat × Nat // S ≤ p.1 ∧ p.1 ≤ p.2 ∧ p.2 ≤ E ∧ (p.1 = S ∨ leO c z[p.1 - 1]? z[mid + m - p.1]?) ∧ (p.2 = E ∨ leO c z[mid + m - 1 - p.2]? z[p.2]?) })
            (fun p => mkS [(0, .rf 0 0 z.length), (1, iA a), (2, iA m), (3, iA b), (4, .fn g []), (18, iA mid), (19, iA (mid + m : Nat)), (20, iA p.1.1), (21, iA p.1.2), (22, iA (mid + m - 1 : Nat))] [(0, so z)] [0]) (fun p => p.1.2 - p.1.1)
            ⟨(S, E), Nat.le_refl _, by show S ≤ E; omega, Nat.le_refl _, .inl rfl, .inl rfl⟩ [(0, some 0)] rfl rfl ?_ (fun p => ?_)
          · (simp -implicitDefEqProofs only [go_sem, iA, so, v2]; repeat (refine GO ?_; simp -implicitDefEqProofs only [go_sem, iA, so, v2]))
            exact .same (so z) _ _ (so_leafy z) rfl
          · obtain ⟨⟨s, r⟩, hs1, hs2, hs3, lo, hi⟩ := p
            simp only at hs1 hs2 hs3 lo hi
            (simp -implicitDefEqProofs only [go_sem, iA, so]; repeat (refine GO ?_; simp -implicitDefEqProofs only [go_sem, iA, so]))
            refine VIF.split (fun e => ?_) (fun e => ?_)
            · simp at e
              have w2 := wrap_add (show s + r < 4611686018427387904 by omega)
              have w3 := half (show s + r < 4611686018427387904 by omega)
              have hh1 : (s + r) / 2 < r := by omega
              have hh2 : s ≤ (s + r) / 2 := by omega
              generalize hhd : (s + r) / 2 = hh at *
              have w4 := wrap_sub (show hh ≤ mid + m - 1 by omega) (by omega)
              have hz1 : hh < z.length := by omega
              have hz2 : mid + m - 1 - hh < z.length := by omega
              (simp -implicitDefEqProofs only [go_sem, w2, w3, w4]; repeat (refine GO ?_; simp -implicitDefEqProofs only [go_sem, w2, w3, w4]))
              refine ⟨by decide, by omega, EL.map hz2 ?_⟩
              (simp -implicitDefEqProofs only [go_sem, It.c, w2, w3, w4]; repeat (refine GO ?_; simp -implicitDefEqProofs only [go_sem, It.c, w2, w3, w4]))
              refine ⟨by omega, EL.map hz1 ?_⟩
              (simp -implicitDefEqProofs only [go_sem, It.c, w2, w3, w4]; repeat (refine GO ?_; simp -implicitDefEqProofs only [go_sem, It.c, w2, w3, w4]))
              refine .pure _ (hg z[mid + m - 1 - hh] z[hh] (hB _ (List.getElem_mem _)) (hB _ (List.getElem_mem _))) rfl fun r hr _ => ?_
              subst hr
              (simp -implicitDefEqProofs only [go_sem, iA]; repeat (refine GO ?_; simp -implicitDefEqProofs only [go_sem, iA]))
              refine VIF.split (fun q => ?_) (fun q => ?_)
              · simp at q
                have w5 := wrap_add1 (show hh < 4611686018427387904 by omega)
                (simp -implicitDefEqProofs only [go_sem, w5]; repeat (refine GO ?_; simp -implicitDefEqProofs only [go_sem, w5]))
                refine BACK.mk ⟨(hh + 1, r), by show S ≤ hh + 1; omega, by show hh + 1 ≤ r; omega, hs3, .inr fun u v hu hv => ?_, hi⟩ [(0, some 0)] rfl rfl (by show r - (hh + 1) < r - s; omega) ?_
                · have hv' : z[mid + m - 1 - hh]? = some v := by rw [← hv]; congr 1; show mid + m - 1 - hh = mid + m - (hh + 1); omega
                  simp only [Nat.add_sub_cancel, List.getElem?_eq_getElem hz1] at hu
                  rw [List.getElem?_eq_getElem hz2] at hv'
                  cases hu; cases hv'; exact hc.tot _ _ (by omega)
                · (simp -implicitDefEqProofs only [go_sem, iA, so]; repeat (refine GO ?_; simp -implicitDefEqProofs only [go_sem, iA, so]))
                  exact .same (so z) _ _ (so_leafy z) rfl
              · simp at q
                (simp -implicitDefEqProofs only [go_sem]; repeat (refine GO ?_; simp -implicitDefEqProofs only [go_sem]))
                refine BACK.mk ⟨(s, hh), hs1, hh2, by show hh ≤ E; omega, lo, .inr fun u v hu hv => ?_⟩ [(0, some 0)] rfl rfl (by show hh - s < r - s; omega) ?_
                · simp only [List.getElem?_eq_getElem hz1, List.getElem?_eq_getElem hz2] at hu hv
                  cases hu; cases hv; omega
                · (simp -implicitDefEqProofs only [go_sem, iA, so]; repeat (refine GO ?_; simp -implicitDefEqProofs only [go_sem, iA, so]))
                  exact .same (so z) _ _ (so_leafy z) rfl
            · simp at e
              have hsr : s = r := by omega
              subst hsr
              have w6 := wrap_sub (show s ≤ mid + m by omega) (by omega)
              obtain ⟨t, ht⟩ : ∃ t, t = mid + m - s := ⟨_, rfl⟩
              rw [← ht] at w6
              have hmid : mid = s + (t - m) := by omega
              have lo' : s = a ∨ t = b ∨ leO c z[s - 1]? z[t]? := by
                rcases lo with h | h
                · omega
                · rw [← ht] at h; exact .inr (.inr h)
              have hi' : s = m ∨ t = m ∨ leO c z[t - 1]? z[s]? := by
                rcases hi with h | h
                · omega
                · have : mid + m - 1 - s = t - 1 := by omega
                  rw [this] at h; exact .inr (.inr h)
              have g1 : a ≤ s ∧ s ≤ m ∧ m ≤ t ∧ t ≤ b ∧ s ≤ mid ∧ mid ≤ t := by omega
              obtain ⟨g1, g2, g3, g4, g5, g6⟩ := g1
              have same : m ≤ s ∨ t ≤ m → ∀ k, z[k]? = rotG z (m - s) (t - m) m k := by
                intro hst k
                simp only [rotG]
                by_cases k1 : m - (m - s) ≤ k ∧ k < m - (m - s) + (t - m)
                · rw [if_pos k1]; congr 1; omega
                · rw [if_neg k1]
                  by_cases k2 : m - (m - s) + (t - m) ≤ k ∧ k < m + (t - m)
                  · rw [if_pos k2]; congr 1; omega
                  · rw [if_neg k2]
              (simp -implicitDefEqProofs only [go_sem, w6]; repeat (refine GO ?_; simp -implicitDefEqProofs only [go_sem, w6]))
              refine evRegion.join (ι := { y : List It // Win z y a b ∧ ∀ k, y[k]? = rotG z (m - s) (t - m) m k })
                (fun y => mkS [(0, .rf 0 0 z.length), (1, iA a), (3, iA b), (4, .fn g []), (18, iA mid), (20, iA s), (24, iA t)] [(0, so y.1)] [0]) ?_ (fun y => ?_)
              · (simp -implicitDefEqProofs only [go_sem, ord149_39]; repeat (refine GO ?_; simp -implicitDefEqProofs only [go_sem, ord149_39]))
                refine VIF.split (fun q1 => ?_) (fun q1 => ?_)
                · simp at q1
                  (simp -implicitDefEqProofs only [go_sem]; repeat (refine GO ?_; simp -implicitDefEqProofs only [go_sem]))
                  refine VIF.split (fun q2 => ?_) (fun q2 => ?_)
                  · simp at q2
                    (simp -implicitDefEqProofs only [go_sem]; repeat (refine GO ?_; simp -implicitDefEqProofs only [go_sem]))
                    refine .obj 0 (so z) _ _ (s75 g z s m t (by omega) (by omega) (by omega) (by omega)) rfl (so_leafy z) rfl rfl fun r o' hr _ _ => ?_
                    obtain ⟨rfl, z1, rfl, hrot⟩ := hr
                    (simp -implicitDefEqProofs only [go_sem]; repeat (refine GO ?_; simp -implicitDefEqProofs only [go_sem]))
                    refine JB.mk ⟨z1, hrot.win.wide (by omega) (by omega), hrot.get⟩ [(0, some 0)] rfl rfl ?_
                    (simp -implicitDefEqProofs only [go_sem, iA, so, w6]; repeat (refine GO ?_; simp -implicitDefEqProofs only [go_sem, iA, so, w6]))
                    exact .same (so z1) _ _ (so_leafy z1) rfl
                  · simp at q2
                    (simp -implicitDefEqProofs only [go_sem]; repeat (refine GO ?_; simp -implicitDefEqProofs only [go_sem]))
                    refine JB.mk ⟨z, .refl _ _ _, same (by omega)⟩ [(0, some 0)] rfl rfl ?_
                    (simp -implicitDefEqProofs only [go_sem, iA, so, w6]; repeat (refine GO ?_; simp -implicitDefEqProofs only [go_sem, iA, so, w6]))
                    exact .same (so z) _ _ (so_leafy z) rfl
                · simp at q1
                  (simp -implicitDefEqProofs only [go_sem]; repeat (refine GO ?_; simp -implicitDefEqProofs only [go_sem]))
                  refine JB.mk ⟨z, .refl _ _ _, same (by omega)⟩ [(0, some 0)] rfl rfl ?_
                  (simp -implicitDefEqProofs only [go_sem, iA, so, w6]; repeat (refine GO ?_; simp -implicitDefEqProofs only [go_sem, iA, so, w6]))
                  exact .same (so z) _ _ (so_leafy z) rfl
              · obtain ⟨z1, hw1, hy1⟩ := y
                have hl1 := hw1.len
                have hB1 : ∀ x ∈ z1, B x := fun x hx => hB x (hw1.perm.subset hx)
                obtain ⟨p1, p2, p3, p4, psep⟩ := rot_runs hc r1 r2 g1 g2 g3 g4 h3 hmid lo' hi' hy1
                refine GO ?_
                (simp -implicitDefEqProofs only [go_sem, iA, so]; repeat (refine GO ?_; simp -implicitDefEqProofs only [go_sem, iA, so]))
                refine evRegion.join (ι := { y : List It // Win z1 y a mid ∧ SR c y a mid })
                  (fun y => mkS [(0, .rf 0 0 z.length), (3, iA b), (4, .fn g []), (18, iA mid), (24, iA t)] [(0, so y.1)] [0]) ?_ (fun y => ?_)
                · (simp -implicitDefEqProofs only [go_sem, iA, so, ord149_41]; repeat (refine GO ?_; simp -implicitDefEqProofs only [go_sem, iA, so, ord149_41]))
                  refine VIF.split (fun q3 => ?_) (fun q3 => ?_)
                  · simp at q3
                    (simp -implicitDefEqProofs only [go_sem]; repeat (refine GO ?_; simp -implicitDefEqProofs only [go_sem]))
                    refine VIF.split (fun q4 => ?_) (fun q4 => ?_)
                    · simp at q4
                      (simp -implicitDefEqProofs only [go_sem]; repeat (refine GO ?_; simp -implicitDefEqProofs only [go_sem]))
                      refine .obj 0 (so z1) _ _ (ihL d ih z1 hl1 hB1 a s mid (by omega) (by omega) (by omega) (by omega) (by omega) p1 p2) rfl (so_leafy z1) rfl rfl fun r o' hr _ _ => ?_
                      obtain ⟨rfl, z2, rfl, hw2, hs2⟩ := hr
                      (simp -implicitDefEqProofs only [go_sem]; repeat (refine GO ?_; simp -implicitDefEqProofs only [go_sem]))
                      refine JB.mk ⟨z2, hw2, hs2⟩ [(0, some 0)] rfl rfl ?_
                      (simp -implicitDefEqProofs only [go_sem, iA, so]; repeat (refine GO ?_; simp -implicitDefEqProofs only [go_sem, iA, so]))
                      exact .same (so z2) _ _ (so_leafy z2) rfl
                    · simp at q4
                      (simp -implicitDefEqProofs only [go_sem]; repeat (refine GO ?_; simp -implicitDefEqProofs only [go_sem]))
                      refine JB.mk ⟨z1, .refl _ _ _, fun u v k1 k2 k3 => p1 u v k1 k2 (by omega)⟩ [(0, some 0)] rfl rfl ?_
                      (simp -implicitDefEqProofs only [go_sem, iA, so]; repeat (refine GO ?_; simp -implicitDefEqProofs only [go_sem, iA, so]))
                      exact .same (so z1) _ _ (so_leafy z1) rfl
                  · simp at q3
                    (simp -implicitDefEqProofs only [go_sem]; repeat (refine GO ?_; simp -implicitDefEqProofs only [go_sem]))
                    refine JB.mk ⟨z1, .refl _ _ _, fun u v k1 k2 k3 => p2 u v (by omega) k2 k3⟩ [(0, some 0)] rfl rfl ?_
                    (simp -implicitDefEqProofs only [go_sem, iA, so]; repeat (refine GO ?_; simp -implicitDefEqProofs only [go_sem, iA, so]))
                    exact .same (so z1) _ _ (so_leafy z1) rfl
                · obtain ⟨z2, hw2, hs2⟩ := y
                  have hl2 := hw2.len.trans hl1
                  have hB2 : ∀ x ∈ z2, B x := fun x hx => hB1 x (hw2.perm.subset hx)
                  have p3' : SR c z2 mid t := fun u v k1 k2 k3 => by rw [hw2.out u (.inr k1), hw2.out v (.inr (by omega))]; exact p3 u v k1 k2 k3
                  have p4' : SR c z2 t b := fun u v k1 k2 k3 => by rw [hw2.out u (.inr (by omega)), hw2.out v (.inr (by omega))]; exact p4 u v k1 k2 k3
                  have fin2 : SR c z2 mid b → Win z z2 a b ∧ SR c z2 a b := fun h => ⟨hw1.trans (hw2.wide (Nat.le_refl _) (by omega)), merge_fin hc psep hw2 hs2 (.refl _ _ _) h⟩
                  refine GO ?_
                  (simp -implicitDefEqProofs only [go_sem, iA, so]; repeat (refine GO ?_; simp -implicitDefEqProofs only [go_sem, iA, so]))
                  (simp -implicitDefEqProofs only [go_sem, iA, so, ord149_43]; repeat (refine GO ?_; simp -implicitDefEqProofs only [go_sem, iA, so, ord149_43]))
                  refine VIF.split (fun q5 => ?_) (fun q5 => ?_)
                  · simp at q5
                    (simp -implicitDefEqProofs only [go_sem]; repeat (refine GO ?_; simp -implicitDefEqProofs only [go_sem]))
                    refine VIF.split (fun q6 => ?_) (fun q6 => ?_)
                    · simp at q6
                      (simp -implicitDefEqProofs only [go_sem]; repeat (refine GO ?_; simp -implicitDefEqProofs only [go_sem]))
                      refine .obj 0 (so z2) _ _ (ihL d ih z2 hl2 hB2 mid t b (by omega) (by omega) (by omega) (by omega) (by omega) p3' p4') rfl (so_leafy z2) rfl rfl fun r o' hr _ _ => ?_
                      obtain ⟨rfl, z3, rfl, hw3, hs3⟩ := hr
                      (simp -implicitDefEqProofs only [go_sem]; repeat (refine GO ?_; simp -implicitDefEqProofs only [go_sem]))
                      refine FIN_O (o' := so z3) rfl ?_ (so_leafy z3) ?_
                      · rfl
                      · exact ⟨so z3, ⟨⟨rfl, z3, rfl, hw1.trans ((hw2.wide (Nat.le_refl _) (by omega)).trans (hw3.wide (by omega) (Nat.le_refl _))), merge_fin hc psep hw2 hs2 hw3 hs3⟩, rfl⟩, so_leafy z3, rfl⟩
                    · simp at q6
                      (simp -implicitDefEqProofs only [go_sem]; repeat (refine GO ?_; simp -implicitDefEqProofs only [go_sem]))
                      refine FIN_O (o' := so z2) rfl ?_ (so_leafy z2) ?_
                      · rfl
                      · exact ⟨so z2, ⟨⟨rfl, z2, rfl, fin2 fun u v k1 k2 k3 => p3' u v k1 k2 (by omega)⟩, rfl⟩, so_leafy z2, rfl⟩
                  · simp at q5
                    (simp -implicitDefEqProofs only [go_sem]; repeat (refine GO ?_; simp -implicitDefEqProofs only [go_sem]))
                    refine FIN_O (o' := so z2) rfl ?_ (so_leafy z2) ?_
                    · rfl
                    · exact ⟨so z2, ⟨⟨rfl, z2, rfl, fin2 fun u v k1 k2 k3 => p4' u v (by omega) k2 k3⟩, rfl⟩, so_leafy z2, rfl⟩
end Yt
namespace Yt
open Go Go.Vc Go.Proofs
set_option maxRecDepth 10000
set_option maxHeartbeats 4000000
set_option linter.unusedSimpArgs false
set_option linter.unusedVariables false
theorem s70L (g : Nat) (c : It → It → Int) (hc : Cmp c) (B : It → Prop) (hg : ∀ x y, B x → B y → Spec0 Try.prog g [.ag x.c, .ag y.c] (· = iA (c x y))) {N : Nat} (z : List It) (hN : z.length = N) (hB : ∀ x ∈ z, B x) (a b : Nat) (h1 : a ≤ b) (h2 : b ≤ N) (hl : N < 2305843009213693952) :
    SpecO Try.prog 148 [.rf 0 0 N, iA a, iA b, .fn g []] (so z) (fun r o' => r = .tu [] ∧ ∃ z', o' = so z' ∧ Win z z' a b ∧ SR c z' a b) := by
  subst hN; exact s70 g c hc B hg z hB a b h1 h2 hl
theorem s71L (g : Nat) (c : It → It → Int) (hc : Cmp c) (B : It → Prop) (hg : ∀ x y, B x → B y → Spec0 Try.prog g [.ag x.c, .ag y.c] (· = iA (c x y))) {N : Nat} (z : List It) (hN : z.length = N) (hB : ∀ x ∈ z, B x) (a m b : Nat) (h1 : a < m) (h2 : m < b) (h3 : b ≤ N) (hl : N < 2305843009213693952)
    (r1 : SR c z a m) (r2 : SR c z m b) :
    SpecO Try.prog 149 [.rf 0 0 N, iA a, iA m, iA b, .fn g []] (so z) (fun r o' => r = .tu [] ∧ ∃ z', o' = so z' ∧ Win z z' a b ∧ SR c z' a b) := by
  subst hN; exact s71 g c hc B hg _ z hB a m b (Nat.le_refl _) h1 h2 h3 hl r1 r2
/-- Blocks of so many items, each sorted. -/
def BK (c : It → It → Int) (z : List It) (k : Nat) : Prop := ∀ q, SR c z (q * k) (min ((q + 1) * k) z.length)
theorem wrap_dbl {a : Nat} (h : a < 2305843009213693952) : IntKind.i64.wrap (2 * (a : Int)) = ((2 * a : Nat) : Int) := by rw [wrap_i64] <;> omega
theorem wrap_dbl' {a : Nat} (h : a < 2305843009213693952) : IntKind.i64.wrap ((a : Int) * 2) = ((2 * a : Nat) : Int) := by rw [wrap_i64] <;> omega
theorem s60 (g : Nat) (c : It → It → Int) (hc : Cmp c) (B : It → Prop) (hg : ∀ x y, B x → B y → Spec0 Try.prog g [.ag x.c, .ag y.c] (· = iA (c x y))) (z : List It) (hB : ∀ x ∈ z, B x) (hl : z.length < 576460752303423488) :
    SpecO Try.prog 139 [.rf 0 0 z.length, iA z.length, .fn g []] (so z) (fun r o' => r = .tu [] ∧ ∃ z', o' = so z' ∧ Win z z' 0 z.length ∧ SR c z' 0 z.length) := by
  refine specO_of_vc tabOk elems ord139 Try.func139 rfl (rl := []) rfl (by kernel_rfl) rfl ?_
  (simp -implicitDefEqProofs only [go_sem, iA, so]; repeat (refine GO ?_; simp -implicitDefEqProofs only [go_sem, iA, so]))
  refine LOOP.mk (ι := { p : Nat × List It // p.1 * 20 ≤ z.length ∧ Win z p.2 0 z.length ∧ ∀ q, q < p.1 → SR c p.2 (q * 20) ((q + 1) * 20) })
    (fun p => mkS [(0, .rf 0 0 z.length), (1, iA z.length), (2, .fn g []), (6, iA 20), (7, iA (p.1.1 * 20 : Nat)), (8, iA ((p.1.1 + 1) * 20 : Nat))] [(0, so p.1.2)] [0]) (fun p => z.length - p.1.1 * 20)
    ⟨(0, z), by simp, .refl _ _ _, fun q hq => by simp at hq⟩ [(0, some 0)] rfl rfl ?_ (fun p => ?_)
  · (simp -implicitDefEqProofs only [go_sem, iA, so]; repeat (refine GO ?_; simp -implicitDefEqProofs only [go_sem, iA, so]))
    exact ⟨⟨rfl, rfl⟩, .same (so z) _ _ (so_leafy z) rfl⟩
  · obtain ⟨⟨n, y⟩, hn, hw, hs⟩ := p
    have hlen := hw.len
    simp only at hn hw hs hlen
    (simp -implicitDefEqProofs only [go_sem, iA, so]; repeat (refine GO ?_; simp -implicitDefEqProofs only [go_sem, iA, so]))
    refine VIF.split (fun h => ?_) (fun h => ?_)
    · simp at h
      (simp -implicitDefEqProofs only [go_sem]; repeat (refine GO ?_; simp -implicitDefEqProofs only [go_sem]))
      refine .obj 0 (so y) _ _ (s70L g c hc B hg y hlen (fun x hx => hB x (hw.perm.subset hx)) (n * 20) ((n + 1) * 20) (by omega) (by omega) (by omega)) rfl (so_leafy y) rfl rfl fun r o' hr _ _ => ?_
      obtain ⟨rfl, y', rfl, hw', hs'⟩ := hr
      have w1 : IntKind.i64.wrap (((n + 1) * 20 : Nat) + (20 : Int)) = (((n + 1 + 1) * 20 : Nat) : Int) := by rw [wrap_i64] <;> omega
      (simp -implicitDefEqProofs only [go_sem, w1]; repeat (refine GO ?_; simp -implicitDefEqProofs only [go_sem, w1]))
      refine BACK.mk ⟨(n + 1, y'), by show (n + 1) * 20 ≤ z.length; omega, hw.trans (hw'.wide (by omega) (by omega)), fun q hq => ?_⟩ [(0, some 0)] rfl rfl (by show z.length - (n + 1) * 20 < z.length - n * 20; omega) ?_
      · show SR c y' (q * 20) ((q + 1) * 20)
        by_cases e : q = n
        · subst e; exact hs'
        · have hqn : q < n := by have : q < n + 1 := hq; omega
          intro u v k1 k2 k3
          rw [hw'.out u (.inl (by omega)), hw'.out v (.inl (by omega))]
          exact hs q hqn u v k1 k2 k3
      · (simp -implicitDefEqProofs only [go_sem, iA, so]; repeat (refine GO ?_; simp -implicitDefEqProofs only [go_sem, iA, so]))
        exact .same (so y') _ _ (so_leafy y') rfl
    · simp at h
      (simp -implicitDefEqProofs only [go_sem]; repeat (refine GO ?_; simp -implicitDefEqProofs only [go_sem]))
      refine .obj 0 (so y) _ _ (s70L g c hc B hg y hlen (fun x hx => hB x (hw.perm.subset hx)) (n * 20) z.length (by omega) (by omega) (by omega)) rfl (so_leafy y) rfl rfl fun r o' hr _ _ => ?_
      obtain ⟨rfl, y', rfl, hw', hs'⟩ := hr
      (simp -implicitDefEqProofs only [go_sem]; repeat (refine GO ?_; simp -implicitDefEqProofs only [go_sem]))
      have hw2 : Win z y' 0 z.length := hw.trans (hw'.wide (by omega) (by omega))
      have hb : BK c y' 20 := by
        intro q u v k1 k2 k3
        have hl2 := hw2.len
        by_cases e : q < n
        · rw [hw'.out u (.inl (by omega)), hw'.out v (.inl (by omega))]
          exact hs q e u v k1 k2 (by omega)
        · exact hs' u v (by omega) k2 (by omega)
      clear hs hs' hw' hw h
      refine LOOP.mk (ι := { p : Nat × List It // 20 ≤ p.1 ∧ (p.1 < 2 * z.length ∨ p.1 = 20) ∧ Win z p.2 0 z.length ∧ BK c p.2 p.1 })
        (fun p => mkS [(0, .rf 0 0 z.length), (1, iA z.length), (2, .fn g []), (6, iA p.1.1)] [(0, so p.1.2)] [0]) (fun p => 2 * z.length - p.1.1)
        ⟨(20, y'), Nat.le_refl _, .inr rfl, hw2, hb⟩ [(0, some 0)] rfl rfl ?_ (fun p => ?_)
      · (simp -implicitDefEqProofs only [go_sem, iA, so]; repeat (refine GO ?_; simp -implicitDefEqProofs only [go_sem, iA, so]))
        exact ⟨rfl, .same (so y') _ _ (so_leafy y') rfl⟩
      · obtain ⟨⟨k, x⟩, hk, hk2, hwx, hbx⟩ := p
        have hlx := hwx.len
        simp only at hk hk2 hwx hbx hlx
        (simp -implicitDefEqProofs only [go_sem, iA, so]; repeat (refine GO ?_; simp -implicitDefEqProofs only [go_sem, iA, so]))
        refine VIF.split (fun h => ?_) (fun h => ?_)
        · simp at h
          have w2 := wrap_dbl (show k < 2305843009213693952 by omega)
          (simp -implicitDefEqProofs only [go_sem, w2]; repeat (refine GO ?_; simp -implicitDefEqProofs only [go_sem, w2]))
          refine LOOP.mk (ι := { p : Nat × List It // p.1 * (2 * k) ≤ z.length ∧ Win z p.2 0 z.length ∧ (∀ q, q < p.1 → SR c p.2 (q * (2 * k)) ((q + 1) * (2 * k))) ∧ ∀ q, 2 * p.1 ≤ q → SR c p.2 (q * k) (min ((q + 1) * k) z.length) })
            (fun p => mkS [(0, .rf 0 0 z.length), (1, iA z.length), (2, .fn g []), (6, iA k), (7, iA (p.1.1 * (2 * k) : Nat)), (8, iA ((p.1.1 + 1) * (2 * k) : Nat))] [(0, so p.1.2)] [0]) (fun p => z.length - p.1.1)
            ⟨(0, x), by simp, hwx, fun q hq => by simp at hq, fun q _ => by rw [← hlx]; exact hbx q⟩ [(0, some 0)] rfl rfl ?_ (fun p => ?_)
          · (simp -implicitDefEqProofs only [go_sem, iA, so]; repeat (refine GO ?_; simp -implicitDefEqProofs only [go_sem, iA, so]))
            exact ⟨⟨by simp, by simp⟩, .same (so x) _ _ (so_leafy x) rfl⟩
          · obtain ⟨⟨n, u⟩, hn, hwu, hs1, hs2⟩ := p
            have hlu := hwu.len
            simp only at hn hwu hs1 hs2 hlu
            have e1 : (n + 1) * (2 * k) = n * (2 * k) + 2 * k := Nat.succ_mul _ _
            have e2 : (2 * n) * k = n * (2 * k) := by rw [Nat.mul_comm 2 n, Nat.mul_assoc]
            have e3 : (2 * n + 1) * k = n * (2 * k) + k := by rw [Nat.succ_mul, e2]
            have e4 : (2 * n + 1 + 1) * k = n * (2 * k) + 2 * k := by rw [Nat.succ_mul, e3]; omega
            have e5 : (n + 1 + 1) * (2 * k) = n * (2 * k) + 2 * k + 2 * k := by rw [Nat.succ_mul, e1]
            have hA : SR c u (n * (2 * k)) (min (n * (2 * k) + k) z.length) := by
              have := hs2 (2 * n) (Nat.le_refl _); rwa [e2, e3] at this
            have hB' : SR c u (n * (2 * k) + k) (min (n * (2 * k) + 2 * k) z.length) := by
              have := hs2 (2 * n + 1) (by omega); rwa [e3, e4] at this
            have lowq : ∀ q, q < n → (q + 1) * (2 * k) ≤ n * (2 * k) := fun q hq => Nat.mul_le_mul_right _ hq
            have higq : ∀ q, 2 * n + 1 + 1 ≤ q → n * (2 * k) + 2 * k ≤ q * k := fun q hq => by rw [← e4]; exact Nat.mul_le_mul_right _ hq
            have farq : ∀ q, n + 1 ≤ q → n * (2 * k) + 2 * k ≤ q * (2 * k) := fun q hq => by rw [← e1]; exact Nat.mul_le_mul_right _ hq
            (simp -implicitDefEqProofs only [go_sem, iA, so]; repeat (refine GO ?_; simp -implicitDefEqProofs only [go_sem, iA, so]))
            refine VIF.split (fun h' => ?_) (fun h' => ?_)
            · simp only [decide_eq_true_eq, e1] at h'
              have w3 := wrap_add (show n * (2 * k) + k < 4611686018427387904 by omega)
              (simp -implicitDefEqProofs only [go_sem, w3, w2, e1]; repeat (refine GO ?_; simp -implicitDefEqProofs only [go_sem, w3, w2, e1]))
              refine .obj 0 (so u) _ _ (s71L g c hc B hg u hlu (fun x hx => hB x (hwu.perm.subset hx)) (n * (2 * k)) (n * (2 * k) + k) (n * (2 * k) + 2 * k) (by omega) (by omega) (by omega) (by omega)
                (fun i j k1 k2 k3 => hA i j k1 k2 (by omega)) (fun i j k1 k2 k3 => hB' i j k1 k2 (by omega))) rfl (so_leafy u) rfl rfl fun r o' hr _ _ => ?_
              obtain ⟨rfl, u', rfl, hw', hs'⟩ := hr
              have w4 : IntKind.i64.wrap (((n * (2 * k) + 2 * k : Nat) : Int) + ((2 * k : Nat) : Int)) = ((n * (2 * k) + 2 * k + 2 * k : Nat) : Int) := by
                generalize n * (2 * k) = A at *
                rw [wrap_i64] <;> omega
              (simp -implicitDefEqProofs only [go_sem, w2, w4]; repeat (refine GO ?_; simp -implicitDefEqProofs only [go_sem, w2, w4]))
              refine BACK.mk ⟨(n + 1, u'), by show (n + 1) * (2 * k) ≤ z.length; omega, hwu.trans (hw'.wide (by omega) (by omega)), fun q hq => ?_, fun q hq => ?_⟩ [(0, some 0)] rfl rfl ?_ ?_
              · show SR c u' (q * (2 * k)) ((q + 1) * (2 * k))
                by_cases e : q = n
                · subst e; rw [e1]; exact hs'
                · have hqn : q < n := by have : q < n + 1 := hq; omega
                  have := lowq q hqn
                  intro i j k1 k2 k3
                  rw [hw'.out i (.inl (by omega)), hw'.out j (.inl (by omega))]
                  exact hs1 q hqn i j k1 k2 k3
              · show SR c u' (q * k) (min ((q + 1) * k) z.length)
                have hq' : 2 * (n + 1) ≤ q := hq
                have := higq q (by omega)
                intro i j k1 k2 k3
                rw [hw'.out i (.inr (by omega)), hw'.out j (.inr (by omega))]
                exact hs2 q (by omega) i j k1 k2 k3
              · show z.length - (n + 1) < z.length - n
                have : n * 1 ≤ n * (2 * k) := Nat.mul_le_mul_left _ (by omega)
                omega
              · (simp -implicitDefEqProofs only [go_sem, iA, so]; repeat (refine GO ?_; simp -implicitDefEqProofs only [go_sem, iA, so]))
                refine ⟨⟨by rw [e1], by rw [e5]⟩, .same (so u') _ _ (so_leafy u') rfl⟩
            · simp only [decide_eq_false_iff_not, e1] at h'
              have w3 := wrap_add (show n * (2 * k) + k < 4611686018427387904 by omega)
              have w5 := wrap_dbl' (show k < 2305843009213693952 by omega)
              (simp -implicitDefEqProofs only [go_sem, w3, w5]; repeat (refine GO ?_; simp -implicitDefEqProofs only [go_sem, w3, w5]))
              have fin : ∀ u', Win u u' (n * (2 * k)) z.length → SR c u' (n * (2 * k)) z.length → BK c u' (2 * k) := by
                intro u' hw' hs' q i j k1 k2 k3
                have hl' : u'.length = z.length := hw'.len.trans hlu
                by_cases e : q < n
                · have := lowq q e
                  rw [hw'.out i (.inl (by omega)), hw'.out j (.inl (by omega))]
                  exact hs1 q e i j k1 k2 (by omega)
                · by_cases e' : q = n
                  · subst e'; exact hs' i j k1 k2 (by omega)
                  · have := farq q (by omega)
                    omega
              refine VIF.split (fun h2 => ?_) (fun h2 => ?_)
              · simp only [decide_eq_true_eq] at h2
                (simp -implicitDefEqProofs only [go_sem, w3, w5]; repeat (refine GO ?_; simp -implicitDefEqProofs only [go_sem, w3, w5]))
                refine .obj 0 (so u) _ _ (s71L g c hc B hg u hlu (fun x hx => hB x (hwu.perm.subset hx)) (n * (2 * k)) (n * (2 * k) + k) z.length (by omega) (by omega) (by omega) (by omega)
                  (fun i j k1 k2 k3 => hA i j k1 k2 (by omega)) (fun i j k1 k2 k3 => hB' i j k1 k2 (by omega))) rfl (so_leafy u) rfl rfl fun r o' hr _ _ => ?_
                obtain ⟨rfl, u', rfl, hw', hs'⟩ := hr
                (simp -implicitDefEqProofs only [go_sem, w5]; repeat (refine GO ?_; simp -implicitDefEqProofs only [go_sem, w5]))
                refine BACK.mk ⟨(2 * k, u'), by show 20 ≤ 2 * k; omega, .inl (by show 2 * k < 2 * z.length; omega), hwu.trans (hw'.wide (by omega) (by omega)), fin u' hw' hs'⟩ [(0, some 0)] rfl rfl (by show 2 * z.length - 2 * k < 2 * z.length - k; omega) ?_
                (simp -implicitDefEqProofs only [go_sem, iA, so]; repeat (refine GO ?_; simp -implicitDefEqProofs only [go_sem, iA, so]))
                exact .same (so u') _ _ (so_leafy u') rfl
              · simp only [decide_eq_false_iff_not] at h2
                (simp -implicitDefEqProofs only [go_sem, w5]; repeat (refine GO ?_; simp -implicitDefEqProofs only [go_sem, w5]))
                refine BACK.mk ⟨(2 * k, u), by show 20 ≤ 2 * k; omega, .inl (by show 2 * k < 2 * z.length; omega), hwu, fin u (.refl _ _ _) fun i j k1 k2 k3 => hA i j k1 k2 (by omega)⟩ [(0, some 0)] rfl rfl (by show 2 * z.length - 2 * k < 2 * z.length - k; omega) ?_
                (simp -implicitDefEqProofs only [go_sem, iA, so]; repeat (refine GO ?_; simp -implicitDefEqProofs only [go_sem, iA, so]))
                exact .same (so u) _ _ (so_leafy u) rfl
        · simp at h
          (simp -implicitDefEqProofs only [go_sem]; repeat (refine GO ?_; simp -implicitDefEqProofs only [go_sem]))
          refine FIN_O (o' := so x) rfl ?_ (so_leafy x) ?_
          · rfl
          · refine ⟨so x, ⟨⟨rfl, x, rfl, hwx, ?_⟩, rfl⟩, so_leafy x, rfl⟩
            have := hbx 0
            rw [hlx] at this
            simp at this
            rwa [Nat.min_eq_right h] at this
end Yt
namespace Yt
open Go Go.Vc Go.Proofs
set_option maxRecDepth 10000
set_option linter.unusedSimpArgs false
set_option linter.unusedVariables false
theorem s39 (g : Nat) (c : It → It → Int) (hc : Cmp c) (B : It → Prop) (hg : ∀ x y, B x → B y → Spec0 Try.prog g [.ag x.c, .ag y.c] (· = iA (c x y))) (z : List It) (hB : ∀ x ∈ z, B x) (hl : z.length < 576460752303423488) :
    SpecO Try.prog 120 [.rf 0 0 z.length, .fn g []] (so z) (fun r o' => r = .tu [] ∧ ∃ z', o' = so z' ∧ Win z z' 0 z.length ∧ SR c z' 0 z.length) := by
  refine specO_of_vc tabOk elems ord120 Try.func120 rfl (rl := []) rfl (by kernel_rfl) rfl ?_
  (simp -implicitDefEqProofs only [go_sem, so]; repeat (refine GO ?_; simp -implicitDefEqProofs only [go_sem, so]))
  refine .obj 0 (so z) _ _ (s60 g c hc B hg z hB hl) rfl (so_leafy z) rfl rfl fun r o' hr _ _ => ?_
  obtain ⟨rfl, y, rfl, hw, hs⟩ := hr
  (simp -implicitDefEqProofs only [go_sem]; repeat (refine GO ?_; simp -implicitDefEqProofs only [go_sem]))
  refine FIN_O (o' := so y) rfl ?_ (so_leafy y) ?_
  · rfl
  · exact ⟨so y, ⟨⟨rfl, y, rfl, hw, hs⟩, rfl⟩, so_leafy y, rfl⟩

-- bytes, in the order of a dictionary
theorem bl_irr (x : List UInt8) : Op.bytesLess x x = false := by
  induction x with
  | nil => rfl
  | cons a r ih => simp [Op.bytesLess, ih]
theorem bl_asymm : ∀ (x y : List UInt8), Op.bytesLess x y = true → Op.bytesLess y x = false
  | _, [], h => by simp [Op.bytesLess] at h
  | [], _ :: _, h => rfl
  | a :: x, b :: y, h => by
    simp only [Op.bytesLess, Bool.or_eq_true, decide_eq_true_eq, Bool.and_eq_true, beq_iff_eq] at h
    simp only [Op.bytesLess, Bool.or_eq_false_iff, decide_eq_false_iff_not, Bool.and_eq_false_imp, beq_iff_eq]
    rcases h with h | ⟨h1, h2⟩
    · exact ⟨fun g => by rw [UInt8.lt_iff_toNat_lt] at *; omega, fun e => by subst e; rw [UInt8.lt_iff_toNat_lt] at h; omega⟩
    · subst h1; exact ⟨fun g => by rw [UInt8.lt_iff_toNat_lt] at g; omega, fun _ => bl_asymm x y h2⟩
theorem bl_tri : ∀ (x y : List UInt8), Op.bytesLess x y = false → Op.bytesLess y x = false → x = y
  | [], [], _, _ => rfl
  | [], _ :: _, h, _ => by simp [Op.bytesLess] at h
  | _ :: _, [], _, h => by simp [Op.bytesLess] at h
  | a :: x, b :: y, h, g => by
    simp only [Op.bytesLess, Bool.or_eq_false_iff, decide_eq_false_iff_not, Bool.and_eq_false_imp, beq_iff_eq] at h g
    have hab : a = b := by
      apply UInt8.toNat_inj.1
      have h1 := h.1; have g1 := g.1
      rw [UInt8.lt_iff_toNat_lt] at h1 g1
      omega
    subst hab
    rw [bl_tri x y (h.2 rfl) (g.2 rfl)]
theorem bl_trans : ∀ (x y z : List UInt8), Op.bytesLess x y = true → Op.bytesLess y z = true → Op.bytesLess x z = true
  | _, [], _, h, _ => by simp [Op.bytesLess] at h
  | _, _ :: _, [], _, g => by simp [Op.bytesLess] at g
  | [], _ :: _, _ :: _, _, _ => rfl
  | a :: x, b :: y, c :: z, h, g => by
    simp only [Op.bytesLess, Bool.or_eq_true, decide_eq_true_eq, Bool.and_eq_true, beq_iff_eq] at h g ⊢
    rcases h with h | ⟨h1, h2⟩
    · rcases g with g | ⟨g1, g2⟩
      · left; rw [UInt8.lt_iff_toNat_lt] at *; omega
      · subst g1; left; exact h
    · subst h1
      rcases g with g | ⟨g1, g2⟩
      · left; exact g
      · right; exact ⟨g1, bl_trans x y z h2 g2⟩

/-- A comparison by sign: each two things are one or in order. -/
structure Lin {α : Type} (f : α → α → Int) : Prop where
  neg : ∀ x y, f y x = - f x y
  eq : ∀ x y, f x y = 0 → x = y
  trans : ∀ x y z, f x y < 0 → f y z < 0 → f x z < 0
theorem Lin.self {α : Type} {f : α → α → Int} (h : Lin f) (x : α) : f x x = 0 := by have := h.neg x x; omega
theorem lin_cmpI : Lin cmpI := by
  refine ⟨fun x y => ?_, fun x y h => ?_, fun x y z h g => ?_⟩
  · simp only [cmpI]; split <;> split <;> (try split) <;> omega
  · simp only [cmpI] at h; split at h
    · omega
    · split at h <;> omega
  · simp only [cmpI] at h g ⊢
    split at h
    · split at g
      · rw [if_pos (by omega)]; omega
      · split at g <;> omega
    · split at h <;> omega
theorem cmpS_lt {x y : ByteArray} : cmpS x y < 0 ↔ Op.bytesLess x.toList y.toList = true := by
  simp only [cmpS]
  split
  · simp [*]
  · rename_i h; split <;> simp [h]
theorem cmpS_zero {x y : ByteArray} : cmpS x y = 0 ↔ x = y := by
  simp only [cmpS]
  split
  · rename_i h
    constructor
    · intro e; omega
    · intro e; subst e; rw [bl_irr] at h; cases h
  · rename_i h
    split
    · rename_i g
      constructor
      · intro e; omega
      · intro e; subst e; simp at g
    · rename_i g
      simp only [Bool.not_eq_true, Bool.not_eq_false', Bool.or_eq_true, decide_eq_true_eq] at g h
      simp only [h, Bool.false_eq_true, false_or] at g
      simp [g]
theorem lin_cmpS : Lin cmpS := by
  refine ⟨fun x y => ?_, fun x y h => cmpS_zero.1 h, fun x y z h g => ?_⟩
  · have v : ∀ a b : ByteArray, cmpS a b = -1 ∨ cmpS a b = 0 ∨ cmpS a b = 1 := by
      intro a b; simp only [cmpS]; split
      · simp
      · split <;> simp
    have k1 : cmpS x y < 0 → ¬ cmpS y x < 0 := fun h => by
      rw [cmpS_lt] at h ⊢
      rw [bl_asymm _ _ h]; simp
    have k2 : ¬ cmpS x y < 0 → ¬ cmpS y x < 0 → cmpS x y = 0 ∧ cmpS y x = 0 := fun h g => by
      rw [cmpS_lt] at h g
      have : x = y := toList_inj (bl_tri _ _ (by simpa using h) (by simpa using g))
      exact ⟨cmpS_zero.2 this, cmpS_zero.2 this.symm⟩
    have k3 : cmpS x y = 0 → cmpS y x = 0 := fun h => cmpS_zero.2 (cmpS_zero.1 h).symm
    have k4 : cmpS y x = 0 → cmpS x y = 0 := fun h => cmpS_zero.2 (cmpS_zero.1 h).symm
    rcases v x y with a | a | a <;> rcases v y x with b | b | b <;> first | omega | (have := k1 (by omega); omega) | (have := k2 (by omega) (by omega); omega) | (have := k3 (by omega); omega) | (have := k4 (by omega); omega)
  · rw [cmpS_lt] at *; exact bl_trans _ _ _ h g
theorem lin_cmpV : Lin cmpV := by
  refine ⟨fun x y => ?_, fun x y h => ?_, fun x y z h g => ?_⟩
  · simp only [cmpV, nz, lin_cmpI.neg x.k y.k, lin_cmpI.neg x.i y.i, lin_cmpS.neg x.s y.s]
    repeat' split
    all_goals omega
  · simp only [cmpV, nz] at h
    split at h
    · rename_i h1
      split at h
      · rename_i h2
        split at h
        · rename_i h3
          obtain ⟨a, b, c⟩ := x; obtain ⟨a', b', c'⟩ := y
          simp only [V.mk.injEq]
          exact ⟨lin_cmpI.eq _ _ h1, lin_cmpI.eq _ _ h2, lin_cmpS.eq _ _ h3⟩
        · exact absurd h (by assumption)
      · exact absurd h (by assumption)
    · exact absurd h (by assumption)
  · have t1 := lin_cmpI.trans x.k y.k z.k
    have t2 := lin_cmpI.trans x.i y.i z.i
    have t3 := lin_cmpS.trans x.s y.s z.s
    have e1 : cmpI x.k y.k = 0 → cmpI x.k z.k = cmpI y.k z.k := fun h => by rw [lin_cmpI.eq _ _ h]
    have e2 : cmpI y.k z.k = 0 → cmpI x.k z.k = cmpI x.k y.k := fun h => by rw [lin_cmpI.eq _ _ h]
    have e3 : cmpI x.i y.i = 0 → cmpI x.i z.i = cmpI y.i z.i := fun h => by rw [lin_cmpI.eq _ _ h]
    have e4 : cmpI y.i z.i = 0 → cmpI x.i z.i = cmpI x.i y.i := fun h => by rw [lin_cmpI.eq _ _ h]
    have e5 : cmpS x.s y.s = 0 → cmpS x.s z.s = cmpS y.s z.s := fun h => by rw [lin_cmpS.eq _ _ h]
    have e6 : cmpS y.s z.s = 0 → cmpS x.s z.s = cmpS x.s y.s := fun h => by rw [lin_cmpS.eq _ _ h]
    simp only [cmpV, nz] at h g ⊢
    repeat' split at h
    all_goals repeat' split at g
    all_goals repeat' split
    all_goals omega
theorem lin_cmpR : Lin cmpR := by
  have hneg : ∀ x y, cmpR y x = - cmpR x y := by
    intro x
    induction x with
    | nil => intro y; cases y <;> simp [cmpR]
    | cons a r ih =>
      intro y
      cases y with
      | nil => simp [cmpR]
      | cons b r' =>
        simp only [cmpR, lin_cmpV.neg a b, ih r']
        repeat' split
        all_goals omega
  refine ⟨hneg, fun x => ?_, fun x => ?_⟩
  · induction x with
    | nil => intro y h; cases y with
      | nil => rfl
      | cons b r => simp [cmpR] at h
    | cons a r ih =>
      intro y h
      cases y with
      | nil => simp [cmpR] at h
      | cons b r' =>
        simp only [cmpR] at h
        split at h
        · rename_i h1; rw [lin_cmpV.eq _ _ h1, ih _ h]
        · exact absurd h (by assumption)
  · induction x with
    | nil => intro y z h g; cases y with
      | nil => exact g
      | cons b r => cases z with
        | nil => simp [cmpR] at g
        | cons c r' => simp [cmpR]
    | cons a r ih =>
      intro y z h g
      cases y with
      | nil => simp [cmpR] at h
      | cons b r' => cases z with
        | nil => simp [cmpR] at g
        | cons c r'' =>
          have e1 : cmpV a b = 0 → cmpV a c = cmpV b c := fun h => by rw [lin_cmpV.eq _ _ h]
          have e2 : cmpV b c = 0 → cmpV a c = cmpV a b := fun h => by rw [lin_cmpV.eq _ _ h]
          have t := lin_cmpV.trans a b c
          simp only [cmpR] at h g ⊢
          split at h
          · rename_i h1
            split at g
            · rename_i g1
              rw [if_pos (by rw [e1 h1]; exact g1)]; exact ih _ _ h g
            · rename_i g1
              rw [if_neg (by rw [e1 h1]; exact g1), e1 h1]; exact g
          · rename_i h1
            split at g
            · rename_i g1
              rw [if_neg (by rw [e2 g1]; exact h1), e2 g1]; exact h
            · have := t h g
              rw [if_neg (by omega)]; exact this
/-- Items, by their rows. -/
def cI (a b : It) : Int := cmpR a.row b.row
theorem cmp_cI : Cmp cI := by
  refine ⟨fun x y h => ?_, fun x y z h g => ?_⟩
  · have := lin_cmpR.neg y.row x.row
    simp only [cI] at *; omega
  · simp only [cI] at *
    have t := lin_cmpR.trans x.row y.row z.row
    by_cases e1 : cmpR x.row y.row = 0
    · rw [lin_cmpR.eq _ _ e1]; exact g
    · by_cases e2 : cmpR y.row z.row = 0
      · rw [← lin_cmpR.eq _ _ e2]; exact h
      · have := t (by omega) (by omega); omega
end Yt
namespace Yt
open Go Go.Vc Go.Proofs
set_option maxRecDepth 10000
set_option linter.unusedSimpArgs false
set_option linter.unusedVariables false
theorem s47 (g : Nat) (caps : List AV) (hc : noIds caps = true) (p : It → Bool) (B : It → Prop) (hg : ∀ t : It, B t → Spec0 Try.prog g (.ag t.c :: caps) (· = bA (p t))) (a : List It) (hB : ∀ t ∈ a, B t) (ha : a.length < 4611686018427387904) :
    Spec0 Try.prog 91 [setA a, .fn g caps] (· = idxA p a) := by
  refine spec0_of_vc tabOk elems ord91 Try.func91 rfl (rl := [.tmp 4]) rfl (by kernel_rfl) rfl ?_
  (simp -implicitDefEqProofs only [go_sem, setA]; repeat (refine GO ?_; simp -implicitDefEqProofs only [go_sem, setA]))
  refine LOOP.mk (ι := { i : Nat // i ≤ a.length ∧ ∀ j (hj : j < a.length), j < i → p a[j] = false }) (fun i => mkS [(0, setA a), (1, .fn g caps), (7, .pr (.int .i64 a.length)), (8, .pr (.int .i64 i.1))] [] []) (fun i => a.length - i.1)
    ⟨0, by simp⟩ [] rfl rfl ?_ (fun i => ?_)
  · (simp -implicitDefEqProofs only [go_sem, setA]; repeat (refine GO ?_; simp -implicitDefEqProofs only [go_sem, setA]))
    simp [wks_noId caps hc]
  · obtain ⟨i, hi, hz⟩ := i
    (simp -implicitDefEqProofs only [go_sem, setA]; repeat (refine GO ?_; simp -implicitDefEqProofs only [go_sem, setA]))
    refine ⟨fun h => ?_, fun h => ?_⟩
    · simp only [decide_eq_true_eq] at h
      have hi' : i < a.length := by omega
      (simp -implicitDefEqProofs only [go_sem]; repeat (refine GO ?_; simp -implicitDefEqProofs only [go_sem]))
      refine EL.map hi' ?_
      (simp -implicitDefEqProofs only [go_sem, It.c]; repeat (refine GO ?_; simp -implicitDefEqProofs only [go_sem, It.c]))
      refine .pure _ (hg a[i] (hB _ (List.getElem_mem _))) ?_ fun r hr _ => ?_
      · simp [noIds, AV.noId, It.c, hc, rowA, iA]
      subst hr
      (simp -implicitDefEqProofs only [go_sem, bA]; repeat (refine GO ?_; simp -implicitDefEqProofs only [go_sem, bA]))
      refine VIF.split (fun e => ?_) (fun e => ?_)
      · (simp -implicitDefEqProofs only [go_sem]; repeat (refine GO ?_; simp -implicitDefEqProofs only [go_sem]))
        simp [idxA, idxI, iA, idx_some hi' hz e]
      · (simp -implicitDefEqProofs only [go_sem]; repeat (refine GO ?_; simp -implicitDefEqProofs only [go_sem]))
        refine BACK.mk ⟨i + 1, hi', fun j hj hji => ?_⟩ [] rfl rfl (by show a.length - (i + 1) < a.length - i; omega) ?_
        · by_cases hji' : j = i
          · subst hji'; exact e
          · exact hz j hj (by omega)
        · (simp -implicitDefEqProofs only [go_sem, setA]; repeat (refine GO ?_; simp -implicitDefEqProofs only [go_sem, setA]))
          simp [wrap_succ hi' ha, wks_noId caps hc]
    · simp at h
      (simp -implicitDefEqProofs only [go_sem]; repeat (refine GO ?_; simp -implicitDefEqProofs only [go_sem]))
      simp [idxA, idxI, iA, idx_none fun j hj => hz j hj (by omega)]
theorem s34 (a : List It) (hB : ∀ t ∈ a, t.row.length < 4611686018427387904) (ha : a.length < 4611686018427387904) : Spec0 Try.prog 118 [setA a, .fn 119 []] (· = bA (a.any fun t => !okI t)) := by
  refine spec0_of_vc tabOk elems ord118 Try.func118 rfl (rl := [.tmp 4]) rfl (by kernel_rfl) rfl ?_
  (simp -implicitDefEqProofs only [go_sem, setA]; repeat (refine GO ?_; simp -implicitDefEqProofs only [go_sem, setA]))
  refine .pure _ (s47 119 [] rfl (fun t => !okI t) _ (fun t ht => s35 t ht) a hB ha) rfl fun r hr _ => ?_
  subst hr
  (simp -implicitDefEqProofs only [go_sem, idxA, iA]; repeat (refine GO ?_; simp -implicitDefEqProofs only [go_sem, idxA, iA]))
  rw [idx_any]; rfl
end Yt
namespace Yt
open Go Go.Vc Go.Proofs
set_option maxRecDepth 10000
set_option linter.unusedSimpArgs false
set_option linter.unusedVariables false
theorem s38 (z : List It) (hl : z.length ≤ 1073741824) : Spec1 Try.prog 85 [setA z] (fun r o => r = .rf 0 0 z.length ∧ o = so z) := by
  refine spec1_of_vc tabOk elems ord85 Try.func85 rfl (rl := [.tmp 2]) rfl (by kernel_rfl) rfl ?_
  (simp -implicitDefEqProofs only [go_sem, setA]; repeat (refine GO ?_; simp -implicitDefEqProofs only [go_sem, setA]))
  refine ⟨⟨_, rfl⟩, fun b hb => ?_⟩
  refine VIF.split (fun h => ?_) (fun h => ?_)
  · have hz : z = [] := by simpa using hb (by simpa using h)
    subst hz
    (simp -implicitDefEqProofs only [go_sem]; repeat (refine GO ?_; simp -implicitDefEqProofs only [go_sem]))
    refine FINmk [(0, none)] [(2, .rf 0 0 0)] [(0, so [])] [0] rfl ?_ ?_
    · (simp -implicitDefEqProofs only [go_sem]; repeat (refine GO ?_; simp -implicitDefEqProofs only [go_sem]))
      simp [so]
    · exact ⟨so [], ⟨⟨rfl, rfl⟩, rfl⟩, so_leafy [], rfl⟩
  · (simp -implicitDefEqProofs only [go_sem]; repeat (refine GO ?_; simp -implicitDefEqProofs only [go_sem]))
    refine ⟨by omega, ?_⟩
    refine FINmk [(0, some 7)] [(2, .rf 0 0 z.length)] [(0, so z)] [0] rfl ?_ ?_
    · (simp -implicitDefEqProofs only [go_sem, so]; repeat (refine GO ?_; simp -implicitDefEqProofs only [go_sem, so]))
      exact .same (so z) _ _ (so_leafy z) rfl
    · exact ⟨so z, ⟨⟨rfl, rfl⟩, rfl⟩, so_leafy z, rfl⟩
/-- A row, as an object. -/
def ro3 (a : List V) : Ob := ⟨3, a.map V.c⟩
theorem ro3_leafy (a : List V) : (ro3 a).leafy := by
  rw [ro3, leafy_do]
  exact leafs2_map fun x _ => by simp [V.c, leafs, AV.leaf]
theorem s43 (a : List V) (hl : a.length ≤ 1073741824) : Spec1 Try.prog 110 [rowA a] (fun r o => r = .rf 0 0 a.length ∧ o = ro3 a) := by
  refine spec1_of_vc tabOk elems ord110 Try.func110 rfl (rl := [.tmp 2]) rfl (by kernel_rfl) rfl ?_
  (simp -implicitDefEqProofs only [go_sem, rowA]; repeat (refine GO ?_; simp -implicitDefEqProofs only [go_sem, rowA]))
  refine ⟨⟨_, rfl⟩, fun b hb => ?_⟩
  refine VIF.split (fun h => ?_) (fun h => ?_)
  · have hz : a = [] := by simpa using hb (by simpa using h)
    subst hz
    (simp -implicitDefEqProofs only [go_sem]; repeat (refine GO ?_; simp -implicitDefEqProofs only [go_sem]))
    refine FINmk [(0, none)] [(2, .rf 0 0 0)] [(0, ro3 [])] [0] rfl ?_ ?_
    · (simp -implicitDefEqProofs only [go_sem]; repeat (refine GO ?_; simp -implicitDefEqProofs only [go_sem]))
      simp [ro3]
    · exact ⟨ro3 [], ⟨⟨rfl, rfl⟩, rfl⟩, ro3_leafy [], rfl⟩
  · (simp -implicitDefEqProofs only [go_sem]; repeat (refine GO ?_; simp -implicitDefEqProofs only [go_sem]))
    refine ⟨by omega, ?_⟩
    refine FINmk [(0, some 7)] [(2, .rf 0 0 a.length)] [(0, ro3 a)] [0] rfl ?_ ?_
    · (simp -implicitDefEqProofs only [go_sem, ro3]; repeat (refine GO ?_; simp -implicitDefEqProofs only [go_sem, ro3]))
      exact .same (ro3 a) _ _ (ro3_leafy a) rfl
    · exact ⟨ro3 a, ⟨⟨rfl, rfl⟩, rfl⟩, ro3_leafy a, rfl⟩
theorem and_mask (x : Int) : bitsOp .and .i64 x 268435455 = x % 268435456 := by
  simp only [bitsOp]
  have h1 : (BitVec.ofInt IntKind.i64.bits x &&& BitVec.ofInt IntKind.i64.bits 268435455).toNat = (x % 268435456).toNat := by
    rw [BitVec.toNat_and]
    have e1 : (BitVec.ofInt IntKind.i64.bits 268435455).toNat = 2 ^ 28 - 1 := by decide
    rw [e1, Nat.and_two_pow_sub_one_eq_mod]
    simp only [BitVec.toNat_ofInt, IntKind.bits]
    omega
  rw [h1, wrap_i64] <;> omega
theorem shr28 (x : Int) : x / 2 ^ min (Int.toNat 28) 64 = x / 268435456 := by
  have h2 : (2 : Int) ^ min (Int.toNat 28) 64 = 268435456 := by decide
  rw [h2]
theorem s41 (h l w : Int) (hh : -36028797018963968 ≤ h ∧ h ≤ 36028797018963968) (hl : 0 ≤ l ∧ l ≤ 36028797018963968) (hw : -144115188075855872 ≤ w ∧ w ≤ 144115188075855872) :
    SpecO Try.prog 122 [.pt 0 0 0, iA w] ⟨2, [[iA h, iA l]]⟩ (fun r o => r = .tu [] ∧ o = ⟨2, [[iA (h + w / 268435456), iA (l + w % 268435456)]]⟩) := by
  refine specO_of_vc tabOk elems ord122 Try.func122 rfl (rl := []) rfl (by kernel_rfl) rfl ?_
  have w1 : IntKind.i64.wrap (h + w / 268435456) = h + w / 268435456 := by rw [wrap_i64] <;> omega
  have w2 : IntKind.i64.wrap (l + w % 268435456) = l + w % 268435456 := by rw [wrap_i64] <;> omega
  (simp -implicitDefEqProofs only [go_sem, iA, shr28, and_mask, w1, w2]; repeat (refine GO ?_; simp -implicitDefEqProofs only [go_sem, iA, shr28, and_mask, w1, w2]))
  refine ⟨by decide, ?_⟩
  refine FIN_O (o' := ⟨2, [[iA (h + w / 268435456), iA (l + w % 268435456)]]⟩) rfl ?_ ?_ ?_
  · rfl
  · rw [leafy_do]; simp [leafs2, leafs, iA, AV.leaf]
  · exact ⟨_, ⟨⟨rfl, rfl⟩, rfl⟩, by rw [leafy_do]; simp [leafs2, leafs, iA, AV.leaf], rfl⟩
theorem shl28 (x : Int) : x * 2 ^ min (Int.toNat 28) 64 = x * 268435456 := by
  have h2 : (2 : Int) ^ min (Int.toNat 28) 64 = 268435456 := by decide
  rw [h2]
theorem s42 (h l : Int) (hh : -36028797018963968 ≤ h ∧ h ≤ 36028797018963968) (hl : 0 ≤ l ∧ l ≤ 36028797018963968) :
    Spec0 Try.prog 123 [.ag [iA h, iA l]] (fun r => ∃ v, r = .tu [iA v, bA (okW (h * 268435456 + l))] ∧ (okW (h * 268435456 + l) = true → v = h * 268435456 + l)) := by
  refine spec0_of_vc tabOk elems ord123 Try.func123 rfl (rl := [.tmp 2, .tmp 3]) rfl (by kernel_rfl) rfl ?_
  have w1 : IntKind.i64.wrap (h + l / 268435456) = h + l / 268435456 := by rw [wrap_i64] <;> omega
  (simp -implicitDefEqProofs only [go_sem, iA, shr28, w1]; repeat (refine GO ?_; simp -implicitDefEqProofs only [go_sem, iA, shr28, w1]))
  refine ⟨by decide, ?_⟩
  have bad : ∀ b, b = okW (h * 268435456 + l) → b = false → ∃ v, (AV.tu [.pr (.int .i64 0), .pr (.bool false)]) = .tu [iA v, bA (okW (h * 268435456 + l))] ∧ (okW (h * 268435456 + l) = true → v = h * 268435456 + l) := by
    intro b h1 h2
    subst h1
    exact ⟨0, by rw [h2]; rfl, fun h => by rw [h2] at h; cases h⟩
  refine VIF.split (fun e => ?_) (fun e => ?_)
  · simp at e
    (simp -implicitDefEqProofs only [go_sem]; repeat (refine GO ?_; simp -implicitDefEqProofs only [go_sem]))
    exact ⟨rfl, bad _ rfl (by simp [okW, inB]; omega)⟩
  · simp at e
    (simp -implicitDefEqProofs only [go_sem]; repeat (refine GO ?_; simp -implicitDefEqProofs only [go_sem]))
    refine VIF.split (fun e2 => ?_) (fun e2 => ?_)
    · simp at e2
      (simp -implicitDefEqProofs only [go_sem]; repeat (refine GO ?_; simp -implicitDefEqProofs only [go_sem]))
      exact ⟨rfl, bad _ rfl (by simp [okW, inB]; omega)⟩
    · simp at e2
      have w2 : IntKind.i64.wrap ((h + l / 268435456) * 268435456) = (h + l / 268435456) * 268435456 := by rw [wrap_i64] <;> omega
      have w3 : IntKind.i64.wrap ((h + l / 268435456) * 268435456 + l % 268435456) = h * 268435456 + l := by rw [wrap_i64] <;> omega
      (simp -implicitDefEqProofs only [go_sem, shl28, and_mask, w1, w2, w3]; repeat (refine GO ?_; simp -implicitDefEqProofs only [go_sem, shl28, and_mask, w1, w2, w3]))
      refine ⟨by decide, GO ?_⟩
      (simp -implicitDefEqProofs only [go_sem]; repeat (refine GO ?_; simp -implicitDefEqProofs only [go_sem]))
      refine .pure _ (s37 (h * 268435456 + l)) rfl fun r hr _ => ?_
      subst hr
      (simp -implicitDefEqProofs only [go_sem, bA]; repeat (refine GO ?_; simp -implicitDefEqProofs only [go_sem, bA]))
      exact ⟨rfl, h * 268435456 + l, rfl, fun _ => rfl⟩
end Yt
namespace Yt
open Go Go.Vc Go.Proofs
set_option maxRecDepth 10000
set_option linter.unusedSimpArgs false
set_option linter.unusedVariables false
theorem any_take {α : Type} {p : α → Bool} {l : List α} {i : Nat} (h : ∀ j (hj : j < l.length), j < i → p l[j] = false) (hi : l.length ≤ i) : l.any p = false := by
  rw [List.any_eq_false]
  intro x hx
  obtain ⟨j, hj, rfl⟩ := List.mem_iff_getElem.1 hx
  simp [h j hj (by omega)]
theorem any_at {α : Type} {p : α → Bool} {l : List α} {i : Nat} (hi : i < l.length) (h : p l[i] = true) : l.any p = true := List.any_eq_true.2 ⟨_, List.getElem_mem hi, h⟩
theorem snoc_no {α : Type} {p : α → Bool} {l : List α} {i : Nat} (h : ∀ j (hj : j < l.length), j < i → p l[j] = false) (hi : i < l.length) (hp : p l[i] = false) : ∀ j (hj : j < l.length), j < i + 1 → p l[j] = false := by
  intro j hj hji
  by_cases e : j = i
  · subst e; exact hp
  · exact h j hj (by omega)
def longV (v : V) : Bool := decide (300 < (v.s.size : Int))
theorem s50 (a : List V) (ha : a.length < 4611686018427387904) : Spec0 Try.prog 50 [rowA a] (· = bA (a.any longV)) := by
  refine spec0_of_vc tabOk elems ord50 Try.func50 rfl (rl := [.tmp 2]) rfl (by kernel_rfl) rfl ?_
  (simp -implicitDefEqProofs only [go_sem, rowA]; repeat (refine GO ?_; simp -implicitDefEqProofs only [go_sem, rowA]))
  refine LOOP.mk (ι := { i : Nat // i ≤ a.length ∧ ∀ j (hj : j < a.length), j < i → longV a[j] = false }) (fun i => mkS [(0, rowA a), (3, iA i.1)] [] []) (fun i => a.length - i.1)
    ⟨0, by simp⟩ [] rfl rfl ?_ (fun i => ?_)
  · (simp -implicitDefEqProofs only [go_sem, rowA, iA]; repeat (refine GO ?_; simp -implicitDefEqProofs only [go_sem, rowA, iA]))
    simp
  · obtain ⟨i, hi, hz⟩ := i
    (simp -implicitDefEqProofs only [go_sem, rowA, iA]; repeat (refine GO ?_; simp -implicitDefEqProofs only [go_sem, rowA, iA]))
    refine VIF.split (fun h => ?_) (fun h => ?_)
    · simp only [decide_eq_true_eq] at h
      have hi' : i < a.length := by omega
      (simp -implicitDefEqProofs only [go_sem]; repeat (refine GO ?_; simp -implicitDefEqProofs only [go_sem]))
      refine EL.map hi' ?_
      (simp -implicitDefEqProofs only [go_sem, V.c]; repeat (refine GO ?_; simp -implicitDefEqProofs only [go_sem, V.c]))
      refine VIF.split (fun e => ?_) (fun e => ?_)
      · (simp -implicitDefEqProofs only [go_sem]; repeat (refine GO ?_; simp -implicitDefEqProofs only [go_sem]))
        rw [any_at hi' e]; rfl
      · (simp -implicitDefEqProofs only [go_sem]; repeat (refine GO ?_; simp -implicitDefEqProofs only [go_sem]))
        refine BACK.mk ⟨i + 1, hi', snoc_no hz hi' e⟩ [] rfl rfl (by show a.length - (i + 1) < a.length - i; omega) ?_
        (simp -implicitDefEqProofs only [go_sem, rowA, iA]; repeat (refine GO ?_; simp -implicitDefEqProofs only [go_sem, rowA, iA]))
        simp [wrap_succ hi' ha]
    · simp at h
      (simp -implicitDefEqProofs only [go_sem]; repeat (refine GO ?_; simp -implicitDefEqProofs only [go_sem]))
      rw [any_take hz h]; rfl
def heavyR (r : List V) : Bool := decide (40 < (r.length : Int)) || r.any longV
theorem s19 (a : List V) (ha : a.length < 4611686018427387904) : Spec0 Try.prog 81 [rowA a] (· = bA (heavyR a)) := by
  refine spec0_of_vc tabOk elems ord81 Try.func81 rfl (rl := [.tmp 2]) rfl (by kernel_rfl) rfl ?_
  (simp -implicitDefEqProofs only [go_sem, rowA]; repeat (refine GO ?_; simp -implicitDefEqProofs only [go_sem, rowA]))
  refine VIF.split (fun h => ?_) (fun h => ?_)
  · (simp -implicitDefEqProofs only [go_sem]; repeat (refine GO ?_; simp -implicitDefEqProofs only [go_sem]))
    simp only [heavyR, h]; rfl
  · (simp -implicitDefEqProofs only [go_sem]; repeat (refine GO ?_; simp -implicitDefEqProofs only [go_sem]))
    refine .pure _ (s50 a ha) rfl fun r hr _ => ?_
    subst hr
    (simp -implicitDefEqProofs only [go_sem, bA]; repeat (refine GO ?_; simp -implicitDefEqProofs only [go_sem, bA]))
    simp only [heavyR, h]; rfl
def heavyI (t : It) : Bool := heavyR t.row
def heavyS (z : List It) : Bool := decide (300 < (z.length : Int)) || z.any heavyI
def setsA (zs : List (List It)) : AV := .im 1 (zs.map fun z => [setA z])
theorem s10 (zs : List (List It)) (hl : zs.length < 4611686018427387904) (hz : ∀ z ∈ zs, z.length < 4611686018427387904) (hr : ∀ z ∈ zs, ∀ t ∈ z, t.row.length < 4611686018427387904) :
    Spec0 Try.prog 30 [setsA zs] (· = bA (zs.any heavyS)) := by
  refine spec0_of_vc tabOk elems ord30 Try.func30 rfl (rl := [.tmp 2]) rfl (by kernel_rfl) rfl ?_
  (simp -implicitDefEqProofs only [go_sem, setsA]; repeat (refine GO ?_; simp -implicitDefEqProofs only [go_sem, setsA]))
  refine LOOP.mk (ι := { i : Nat // i ≤ zs.length ∧ ∀ j (hj : j < zs.length), j < i → heavyS zs[j] = false }) (fun i => mkS [(0, setsA zs), (3, iA i.1)] [] []) (fun i => zs.length - i.1)
    ⟨0, by simp⟩ [] rfl rfl ?_ (fun i => ?_)
  · (simp -implicitDefEqProofs only [go_sem, setsA, iA]; repeat (refine GO ?_; simp -implicitDefEqProofs only [go_sem, setsA, iA]))
    simp
  · obtain ⟨i, hi, hd⟩ := i
    (simp -implicitDefEqProofs only [go_sem, setsA, iA]; repeat (refine GO ?_; simp -implicitDefEqProofs only [go_sem, setsA, iA]))
    refine VIF.split (fun h => ?_) (fun h => ?_)
    · simp only [decide_eq_true_eq] at h
      have hi' : i < zs.length := by omega
      have hzi := hz _ (List.getElem_mem hi')
      have hri := hr _ (List.getElem_mem hi')
      (simp -implicitDefEqProofs only [go_sem]; repeat (refine GO ?_; simp -implicitDefEqProofs only [go_sem]))
      refine EL.map hi' ?_
      (simp -implicitDefEqProofs only [go_sem, setA]; repeat (refine GO ?_; simp -implicitDefEqProofs only [go_sem, setA]))
      refine VIF.split (fun e => ?_) (fun e => ?_)
      · (simp -implicitDefEqProofs only [go_sem]; repeat (refine GO ?_; simp -implicitDefEqProofs only [go_sem]))
        rw [any_at hi' (by simp only [heavyS, e]; rfl)]; rfl
      · (simp -implicitDefEqProofs only [go_sem]; repeat (refine GO ?_; simp -implicitDefEqProofs only [go_sem]))
        refine LOOP.mk (ι := { j : Nat // j ≤ zs[i].length ∧ ∀ k (hk : k < zs[i].length), k < j → heavyI zs[i][k] = false }) (fun j => mkS [(0, setsA zs), (3, iA i), (4, iA j.1)] [] []) (fun j => zs[i].length - j.1)
          ⟨0, by simp⟩ [] rfl rfl ?_ (fun j => ?_)
        · (simp -implicitDefEqProofs only [go_sem, setsA, iA]; repeat (refine GO ?_; simp -implicitDefEqProofs only [go_sem, setsA, iA]))
          simp [setA]
        · obtain ⟨j, hj, hk⟩ := j
          (simp -implicitDefEqProofs only [go_sem, setsA, iA]; repeat (refine GO ?_; simp -implicitDefEqProofs only [go_sem, setsA, iA]))
          refine EL.map hi' ?_
          (simp -implicitDefEqProofs only [go_sem, setA]; repeat (refine GO ?_; simp -implicitDefEqProofs only [go_sem, setA]))
          refine VIF.split (fun h' => ?_) (fun h' => ?_)
          · simp only [decide_eq_true_eq] at h'
            have hj' : j < zs[i].length := by omega
            (simp -implicitDefEqProofs only [go_sem]; repeat (refine GO ?_; simp -implicitDefEqProofs only [go_sem]))
            refine EL.map hi' ?_
            (simp -implicitDefEqProofs only [go_sem, setA]; repeat (refine GO ?_; simp -implicitDefEqProofs only [go_sem, setA]))
            refine EL.map hj' ?_
            (simp -implicitDefEqProofs only [go_sem, It.c]; repeat (refine GO ?_; simp -implicitDefEqProofs only [go_sem, It.c]))
            refine .pure _ (s19 zs[i][j].row (hri _ (List.getElem_mem hj'))) rfl fun r hr _ => ?_
            subst hr
            (simp -implicitDefEqProofs only [go_sem, bA]; repeat (refine GO ?_; simp -implicitDefEqProofs only [go_sem, bA]))
            refine VIF.split (fun q => ?_) (fun q => ?_)
            · (simp -implicitDefEqProofs only [go_sem]; repeat (refine GO ?_; simp -implicitDefEqProofs only [go_sem]))
              rw [any_at hi' (by simp only [heavyS, any_at hj' (p := heavyI) q]; simp)]; rfl
            · (simp -implicitDefEqProofs only [go_sem]; repeat (refine GO ?_; simp -implicitDefEqProofs only [go_sem]))
              refine BACK.mk ⟨j + 1, hj', snoc_no hk hj' q⟩ [] rfl rfl (by show zs[i].length - (j + 1) < zs[i].length - j; omega) ?_
              (simp -implicitDefEqProofs only [go_sem, setsA, iA]; repeat (refine GO ?_; simp -implicitDefEqProofs only [go_sem, setsA, iA]))
              simp [wrap_succ hj' hzi, setA]
          · simp at h'
            (simp -implicitDefEqProofs only [go_sem]; repeat (refine GO ?_; simp -implicitDefEqProofs only [go_sem]))
            refine BACK.mk ⟨i + 1, hi', snoc_no hd hi' (by simp only [heavyS, e, any_take hk h']; rfl)⟩ [] rfl rfl (by show zs.length - (i + 1) < zs.length - i; omega) ?_
            (simp -implicitDefEqProofs only [go_sem, setsA, iA]; repeat (refine GO ?_; simp -implicitDefEqProofs only [go_sem, setsA, iA]))
            simp [wrap_succ hi' hl, setA]
    · simp at h
      (simp -implicitDefEqProofs only [go_sem]; repeat (refine GO ?_; simp -implicitDefEqProofs only [go_sem]))
      rw [any_take hd h]; rfl
end Yt
namespace Yt
open Go Go.Vc Go.Proofs
set_option maxRecDepth 10000
set_option linter.unusedSimpArgs false
set_option linter.unusedVariables false
theorem eqV_iff {a b : V} : eqV a b = true ↔ a = b := by
  obtain ⟨k, i, s⟩ := a; obtain ⟨k', i', s'⟩ := b
  simp [eqV, V.mk.injEq, and_assoc]
theorem s14 (a b : List V) (ha : a.length < 4611686018427387904) : Spec0 Try.prog 41 [rowA a, rowA b] (fun r => ∃ e : Bool, r = bA e ∧ (e = true ↔ a = b)) := by
  refine spec0_of_vc tabOk elems ord41 Try.func41 rfl (rl := [.tmp 4]) rfl (by kernel_rfl) rfl ?_
  (simp -implicitDefEqProofs only [go_sem, rowA]; repeat (refine GO ?_; simp -implicitDefEqProofs only [go_sem, rowA]))
  refine VIF.split (fun h => ?_) (fun h => ?_)
  · (simp -implicitDefEqProofs only [go_sem]; repeat (refine GO ?_; simp -implicitDefEqProofs only [go_sem]))
    simp at h
    exact ⟨false, rfl, by simp; intro e; subst e; exact h rfl⟩
  · simp at h
    (simp -implicitDefEqProofs only [go_sem]; repeat (refine GO ?_; simp -implicitDefEqProofs only [go_sem]))
    refine LOOP.mk (ι := { i : Nat // i ≤ a.length ∧ ∀ j (h1 : j < a.length) (h2 : j < b.length), j < i → a[j] = b[j] }) (fun i => mkS [(0, rowA a), (1, rowA b), (5, iA i.1)] [] []) (fun i => a.length - i.1)
      ⟨0, by simp⟩ [] rfl rfl ?_ (fun i => ?_)
    · (simp -implicitDefEqProofs only [go_sem, rowA, iA]; repeat (refine GO ?_; simp -implicitDefEqProofs only [go_sem, rowA, iA]))
      simp
    · obtain ⟨i, hi, hz⟩ := i
      (simp -implicitDefEqProofs only [go_sem, rowA, iA]; repeat (refine GO ?_; simp -implicitDefEqProofs only [go_sem, rowA, iA]))
      refine VIF.split (fun g => ?_) (fun g => ?_)
      · simp only [decide_eq_true_eq] at g
        have hi' : i < a.length := by omega
        have hb' : i < b.length := by omega
        (simp -implicitDefEqProofs only [go_sem]; repeat (refine GO ?_; simp -implicitDefEqProofs only [go_sem]))
        refine EL.map hi' ?_
        (simp -implicitDefEqProofs only [go_sem, V.c]; repeat (refine GO ?_; simp -implicitDefEqProofs only [go_sem, V.c]))
        refine EL.map hb' ?_
        (simp -implicitDefEqProofs only [go_sem, V.c]; repeat (refine GO ?_; simp -implicitDefEqProofs only [go_sem, V.c]))
        refine .pure _ (s46 a[i] b[i]) rfl fun r hr _ => ?_
        subst hr
        (simp -implicitDefEqProofs only [go_sem, bA]; repeat (refine GO ?_; simp -implicitDefEqProofs only [go_sem, bA]))
        refine VIF.split (fun e => ?_) (fun e => ?_)
        · (simp -implicitDefEqProofs only [go_sem]; repeat (refine GO ?_; simp -implicitDefEqProofs only [go_sem]))
          refine ⟨false, rfl, by simp; intro h'; subst h'; simp [eqV_iff.2 rfl] at e⟩
        · (simp -implicitDefEqProofs only [go_sem]; repeat (refine GO ?_; simp -implicitDefEqProofs only [go_sem]))
          have e' : a[i] = b[i] := eqV_iff.1 (by simpa using e)
          refine BACK.mk ⟨i + 1, hi', fun j h1 h2 hj => ?_⟩ [] rfl rfl (by show a.length - (i + 1) < a.length - i; omega) ?_
          · by_cases hji : j = i
            · subst hji; exact e'
            · exact hz j h1 h2 (by omega)
          · (simp -implicitDefEqProofs only [go_sem, rowA, iA]; repeat (refine GO ?_; simp -implicitDefEqProofs only [go_sem, rowA, iA]))
            simp [wrap_succ hi' ha]
      · simp at g
        (simp -implicitDefEqProofs only [go_sem]; repeat (refine GO ?_; simp -implicitDefEqProofs only [go_sem]))
        refine ⟨true, rfl, by simp; exact List.ext_getElem (by omega) fun j h1 h2 => hz j h1 h2 (by omega)⟩
end Yt
namespace Yt
open Go Go.Vc Go.Proofs
set_option linter.unusedSimpArgs false
set_option linter.unusedVariables false
/-- What the items of a row come to. -/
def tot (r : List V) : List It → Int
  | [] => 0
  | t :: z => (if cmpR t.row r = 0 then t.w else 0) + tot r z
theorem tot_append (r : List V) (x y : List It) : tot r (x ++ y) = tot r x + tot r y := by
  induction x with
  | nil => simp [tot]
  | cons t x ih => simp only [List.cons_append, tot, ih]; omega
theorem tot_perm {r : List V} {x y : List It} (h : x.Perm y) : tot r x = tot r y := by
  induction h with
  | nil => rfl
  | cons t _ ih => simp only [tot, ih]
  | swap a b l => simp only [tot]; omega
  | trans _ _ h1 h2 => exact h1.trans h2
/-- All weights. -/
def sumW : List It → Int
  | [] => 0
  | t :: z => t.w + sumW z
theorem sumW_append (x y : List It) : sumW (x ++ y) = sumW x + sumW y := by
  induction x with
  | nil => simp [sumW]
  | cons t x ih => simp only [List.cons_append, sumW, ih]; omega
theorem tot_same {r : List V} {x : List It} (h : ∀ t ∈ x, cmpR t.row r = 0) : tot r x = sumW x := by
  induction x with
  | nil => rfl
  | cons t x ih => simp only [tot, sumW, h t (by simp), if_true, ih fun u hu => h u (by simp [hu])]
theorem tot_none {r : List V} {x : List It} (h : ∀ t ∈ x, cmpR t.row r ≠ 0) : tot r x = 0 := by
  induction x with
  | nil => rfl
  | cons t x ih => simp only [tot, h t (by simp), if_false, ih fun u hu => h u (by simp [hu])]; rfl
/-- Items made: rows rise, no weight is 0, none too great. -/
structure Made (o : List It) : Prop where
  pw : o.Pairwise fun a b => cI a b < 0
  nz : ∀ t ∈ o, t.w ≠ 0 ∧ okW t.w = true
theorem cI_eq {a b : It} : cI a b = 0 ↔ a.row = b.row := ⟨lin_cmpR.eq _ _, fun h => by simp only [cI, h]; exact lin_cmpR.self _⟩
theorem tot_made {o : List It} (h : Made o) {t : It} (ht : t ∈ o) : tot t.row o = t.w := by
  obtain ⟨hp, hz⟩ := h
  clear hz
  induction o with
  | nil => cases ht
  | cons u o ih =>
    rw [List.pairwise_cons] at hp
    simp only [tot]
    cases ht with
    | head =>
      rw [if_pos (lin_cmpR.self _), tot_none (fun v hv => ?_)]
      · omega
      · have := hp.1 v hv
        have hn := lin_cmpR.neg t.row v.row
        simp only [cI] at this
        omega
    | tail _ ht =>
      have := hp.1 t ht
      simp only [cI] at this
      rw [if_neg (by omega), ih ht hp.2]; omega
/-- What is made is told by what it comes to. -/
theorem made_eq {x y : List It} (hx : Made x) (hy : Made y) (h : ∀ r, tot r x = tot r y) : x = y := by
  have key : ∀ {x y : List It}, Made x → Made y → (∀ r, tot r x = tot r y) → ∀ t ∈ x, t ∈ y := by
    intro x y hx hy h t ht
    have h1 := tot_made hx ht
    have h2 := h t.row
    rw [h1] at h2
    have hnz := (hx.nz t ht).1
    have : ∃ u ∈ y, cmpR u.row t.row = 0 := by
      apply Classical.byContradiction
      intro hno
      have := tot_none (r := t.row) (x := y) fun u hu e => hno ⟨u, hu, e⟩
      omega
    obtain ⟨u, hu, e⟩ := this
    have hrow := lin_cmpR.eq _ _ e
    have h3 := tot_made hy hu
    rw [hrow, ← h2] at h3
    have : t = u := by
      obtain ⟨a, b⟩ := t; obtain ⟨a', b'⟩ := u
      simp only at hrow h3
      subst hrow; subst h3; rfl
    rw [this]; exact hu
  have nd : ∀ {x : List It}, Made x → x.Nodup := fun hx => hx.pw.imp fun {a b} hab e => by
    subst e; have := (cI_eq (a := a) (b := a)).2 rfl; omega
  have hperm : x.Perm y := (List.perm_ext_iff_of_nodup (nd hx) (nd hy)).2 fun t => ⟨key hx hy h t, key hy hx (fun r => (h r).symm) t⟩
  exact hperm.eq_of_pairwise (fun a b _ _ h1 h2 => by
    have := lin_cmpR.neg a.row b.row
    simp only [cI] at h1 h2; omega) hx.pw hy.pw
end Yt
namespace Yt
open Go Go.Vc Go.Proofs
set_option linter.unusedSimpArgs false
set_option linter.unusedVariables false
/-- What has been made when the first `off` of the sorted items are through. -/
structure GI (y : List It) (off : Nat) (o : List It) : Prop where
  le : off ≤ y.length
  made : Made o
  low : ∀ t ∈ o, ∀ j (h : j < y.length), off ≤ j → cI t y[j] < 0
  cut : ∀ i j (h1 : i < y.length) (h2 : j < y.length), i < off → off ≤ j → cI y[i] y[j] < 0
  tot : ∀ r, tot r o = tot r (y.take off)
  src : ∀ t ∈ o, ∃ u ∈ y, u.row = t.row
theorem GI.start (y : List It) : GI y 0 [] := ⟨Nat.zero_le _, ⟨.nil, by simp⟩, by simp, by simp, fun r => by simp [Yt.tot], by simp⟩
/-- A run: from off to e all have one row, and behind it comes a greater one. -/
structure Run (y : List It) (off e : Nat) : Prop where
  lt : off < e
  le : e ≤ y.length
  same : ∀ j (h : j < y.length) (h0 : off < y.length), off ≤ j → j < e → cI y[j] y[off] = 0
  next : ∀ (h : e < y.length) (h0 : off < y.length), cI y[e] y[off] ≠ 0
theorem SR.get {y : List It} (h : SR cI y 0 y.length) {i j : Nat} (hi : i < y.length) (hj : j < y.length) (hij : i < j) : cI y[i] y[j] ≤ 0 :=
  h i j (Nat.zero_le _) hij hj _ _ (List.getElem?_eq_getElem hi) (List.getElem?_eq_getElem hj)
theorem cI_neg (a b : It) : cI b a = - cI a b := lin_cmpR.neg _ _
theorem cI_row {a b c : It} (h : a.row = b.row) : cI a c = cI b c := by simp only [cI, h]
theorem cI_row' {a b c : It} (h : a.row = b.row) : cI c a = cI c b := by simp only [cI, h]
theorem take_split (y : List It) {off e : Nat} (h : off ≤ e) : y.take e = y.take off ++ (y.drop off).take (e - off) := by
  rw [← List.take_add, Nat.add_sub_cancel' h]
theorem GI.step {y o : List It} {off e : Nat} (hs : SR cI y 0 y.length) (g : GI y off o) (r : Run y off e) (h0 : off < y.length) (hok : okW (sumW ((y.drop off).take (e - off))) = true) :
    GI y e (if sumW ((y.drop off).take (e - off)) = 0 then o else o ++ [⟨y[off].row, sumW ((y.drop off).take (e - off))⟩]) := by
  have hrow : ∀ j (h : j < y.length), off ≤ j → j < e → y[j].row = y[off].row := fun j h a b => cI_eq.1 (r.same j h h0 a b)
  have hgt : ∀ j (h : j < y.length), e ≤ j → cI y[off] y[j] < 0 := by
    intro j h hj
    have he : e < y.length := by omega
    have h1 := SR.get hs h0 he r.lt
    have h2 := r.next he h0
    have h3 := cI_neg y[e] y[off]
    have h4 : cI y[off] y[e] < 0 := by omega
    by_cases e1 : j = e
    · subst e1; exact h4
    · have h5 := SR.get hs he h (by omega)
      by_cases e2 : cI y[e] y[j] = 0
      · rw [← cI_row' (cI_eq.1 e2)]; exact h4
      · exact lin_cmpR.trans _ _ _ h4 (by simp only [cI] at *; omega)
  have hcut : ∀ i j (h1 : i < y.length) (h2 : j < y.length), i < e → e ≤ j → cI y[i] y[j] < 0 := by
    intro i j h1 h2 hi hj
    by_cases e1 : i < off
    · exact g.cut i j h1 h2 e1 (by have := r.lt; omega)
    · rw [cI_row (hrow i h1 (by omega) hi)]; exact hgt j h2 hj
  have hlow : ∀ t ∈ o, ∀ j (h : j < y.length), e ≤ j → cI t y[j] < 0 := fun t ht j h hj => g.low t ht j h (by have := r.lt; omega)
  have hrun : ∀ t ∈ (y.drop off).take (e - off), t.row = y[off].row := by
    intro t ht
    obtain ⟨k, hk, rfl⟩ := List.mem_iff_getElem.1 ht
    simp only [List.length_take, List.length_drop] at hk
    simp only [List.getElem_take, List.getElem_drop]
    exact hrow _ _ (by omega) (by omega)
  have htot : ∀ q, Yt.tot q ((y.drop off).take (e - off)) = if cmpR y[off].row q = 0 then sumW ((y.drop off).take (e - off)) else 0 := by
    intro q
    split
    · rename_i hq
      exact tot_same fun t ht => by rw [hrun t ht]; exact hq
    · rename_i hq
      exact tot_none fun t ht => by rw [hrun t ht]; exact hq
  have hsplit := take_split y (Nat.le_of_lt r.lt)
  split
  · rename_i hz
    refine ⟨r.le, g.made, hlow, hcut, fun q => ?_, g.src⟩
    rw [hsplit, tot_append, g.tot q, htot q, hz]
    split <;> omega
  · rename_i hz
    refine ⟨r.le, ⟨?_, ?_⟩, ?_, hcut, fun q => ?_, ?_⟩
    · rw [List.pairwise_append]
      refine ⟨g.made.pw, List.pairwise_singleton _ _, fun t ht u hu => ?_⟩
      simp only [List.mem_singleton] at hu
      subst hu
      exact g.low t ht off h0 (Nat.le_refl _)
    · intro t ht
      rw [List.mem_append, List.mem_singleton] at ht
      rcases ht with ht | rfl
      · exact g.made.nz t ht
      · exact ⟨hz, hok⟩
    · intro t ht
      rw [List.mem_append, List.mem_singleton] at ht
      rcases ht with ht | rfl
      · exact hlow t ht
      · exact hgt
    · rw [tot_append, hsplit, tot_append, g.tot q, htot q]
      simp only [Yt.tot]; omega
    · intro t ht
      rw [List.mem_append, List.mem_singleton] at ht
      rcases ht with ht | rfl
      · exact g.src t ht
      · exact ⟨y[off], List.getElem_mem h0, rfl⟩
/-- A run has all of its row. -/
theorem GI.total {y o : List It} {off e : Nat} (hs : SR cI y 0 y.length) (g : GI y off o) (r : Run y off e) (h0 : off < y.length) : Yt.tot y[off].row y = sumW ((y.drop off).take (e - off)) := by
  have hsplit := take_split y (Nat.le_of_lt r.lt)
  have hy : y = y.take off ++ (y.drop off).take (e - off) ++ y.drop e := by rw [← hsplit, List.take_append_drop]
  have h1 : Yt.tot y[off].row (y.take off) = 0 := tot_none fun t ht => by
    obtain ⟨k, hk, rfl⟩ := List.mem_iff_getElem.1 ht
    simp only [List.length_take] at hk
    rw [List.getElem_take]
    have := g.cut k off (by omega) h0 (by omega) (Nat.le_refl _)
    simp only [cI] at this; omega
  have h2 : Yt.tot y[off].row ((y.drop off).take (e - off)) = sumW ((y.drop off).take (e - off)) := tot_same fun t ht => by
    obtain ⟨k, hk, rfl⟩ := List.mem_iff_getElem.1 ht
    simp only [List.length_take, List.length_drop] at hk
    rw [List.getElem_take, List.getElem_drop]
    exact r.same _ (by omega) h0 (by omega) (by omega)
  have h3 : Yt.tot y[off].row (y.drop e) = 0 := tot_none fun t ht => by
    obtain ⟨k, hk, rfl⟩ := List.mem_iff_getElem.1 ht
    simp only [List.length_drop] at hk
    rw [List.getElem_drop]
    have he : e < y.length := by omega
    have a1 := SR.get hs h0 he r.lt
    have a2 := r.next he h0
    have a3 := cI_neg y[e] y[off]
    intro e1
    by_cases e2 : k = 0
    · subst e2; exact a2 e1
    · have a4 := SR.get hs he (show e + k < y.length by omega) (by omega)
      have a5 : cI y[e] y[off] ≤ 0 := by rw [← cI_row' (cI_eq.1 e1)]; exact a4
      omega
  have : Yt.tot y[off].row y = Yt.tot y[off].row (y.take off ++ (y.drop off).take (e - off) ++ y.drop e) := by rw [← hy]
  rw [this, tot_append, tot_append, h1, h2, h3]; omega
end Yt
namespace Yt
open Go Go.Vc Go.Proofs
set_option maxRecDepth 10000
set_option maxHeartbeats 4000000
set_option linter.unusedSimpArgs false
set_option linter.unusedVariables false
/-- What is made of z: out, and the refusal. -/
def MakeR (z out : List It) (err : Int) : Prop :=
  ((z.any fun t => !okI t) = true ∧ out = [] ∧ err = 1) ∨
  ((z.any fun t => !okI t) = false ∧ out = [] ∧ err = 11 ∧ ∃ r, okW (tot r z) = false) ∨
  ((z.any fun t => !okI t) = false ∧ err = 0 ∧ Made out ∧ (∀ r, tot r out = tot r z) ∧ (∀ t ∈ out, okR t.row = 0 ∧ ∃ u ∈ z, u.row = t.row) ∧ out.length ≤ z.length)
theorem Es_snoc {st : St} {m : List (Nat × Option Nat)} {l : List (List AV)} {cs cs' : List AV} (hl : ∀ x ∈ l, ∀ a ∈ x, a.leaf = true) (h : wk.wks st m cs cs') : Es st m (l ++ [cs]) (l ++ [cs']) := by
  induction l with
  | nil => exact .cons h .nil
  | cons x r ih => exact .cons (wks_leaf (hl x (by simp))) (ih fun y hy => hl y (by simp [hy]))
/-- What the first i items from off on come to, in two parts. -/
structure TI (y : List It) (off i : Nat) (h l : Int) : Prop where
  le : off + i ≤ y.length
  same : ∀ j (hj : j < y.length) (h0 : off < y.length), off ≤ j → j < off + i → cI y[j] y[off] = 0
  sum : h * 268435456 + l = sumW ((y.drop off).take i)
  hb : -((i : Int) * 536870912) ≤ h ∧ h ≤ (i : Int) * 536870912
  lb : 0 ≤ l ∧ l ≤ (i : Int) * 268435456
theorem TI.start {y : List It} {off : Nat} (h : off ≤ y.length) : TI y off 0 0 0 :=
  ⟨h, fun j _ _ h1 h2 => by omega, by simp [sumW], by omega, by omega⟩
theorem okW_le {w : Int} (h : okW w = true) : -72057594037927936 ≤ w ∧ w ≤ 72057594037927936 := by
  simp [okW, inB] at h; omega
theorem TI.step {y : List It} {off i : Nat} {h l : Int} (t : TI y off i h l) (hi : off + i < y.length) (e : ∀ h0 : off < y.length, cI y[off + i] y[off] = 0) (hw : okW y[off + i].w = true) :
    TI y off (i + 1) (h + y[off + i].w / 268435456) (l + y[off + i].w % 268435456) := by
  have hw := okW_le hw
  obtain ⟨t1, t2, t3, t4, t5⟩ := t
  refine ⟨by omega, fun j hj h0 h1 h2 => ?_, ?_, by omega, by omega⟩
  · by_cases hji : j = off + i
    · subst hji; exact e h0
    · exact t2 j hj h0 h1 (by omega)
  · have hd : i < (y.drop off).length := by rw [List.length_drop]; omega
    rw [List.take_succ_eq_append_getElem hd, sumW_append, ← t3]
    simp only [sumW, List.getElem_drop]
    omega
theorem TI.run {y : List It} {off i : Nat} {h l : Int} (t : TI y off i h l) (h0 : off < y.length) (hn : ∀ hi : off + i < y.length, cI y[off + i] y[off] ≠ 0) : Run y off (off + i) := by
  refine ⟨?_, t.le, t.same, fun hi h0 => hn hi⟩
  apply Classical.byContradiction
  intro hlt
  have : i = 0 := by omega
  subst this
  exact hn h0 (cI_eq.2 rfl)
def to2 (h l : Int) : Ob := ⟨2, [[iA h, iA l]]⟩
theorem to2_leafy (h l : Int) : (to2 h l).leafy := by
  rw [to2, leafy_do]; simp [leafs2, leafs, iA, AV.leaf]
theorem s11 (z : List It) (hl : z.length ≤ 1048576) (hr : ∀ t ∈ z, t.row.length < 1073741824) :
    Spec1 Try.prog 76 [setA z] (fun r o => ∃ (out : List It) (err : Int), r = .tu [.rf 0 0 out.length, iA err] ∧ o = so out ∧ MakeR z out err) := by
  refine spec1_of_vc tabOk elems ord76 Try.func76 rfl (rl := [.tmp 2, .tmp 3]) rfl (by kernel_rfl) rfl ?_
  (simp -implicitDefEqProofs only [go_sem, setA]; repeat (refine GO ?_; simp -implicitDefEqProofs only [go_sem, setA]))
  refine .pure _ (s34 z (fun t ht => by have := hr t ht; omega) (by omega)) rfl fun r hr' _ => ?_
  subst hr'
  (simp -implicitDefEqProofs only [go_sem, bA]; repeat (refine GO ?_; simp -implicitDefEqProofs only [go_sem, bA]))
  refine VIF.split (fun h => ?_) (fun hbad => ?_)
  · (simp -implicitDefEqProofs only [go_sem]; repeat (refine GO ?_; simp -implicitDefEqProofs only [go_sem]))
    refine FINmk [(0, none)] [(2, .rf 0 0 0), (3, iA 1)] [(0, so [])] [0] rfl ?_ ?_
    · (simp -implicitDefEqProofs only [go_sem, iA]; repeat (refine GO ?_; simp -implicitDefEqProofs only [go_sem, iA]))
      simp [so]
    · exact ⟨so [], ⟨⟨[], 1, rfl, rfl, .inl ⟨h, rfl, rfl⟩⟩, rfl⟩, so_leafy [], rfl⟩
  · (simp -implicitDefEqProofs only [go_sem]; repeat (refine GO ?_; simp -implicitDefEqProofs only [go_sem]))
    refine .make 13 _ (s38 z (by omega)) rfl (by simp) rfl fun r o hro _ => ?_
    obtain ⟨rfl, rfl⟩ := hro
    (simp -implicitDefEqProofs only [go_sem]; repeat (refine GO ?_; simp -implicitDefEqProofs only [go_sem]))
    refine .obj 13 (so z) _ [.rf 0 0 z.length, .fn 121 []] (s39 121 cI cmp_cI (fun t => t.row.length < 4611686018427387904) (fun x y hx _ => s40 x y hx) z (fun t ht => by have := hr t ht; omega) (by omega)) rfl (so_leafy z) rfl rfl fun r o' hro _ _ => ?_
    obtain ⟨rfl, y, rfl, hw, hs⟩ := hro
    have hlen := hw.len
    have hry : ∀ t ∈ y, t.row.length < 1073741824 := fun t ht => hr t (hw.perm.mem_iff.1 ht)
    have hok : ∀ t ∈ y, okI t = true := fun t ht => by
      have h1 : ∀ u ∈ z, okI u = true := by simpa using hbad
      exact h1 t (hw.perm.mem_iff.1 ht)
    have hs : SR cI y 0 y.length := by rw [hlen]; exact hs
    rw [← hlen]
    (simp -implicitDefEqProofs only [go_sem]; repeat (refine GO ?_; simp -implicitDefEqProofs only [go_sem]))
    refine LOOP.mk (ι := { p : Nat × List It // GI y p.1 p.2 ∧ p.2.length ≤ p.1 }) (fun p => mkS [(4, .rf 1000 p.1.1 (y.length - p.1.1)), (5, .rf 1001 0 p.1.2.length)] [(1000, so y), (1001, so p.1.2)] [1000, 1001])
      (fun p => y.length - p.1.1) ⟨(0, []), .start y, Nat.le_refl _⟩ [(1000, some 13), (1001, none)] rfl rfl ?_ (fun p => ?_)
    · (simp -implicitDefEqProofs only [go_sem, so]; repeat (refine GO ?_; simp -implicitDefEqProofs only [go_sem, so]))
      exact ⟨id, .same (so y) _ _ (so_leafy y) rfl, rfl⟩
    · obtain ⟨⟨off, out⟩, g, hol⟩ := p
      have hle := g.le
      simp only at hle hol
      (simp -implicitDefEqProofs only [go_sem, so]; repeat (refine GO ?_; simp -implicitDefEqProofs only [go_sem, so]))
      refine VIF.split (fun h1 => ?_) (fun h1 => ?_)
      · have h0 : off < y.length := by simp at h1; omega
        (simp -implicitDefEqProofs only [go_sem]; repeat (refine GO ?_; simp -implicitDefEqProofs only [go_sem]))
        refine LOOP.join (ι := { q : Nat × Int × Int // TI y off q.1 q.2.1 q.2.2 ∧ Run y off (off + q.1) })
          (fun q => mkS [(4, .rf 1000 off (y.length - off)), (5, .rf 1001 0 out.length), (6, iA q.1.1), (7, .pt 1002 0 0)] [(1000, so y), (1001, so out), (1002, to2 q.1.2.1 q.1.2.2)] [1000, 1001, 1002]) ?_ (fun q => ?_)
        · refine LOOP.mk (ι := { q : Nat × Int × Int // TI y off q.1 q.2.1 q.2.2 })
            (fun q => mkS [(4, .rf 1000 off (y.length - off)), (5, .rf 1001 0 out.length), (6, iA q.1.1), (7, .pt 1002 0 0)] [(1000, so y), (1001, so out), (1002, to2 q.1.2.1 q.1.2.2)] [1000, 1001, 1002])
            (fun q => y.length - off - q.1.1) ⟨(0, 0, 0), .start hle⟩ [(1000, some 1000), (1001, some 1001), (1002, some 7)] rfl rfl ?_ (fun q => ?_)
          · (simp -implicitDefEqProofs only [go_sem, iA, to2, so]; repeat (refine GO ?_; simp -implicitDefEqProofs only [go_sem, iA, to2, so]))
            exact ⟨id, rfl, .same (so y) _ _ (so_leafy y) rfl, .same (so out) _ _ (so_leafy out) rfl, .same (to2 0 0) _ _ (to2_leafy 0 0) rfl⟩
          · obtain ⟨⟨i, h, l⟩, ti⟩ := q
            simp only at ti
            have til := ti.le
            (simp -implicitDefEqProofs only [go_sem, iA, to2, so]; repeat (refine GO ?_; simp -implicitDefEqProofs only [go_sem, iA, to2, so]))
            refine VIF.split (fun h2 => ?_) (fun h2 => ?_)
            · have hi : off + i < y.length := by simp at h2; omega
              (simp -implicitDefEqProofs only [go_sem]; repeat (refine GO ?_; simp -implicitDefEqProofs only [go_sem]))
              refine ⟨by omega, EL.map hi ?_⟩
              (simp -implicitDefEqProofs only [go_sem, It.c]; repeat (refine GO ?_; simp -implicitDefEqProofs only [go_sem, It.c]))
              refine ⟨by omega, EL.map (show off + 0 < y.length by omega) ?_⟩
              (simp -implicitDefEqProofs only [go_sem, It.c]; repeat (refine GO ?_; simp -implicitDefEqProofs only [go_sem, It.c]))
              refine .pure _ (s13 y[off + i].row y[off + Int.toNat 0].row (by have := hry y[off + i] (List.getElem_mem hi); omega)) rfl fun r hr _ => ?_
              subst hr
              (simp -implicitDefEqProofs only [go_sem]; repeat (refine GO ?_; simp -implicitDefEqProofs only [go_sem]))
              refine VIF.split (fun h3 => ?_) (fun h3 => ?_)
              · have h3 : cI y[off + i] y[off] = 0 := by simpa [cI] using h3
                (simp -implicitDefEqProofs only [go_sem]; repeat (refine GO ?_; simp -implicitDefEqProofs only [go_sem]))
                refine ⟨by omega, EL.map hi ?_⟩
                (simp -implicitDefEqProofs only [go_sem, It.c]; repeat (refine GO ?_; simp -implicitDefEqProofs only [go_sem, It.c]))
                have hbb : i ≤ 1048576 := by omega
                have hb1 := ti.hb
                have hb2 := ti.lb
                have hoi := hok y[off + i] (List.getElem_mem hi)
                have hwi : okW y[off + i].w = true := by
                  simp only [okI, Bool.and_eq_true] at hoi; exact hoi.2
                have hwl := okW_le hwi
                refine .obj 1002 (to2 h l) _ [.pt 0 0 0, iA y[off + i].w] (s41 h l y[off + i].w (by omega) (by omega) (by omega)) rfl (to2_leafy h l) rfl rfl fun r o' hr _ _ => ?_
                obtain ⟨rfl, rfl⟩ := hr
                have w3 := wrap_add1 (show i < 4611686018427387904 by omega)
                (simp -implicitDefEqProofs only [go_sem, w3]; repeat (refine GO ?_; simp -implicitDefEqProofs only [go_sem, w3]))
                refine BACK.mk ⟨(i + 1, h + y[off + i].w / 268435456, l + y[off + i].w % 268435456), ti.step hi (fun _ => h3) hwi⟩ [(1000, some 1000), (1001, some 1001), (1002, some 1002)] rfl rfl (by show y.length - off - (i + 1) < y.length - off - i; omega) ?_
                (simp -implicitDefEqProofs only [go_sem, iA, to2, so, w3]; repeat (refine GO ?_; simp -implicitDefEqProofs only [go_sem, iA, to2, so, w3]))
                exact ⟨id, .same (so y) _ _ (so_leafy y) rfl, .same (so out) _ _ (so_leafy out) rfl, .same (to2 (h + y[off + i].w / 268435456) (l + y[off + i].w % 268435456)) _ _ (to2_leafy (h + y[off + i].w / 268435456) (l + y[off + i].w % 268435456)) rfl⟩
              · have h3 : cI y[off + i] y[off] ≠ 0 := by simpa [cI] using h3
                (simp -implicitDefEqProofs only [go_sem]; repeat (refine GO ?_; simp -implicitDefEqProofs only [go_sem]))
                refine JB.mk ⟨(i, h, l), ti, ti.run h0 (fun hi => h3)⟩ [(1000, some 1000), (1001, some 1001), (1002, some 1002)] rfl rfl ?_
                (simp -implicitDefEqProofs only [go_sem, iA, to2, so]; repeat (refine GO ?_; simp -implicitDefEqProofs only [go_sem, iA, to2, so]))
                exact ⟨id, .same (so y) _ _ (so_leafy y) rfl, .same (so out) _ _ (so_leafy out) rfl, .same (to2 h l) _ _ (to2_leafy h l) rfl⟩
            · have hi : off + i = y.length := by simp at h2; omega
              (simp -implicitDefEqProofs only [go_sem]; repeat (refine GO ?_; simp -implicitDefEqProofs only [go_sem]))
              refine JB.mk ⟨(i, h, l), ti, ti.run h0 (fun hi => by omega)⟩ [(1000, some 1000), (1001, some 1001), (1002, some 1002)] rfl rfl ?_
              (simp -implicitDefEqProofs only [go_sem, iA, to2, so]; repeat (refine GO ?_; simp -implicitDefEqProofs only [go_sem, iA, to2, so]))
              exact ⟨id, .same (so y) _ _ (so_leafy y) rfl, .same (so out) _ _ (so_leafy out) rfl, .same (to2 h l) _ _ (to2_leafy h l) rfl⟩
        · obtain ⟨⟨i, h, l⟩, ti, ru⟩ := q
          simp only at ti ru
          (simp -implicitDefEqProofs only [go_sem, iA, to2, so]; repeat (refine GO ?_; simp -implicitDefEqProofs only [go_sem, iA, to2, so]))
          have hbb : i ≤ 1048576 := by have := ti.le; omega
          have hb1 := ti.hb
          have hb2 := ti.lb
          refine .pure _ (s42 h l (by omega) (by omega)) rfl fun r hr _ => ?_
          obtain ⟨v, rfl, hv⟩ := hr
          (simp -implicitDefEqProofs only [go_sem, iA, bA]; repeat (refine GO ?_; simp -implicitDefEqProofs only [go_sem, iA, bA]))
          have hoff : off + i - off = i := by omega
          have htot := g.total hs ru h0
          have hsum := ti.sum
          rw [hoff] at htot
          refine VIF.split (fun h3 => ?_) (fun h3 => ?_)
          · have h3 : okW (h * 268435456 + l) = false := by simpa using h3
            (simp -implicitDefEqProofs only [go_sem]; repeat (refine GO ?_; simp -implicitDefEqProofs only [go_sem]))
            refine FINmk [(0, none)] [(2, .rf 0 0 0), (3, iA 11)] [(0, so [])] [0] rfl ?_ ?_
            · (simp -implicitDefEqProofs only [go_sem, iA]; repeat (refine GO ?_; simp -implicitDefEqProofs only [go_sem, iA]))
              simp [so]
            · refine ⟨so [], ⟨⟨[], 11, rfl, rfl, .inr (.inl ⟨hbad, rfl, rfl, y[off].row, ?_⟩)⟩, rfl⟩, so_leafy [], rfl⟩
              rw [← tot_perm hw.perm, htot, ← hsum]; exact h3
          · have h3 : okW (h * 268435456 + l) = true := by simpa using h3
            have hv := hv h3
            have gs := g.step hs ru h0 (by rw [hoff, ← hsum]; exact h3)
            rw [hoff, ← hsum, ← hv] at gs
            have hle2 := ru.le
            have hlt2 := ru.lt
            (simp -implicitDefEqProofs only [go_sem]; repeat (refine GO ?_; simp -implicitDefEqProofs only [go_sem]))
            refine VIF.split (fun h4 => ?_) (fun h4 => ?_)
            · have h4 : v ≠ 0 := by simpa using h4
              rw [if_neg h4] at gs
              (simp -implicitDefEqProofs only [go_sem]; repeat (refine GO ?_; simp -implicitDefEqProofs only [go_sem]))
              refine ⟨by omega, EL.map (show off + 0 < y.length by omega) ?_⟩
              (simp -implicitDefEqProofs only [go_sem, It.c]; repeat (refine GO ?_; simp -implicitDefEqProofs only [go_sem, It.c]))
              refine .make 61 _ (s43 y[off + Int.toNat 0].row (by have := hry y[off] (List.getElem_mem h0); simp; omega)) rfl (by simp) rfl fun r o hro _ => ?_
              obtain ⟨rfl, rfl⟩ := hro
              (simp -implicitDefEqProofs only [go_sem]; repeat (refine GO ?_; simp -implicitDefEqProofs only [go_sem]))
              refine ⟨by omega, ?_⟩
              (simp -implicitDefEqProofs only [go_sem]; repeat (refine GO ?_; simp -implicitDefEqProofs only [go_sem]))
              refine ⟨by omega, ?_⟩
              refine BACK.mk ⟨(off + i, out ++ [⟨y[off].row, v⟩]), gs, by simp; omega⟩ [(1000, some 1000), (1001, some 65)] rfl rfl (by show y.length - (off + i) < y.length - off; omega) ?_
              (simp -implicitDefEqProofs only [go_sem, iA, so]; repeat (refine GO ?_; simp -implicitDefEqProofs only [go_sem, iA, so]))
              refine ⟨id, ⟨by omega, by simp⟩, .same (so y) _ _ (so_leafy y) rfl, ?_⟩
              rw [List.map_append, show List.take out.length (List.map It.c out) = List.map It.c out from List.take_of_length_le (by simp)]
              refine Es_snoc (fun x hx a ha => ?_) ?_
              · exact so_leafy out x hx a ha
              · (simp -implicitDefEqProofs only [go_sem, It.c, rowA, iA]; repeat (refine GO ?_; simp -implicitDefEqProofs only [go_sem, It.c, rowA, iA]))
                exact ⟨by decide, _, rfl, ro3_leafy _, rfl, List.take_of_length_le (by simp [ro3])⟩
            · have h4 : v = 0 := by simpa using h4
              rw [if_pos h4] at gs
              (simp -implicitDefEqProofs only [go_sem]; repeat (refine GO ?_; simp -implicitDefEqProofs only [go_sem]))
              refine ⟨by omega, ?_⟩
              refine BACK.mk ⟨(off + i, out), gs, by show out.length ≤ off + i; omega⟩ [(1000, some 1000), (1001, some 1001)] rfl rfl (by show y.length - (off + i) < y.length - off; omega) ?_
              (simp -implicitDefEqProofs only [go_sem, iA, so]; repeat (refine GO ?_; simp -implicitDefEqProofs only [go_sem, iA, so]))
              exact ⟨id, by omega, .same (so y) _ _ (so_leafy y) rfl, .same (so out) _ _ (so_leafy out) rfl⟩
      · have h0 : off = y.length := by simp at h1; omega
        (simp -implicitDefEqProofs only [go_sem]; repeat (refine GO ?_; simp -implicitDefEqProofs only [go_sem]))
        subst h0
        have hgt := g.tot
        rw [List.take_length] at hgt
        refine FINmk [(0, some 1001)] [(2, .rf 0 0 out.length), (3, iA 0)] [(0, so out)] [0] rfl ?_ ?_
        · (simp -implicitDefEqProofs only [go_sem, iA, so]; repeat (refine GO ?_; simp -implicitDefEqProofs only [go_sem, iA, so]))
          exact .same (so out) _ _ (so_leafy out) rfl
        · refine ⟨so out, ⟨⟨out, 0, rfl, rfl, .inr (.inr ⟨hbad, rfl, g.made, fun r => (hgt r).trans (tot_perm hw.perm), fun t ht => ?_, by omega⟩)⟩, rfl⟩, so_leafy out, rfl⟩
          obtain ⟨u, hu, e⟩ := g.src t ht
          have := hok u hu
          refine ⟨?_, u, hw.perm.mem_iff.1 hu, e⟩
          rw [← e]
          simp [okI] at this
          exact this.1
end Yt
namespace Yt
open Go Go.Vc Go.Proofs
set_option maxRecDepth 10000
set_option maxHeartbeats 4000000
set_option linter.unusedSimpArgs false
set_option linter.unusedVariables false
/-- What a right set's item i is. -/
structure Goo (z : List It) (i : Nat) (h : i < z.length) : Prop where
  ok : okI z[i] = true
  nz : z[i].w ≠ 0
  up : ∀ h0 : 0 < i, cI z[i - 1] z[i] < 0
def Good (z : List It) : Prop := ∀ i (h : i < z.length), Goo z i h
theorem s16 (z : List It) (hl : z.length < 4611686018427387904) (hr : ∀ t ∈ z, t.row.length < 4611686018427387904) :
    Spec0 Try.prog 62 [setA z] (fun r => ∃ e : Int, r = iA e ∧ (e = 0 ∨ e = 1) ∧ (e = 0 ↔ Good z)) := by
  refine spec0_of_vc tabOk elems ord62 Try.func62 rfl (rl := [.tmp 2]) rfl (by kernel_rfl) rfl ?_
  (simp -implicitDefEqProofs only [go_sem, setA]; repeat (refine GO ?_; simp -implicitDefEqProofs only [go_sem, setA]))
  refine LOOP.mk (ι := { i : Nat // i ≤ z.length ∧ ∀ j (h : j < z.length), j < i → Goo z j h }) (fun p => mkS [(0, .im 2 (z.map It.c)), (5, .im 2 (z.map It.c)), (6, iA z.length), (7, iA p.1)] [] [])
    (fun p => z.length - p.1) ⟨0, Nat.zero_le _, fun j _ h => absurd h (Nat.not_lt_zero _)⟩ [] rfl rfl ?_ (fun p => ?_)
  · (simp -implicitDefEqProofs only [go_sem, iA]; repeat (refine GO ?_; simp -implicitDefEqProofs only [go_sem, iA]))
    exact ⟨id, rfl⟩
  · obtain ⟨i, hi, hg⟩ := p
    (simp -implicitDefEqProofs only [go_sem, iA]; repeat (refine GO ?_; simp -implicitDefEqProofs only [go_sem, iA]))
    refine VIF.split (fun h => ?_) (fun h => ?_)
    · have h : i < z.length := by simpa using h
      (simp -implicitDefEqProofs only [go_sem]; repeat (refine GO ?_; simp -implicitDefEqProofs only [go_sem]))
      refine EL.map h ?_
      (simp -implicitDefEqProofs only [go_sem, It.c]; repeat (refine GO ?_; simp -implicitDefEqProofs only [go_sem, It.c]))
      have bad : ¬ Goo z i h → ∃ e : Int, AV.pr (Value.int IntKind.i64 1) = iA e ∧ (e = 0 ∨ e = 1) ∧ (e = 0 ↔ Good z) := fun hn =>
        ⟨1, rfl, .inr rfl, fun h => absurd h (by decide), fun g => absurd (g i h) hn⟩
      refine .pure _ (s36 z[i].row (hr _ (List.getElem_mem h))) rfl fun r hr' _ => ?_
      subst hr'
      (simp -implicitDefEqProofs only [go_sem, iA]; repeat (refine GO ?_; simp -implicitDefEqProofs only [go_sem, iA]))
      refine VIF.split (fun h1 => ?_) (fun h1 => ?_)
      · have h1 : okR z[i].row ≠ 0 := by simpa using h1
        (simp -implicitDefEqProofs only [go_sem]; repeat (refine GO ?_; simp -implicitDefEqProofs only [go_sem]))
        exact bad fun g => h1 (by have := g.ok; simp [okI] at this; exact this.1)
      · have h1 : okR z[i].row = 0 := by simpa using h1
        (simp -implicitDefEqProofs only [go_sem]; repeat (refine GO ?_; simp -implicitDefEqProofs only [go_sem]))
        refine VIF.split (fun h2 => ?_) (fun h2 => ?_)
        · have h2 : z[i].w = 0 := by simpa using h2
          (simp -implicitDefEqProofs only [go_sem]; repeat (refine GO ?_; simp -implicitDefEqProofs only [go_sem]))
          exact bad fun g => g.nz h2
        · have h2 : z[i].w ≠ 0 := by simpa using h2
          (simp -implicitDefEqProofs only [go_sem]; repeat (refine GO ?_; simp -implicitDefEqProofs only [go_sem]))
          refine .pure _ (s37 z[i].w) rfl fun r hr' _ => ?_
          subst hr'
          (simp -implicitDefEqProofs only [go_sem, bA]; repeat (refine GO ?_; simp -implicitDefEqProofs only [go_sem, bA]))
          refine VIF.split (fun h3 => ?_) (fun h3 => ?_)
          · have h3 : okW z[i].w = false := by simpa using h3
            (simp -implicitDefEqProofs only [go_sem]; repeat (refine GO ?_; simp -implicitDefEqProofs only [go_sem]))
            exact bad fun g => by have := g.ok; simp [okI, h3] at this
          · have h3 : okW z[i].w = true := by simpa using h3
            have hok : okI z[i] = true := by simp [okI, h1, h3]
            (simp -implicitDefEqProofs only [go_sem]; repeat (refine GO ?_; simp -implicitDefEqProofs only [go_sem]))
            refine VIF.split (fun h4 => ?_) (fun h4 => ?_)
            · have h4 : 0 < i := by simp at h4; omega
              have w1 := wrap_sub1 (show 1 ≤ i from h4) (by omega)
              (simp -implicitDefEqProofs only [go_sem, w1]; repeat (refine GO ?_; simp -implicitDefEqProofs only [go_sem, w1]))
              refine EL.map (show i - 1 < z.length by omega) ?_
              (simp -implicitDefEqProofs only [go_sem, It.c]; repeat (refine GO ?_; simp -implicitDefEqProofs only [go_sem, It.c]))
              refine .pure _ (s13 z[i - 1].row z[i].row (hr _ (List.getElem_mem _))) rfl fun r hr' _ => ?_
              subst hr'
              (simp -implicitDefEqProofs only [go_sem]; repeat (refine GO ?_; simp -implicitDefEqProofs only [go_sem]))
              refine VIF.split (fun h5 => ?_) (fun h5 => ?_)
              · have h5 : 0 ≤ cI z[i - 1] z[i] := by simpa [cI] using h5
                (simp -implicitDefEqProofs only [go_sem]; repeat (refine GO ?_; simp -implicitDefEqProofs only [go_sem]))
                exact bad fun g => by have := g.up h4; omega
              · have h5 : cI z[i - 1] z[i] < 0 := by simpa [cI] using h5
                have w3 := wrap_add1 (show i < 4611686018427387904 by omega)
                (simp -implicitDefEqProofs only [go_sem, w3]; repeat (refine GO ?_; simp -implicitDefEqProofs only [go_sem, w3]))
                refine BACK.mk ⟨i + 1, by omega, fun j hj hji => ?_⟩ [] rfl rfl (by show z.length - (i + 1) < z.length - i; omega) ?_
                · by_cases e : j = i
                  · subst e; exact ⟨hok, h2, fun _ => h5⟩
                  · exact hg j hj (by omega)
                · (simp -implicitDefEqProofs only [go_sem, iA, w3]; repeat (refine GO ?_; simp -implicitDefEqProofs only [go_sem, iA, w3]))
                  exact id
            · have h4 : i = 0 := by simp at h4; omega
              have w3 := wrap_add1 (show i < 4611686018427387904 by omega)
              (simp -implicitDefEqProofs only [go_sem, w3]; repeat (refine GO ?_; simp -implicitDefEqProofs only [go_sem, w3]))
              refine BACK.mk ⟨i + 1, by omega, fun j hj hji => ?_⟩ [] rfl rfl (by show z.length - (i + 1) < z.length - i; omega) ?_
              · have e : j = i := by omega
                subst e; exact ⟨hok, h2, fun h0 => absurd h0 (by omega)⟩
              · (simp -implicitDefEqProofs only [go_sem, iA, w3]; repeat (refine GO ?_; simp -implicitDefEqProofs only [go_sem, iA, w3]))
                exact id
    · have h : i = z.length := by simp at h; omega
      (simp -implicitDefEqProofs only [go_sem]; repeat (refine GO ?_; simp -implicitDefEqProofs only [go_sem]))
      exact ⟨0, rfl, .inl rfl, fun _ j hj => hg j hj (by omega), fun _ => rfl⟩
end Yt
namespace Yt
open Go Go.Vc Go.Proofs
set_option maxRecDepth 10000
set_option maxHeartbeats 4000000
set_option linter.unusedSimpArgs false
set_option linter.unusedVariables false
theorem not_heavyR {r : List V} (h : heavyR r = false) : r.length ≤ 40 := by
  simp [heavyR] at h; omega
theorem not_heavyS {z : List It} (h : heavyS z = false) : z.length ≤ 300 ∧ ∀ t ∈ z, t.row.length ≤ 40 := by
  simp only [heavyS, Bool.or_eq_false_iff, List.any_eq_false, decide_eq_false_iff_not] at h
  exact ⟨by omega, fun t ht => not_heavyR (by have := h.2 t ht; simpa [heavyI] using this)⟩
theorem tot_there {o : List It} (h : Made o) (r : List V) : tot r o ≠ 0 ↔ ∃ t ∈ o, t.row = r := by
  constructor
  · intro hn
    apply Classical.byContradiction
    intro hno
    exact hn (tot_none fun t ht e => hno ⟨t, ht, lin_cmpR.eq _ _ e⟩)
  · rintro ⟨t, ht, rfl⟩
    rw [tot_made h ht]
    exact (h.nz t ht).1
theorem good_made {z : List It} : Good z ↔ Made z ∧ ∀ t ∈ z, okR t.row = 0 := by
  constructor
  · intro h
    refine ⟨⟨?_, ?_⟩, ?_⟩
    · rw [List.pairwise_iff_getElem]
      intro i j hi hj hij
      induction j with
      | zero => omega
      | succ j ih =>
        have h1 := (h (j + 1) hj).up (by omega)
        simp only [Nat.add_sub_cancel] at h1
        by_cases e : i = j
        · subst e; exact h1
        · exact lin_cmpR.trans _ _ _ (ih (by omega) (by omega)) h1
    · intro t ht
      obtain ⟨i, hi, rfl⟩ := List.mem_iff_getElem.1 ht
      have := (h i hi).ok
      simp only [okI, Bool.and_eq_true] at this
      exact ⟨(h i hi).nz, this.2⟩
    · intro t ht
      obtain ⟨i, hi, rfl⟩ := List.mem_iff_getElem.1 ht
      have := (h i hi).ok
      simp [okI] at this
      exact this.1
  · rintro ⟨hm, ho⟩ i hi
    have h1 := hm.nz _ (List.getElem_mem hi)
    refine ⟨by simp [okI, ho _ (List.getElem_mem hi), h1.2], h1.1, fun h0 => ?_⟩
    exact List.pairwise_iff_getElem.1 hm.pw (i - 1) i (by omega) hi (by omega)
end Yt
namespace Yt
open Go Go.Vc Go.Proofs
set_option maxRecDepth 10000
set_option maxHeartbeats 4000000
set_option linter.unusedSimpArgs false
set_option linter.unusedVariables false
theorem zeros_leafy (n : Nat) : (Ob.mk 2 (List.replicate n [.nl, iA 0])).leafy := by
  intro x hx a ha
  rw [(List.mem_replicate.1 hx).2] at ha
  simp only [List.mem_cons, List.not_mem_nil, or_false] at ha
  rcases ha with rfl | rfl <;> rfl
theorem s65 (n : Nat) (hn : n ≤ 1073741824) : Spec1 Try.prog 127 [.nl, iA n] (fun r o => r = .rf 0 0 0 ∧ o.sz = 2) := by
  refine spec1_of_vc tabOk elems ord127 Try.func127 rfl (rl := [.tmp 4]) rfl (by kernel_rfl) rfl ?_
  (simp -implicitDefEqProofs only [go_sem, iA]; repeat (refine GO ?_; simp -implicitDefEqProofs only [go_sem, iA]))
  refine VIF.split (fun h => by simp at h; omega) (fun _ => ?_)
  have w0 : IntKind.i64.wrap (0 - 0) = 0 := by rw [wrap_i64] <;> omega
  have w1 : IntKind.i64.wrap ((n : Int) - 0) = n := by rw [wrap_i64] <;> omega
  (simp -implicitDefEqProofs only [go_sem, w0, w1]; repeat (refine GO ?_; simp -implicitDefEqProofs only [go_sem, w0, w1]))
  refine VIF.split (fun h => ?_) (fun h => ?_)
  · have h : 0 < n := by simpa using h
    (simp -implicitDefEqProofs only [go_sem]; repeat (refine GO ?_; simp -implicitDefEqProofs only [go_sem]))
    refine ⟨by decide, ⟨_, rfl⟩, ⟨by omega, by omega⟩, by decide, ?_⟩
    (simp -implicitDefEqProofs only [go_sem]; repeat (refine GO ?_; simp -implicitDefEqProofs only [go_sem]))
    refine FINmk [(0, some 22)] [(4, .rf 0 0 0)] [(0, ⟨2, List.replicate n [.nl, iA 0]⟩)] [0] rfl ?_ ?_
    · (simp -implicitDefEqProofs only [go_sem, iA]; repeat (refine GO ?_; simp -implicitDefEqProofs only [go_sem, iA]))
      exact ⟨⟨rfl, rfl⟩, .same ⟨2, List.replicate n [.nl, iA 0]⟩ _ _ (zeros_leafy n) (by simp [iA])⟩
    · exact ⟨_, ⟨⟨rfl, rfl⟩, rfl⟩, zeros_leafy n, rfl⟩
  · (simp -implicitDefEqProofs only [go_sem]; repeat (refine GO ?_; simp -implicitDefEqProofs only [go_sem]))
    refine FINmk [(0, none)] [(4, .rf 0 0 0)] [(0, so [])] [0] rfl ?_ ?_
    · (simp -implicitDefEqProofs only [go_sem]; repeat (refine GO ?_; simp -implicitDefEqProofs only [go_sem]))
      simp [so]
    · exact ⟨so [], ⟨⟨rfl, rfl⟩, rfl⟩, so_leafy [], rfl⟩
/-- All of them, one behind the other. -/
def cat : List (List It) → List It
  | [] => []
  | z :: r => z ++ cat r
theorem s18 (a b : List It) (ha : a.length < 4611686018427387904) (hb : b.length < 4611686018427387904) (hr : ∀ t ∈ a, t.row.length < 4611686018427387904) :
    Spec0 Try.prog 28 [setA a, setA b] (fun r => ∃ e : Bool, r = bA e ∧ (e = true ↔ a = b)) := by
  refine spec0_of_vc tabOk elems ord28 Try.func28 rfl (rl := [.tmp 4]) rfl (by kernel_rfl) rfl ?_
  (simp -implicitDefEqProofs only [go_sem, setA]; repeat (refine GO ?_; simp -implicitDefEqProofs only [go_sem, setA]))
  refine VIF.split (fun h => ?_) (fun h => ?_)
  · have h : a.length ≠ b.length := by simp at h; omega
    (simp -implicitDefEqProofs only [go_sem]; repeat (refine GO ?_; simp -implicitDefEqProofs only [go_sem]))
    exact ⟨false, rfl, by simp; intro e; exact h (by rw [e])⟩
  · have h : a.length = b.length := by simp at h; omega
    (simp -implicitDefEqProofs only [go_sem]; repeat (refine GO ?_; simp -implicitDefEqProofs only [go_sem]))
    refine LOOP.mk (ι := { i : Nat // i ≤ a.length ∧ ∀ j (h1 : j < a.length) (h2 : j < b.length), j < i → a[j] = b[j] }) (fun p => mkS [(0, setA a), (1, setA b), (5, iA p.1)] [] [])
      (fun p => a.length - p.1) ⟨0, Nat.zero_le _, fun j _ _ h => absurd h (Nat.not_lt_zero _)⟩ [] rfl rfl ?_ (fun p => ?_)
    · (simp -implicitDefEqProofs only [go_sem, setA, iA]; repeat (refine GO ?_; simp -implicitDefEqProofs only [go_sem, setA, iA]))
      exact ⟨id, rfl⟩
    · obtain ⟨i, hi, hg⟩ := p
      (simp -implicitDefEqProofs only [go_sem, setA, iA]; repeat (refine GO ?_; simp -implicitDefEqProofs only [go_sem, setA, iA]))
      refine VIF.split (fun h3 => ?_) (fun h3 => ?_)
      · have h3 : i < a.length := by simpa using h3
        have h4 : i < b.length := by omega
        have w1 := wrap_add1 (show i < 4611686018427387904 by omega)
        have bad : a[i] ≠ b[i] → ∃ e : Bool, AV.pr (Value.bool false) = bA e ∧ (e = true ↔ a = b) := fun hne => by
          refine ⟨false, rfl, ?_⟩
          simp only [Bool.false_eq_true, false_iff]
          intro e; subst e; exact hne rfl
        (simp -implicitDefEqProofs only [go_sem]; repeat (refine GO ?_; simp -implicitDefEqProofs only [go_sem]))
        refine EL.map h3 ?_
        (simp -implicitDefEqProofs only [go_sem, It.c]; repeat (refine GO ?_; simp -implicitDefEqProofs only [go_sem, It.c]))
        refine EL.map h4 ?_
        (simp -implicitDefEqProofs only [go_sem, It.c, iA]; repeat (refine GO ?_; simp -implicitDefEqProofs only [go_sem, It.c, iA]))
        refine VIF.split (fun h5 => ?_) (fun h5 => ?_)
        · have h5 : a[i].w ≠ b[i].w := by simpa using h5
          (simp -implicitDefEqProofs only [go_sem]; repeat (refine GO ?_; simp -implicitDefEqProofs only [go_sem]))
          exact bad fun e => h5 (by rw [e])
        · have h5 : a[i].w = b[i].w := by simpa using h5
          (simp -implicitDefEqProofs only [go_sem]; repeat (refine GO ?_; simp -implicitDefEqProofs only [go_sem]))
          refine EL.map h3 ?_
          (simp -implicitDefEqProofs only [go_sem, It.c]; repeat (refine GO ?_; simp -implicitDefEqProofs only [go_sem, It.c]))
          refine EL.map h4 ?_
          (simp -implicitDefEqProofs only [go_sem, It.c]; repeat (refine GO ?_; simp -implicitDefEqProofs only [go_sem, It.c]))
          refine .pure _ (s14 a[i].row b[i].row (hr _ (List.getElem_mem h3))) rfl fun q hq _ => ?_
          obtain ⟨e, rfl, he⟩ := hq
          (simp -implicitDefEqProofs only [go_sem, bA]; repeat (refine GO ?_; simp -implicitDefEqProofs only [go_sem, bA]))
          refine VIF.split (fun h6 => ?_) (fun h6 => ?_)
          · have h6 : e = false := by simpa using h6
            (simp -implicitDefEqProofs only [go_sem]; repeat (refine GO ?_; simp -implicitDefEqProofs only [go_sem]))
            refine bad fun e2 => ?_
            rw [e2] at he
            rw [h6] at he
            simp at he
          · have h6 : e = true := by simpa using h6
            (simp -implicitDefEqProofs only [go_sem, w1]; repeat (refine GO ?_; simp -implicitDefEqProofs only [go_sem, w1]))
            refine BACK.mk ⟨i + 1, by omega, fun j g1 g2 hj => ?_⟩ [] rfl rfl (by show a.length - (i + 1) < a.length - i; omega) ?_
            · by_cases e2 : j = i
              · subst e2
                have h7 := he.1 h6
                show a[j] = b[j]
                generalize a[j] = x at h5 h7
                generalize b[j] = y at h5 h7
                obtain ⟨r1, w1⟩ := x; obtain ⟨r2, w2⟩ := y
                simp only at h5 h7
                subst h5; subst h7; rfl
              · exact hg j g1 g2 (by omega)
            · (simp -implicitDefEqProofs only [go_sem, setA, iA, w1]; repeat (refine GO ?_; simp -implicitDefEqProofs only [go_sem, setA, iA, w1]))
              exact id
      · have h3 : i = a.length := by simp at h3; omega
        (simp -implicitDefEqProofs only [go_sem]; repeat (refine GO ?_; simp -implicitDefEqProofs only [go_sem]))
        refine ⟨true, rfl, fun _ => ?_, fun _ => rfl⟩
        exact List.ext_getElem h fun j h1 h2 => hg j h1 h2 (by omega)
theorem cat_append (x y : List (List It)) : cat (x ++ y) = cat x ++ cat y := by
  induction x with
  | nil => rfl
  | cons z x ih => simp only [List.cons_append, cat, ih, List.append_assoc]
theorem cat_take {zs : List (List It)} {i : Nat} (h : i < zs.length) : (cat (zs.take (i + 1))).length = (cat (zs.take i)).length + zs[i].length := by
  rw [List.take_succ_eq_append_getElem h, cat_append]; simp [cat]
theorem cat_le (zs : List (List It)) (i : Nat) : (cat (zs.take i)).length ≤ (cat zs).length := by
  have : cat zs = cat (zs.take i) ++ cat (zs.drop i) := by rw [← cat_append, List.take_append_drop]
  rw [this]; simp
theorem s51 (zs : List (List It)) (hl : zs.length ≤ 1073741824) (hc : (cat zs).length ≤ 1048576) :
    Spec1 Try.prog 94 [setsA zs] (fun r o => r = .rf 0 0 (cat zs).length ∧ o.sz = 2 ∧ o.es.take (cat zs).length = (cat zs).map It.c) := by
  refine spec1_of_vc tabOk elems ord94 Try.func94 rfl (rl := [.tmp 2]) rfl (by kernel_rfl) rfl ?_
  (simp -implicitDefEqProofs only [go_sem, setsA]; repeat (refine GO ?_; simp -implicitDefEqProofs only [go_sem, setsA]))
  refine LOOP.mk (ι := { i : Nat // i ≤ zs.length }) (fun p => mkS [(0, setsA zs), (3, iA (cat (zs.take p.1)).length), (9, setsA zs), (10, iA zs.length), (11, iA p.1)] [] [])
    (fun p => zs.length - p.1) ⟨0, Nat.zero_le _⟩ [] rfl rfl ?_ (fun p => ?_)
  · (simp -implicitDefEqProofs only [go_sem, setsA, iA]; repeat (refine GO ?_; simp -implicitDefEqProofs only [go_sem, setsA, iA]))
    exact ⟨id, rfl, rfl⟩
  · obtain ⟨i, hi⟩ := p
    (simp -implicitDefEqProofs only [go_sem, setsA, iA]; repeat (refine GO ?_; simp -implicitDefEqProofs only [go_sem, setsA, iA]))
    refine VIF.split (fun h => ?_) (fun h => ?_)
    · have h : i < zs.length := by simpa using h
      (simp -implicitDefEqProofs only [go_sem]; repeat (refine GO ?_; simp -implicitDefEqProofs only [go_sem]))
      refine EL.map h ?_
      have hct := cat_take h
      have hcl := cat_le zs (i + 1)
      rw [hct] at hcl
      have w1 : IntKind.i64.wrap (((cat (zs.take i)).length : Int) + (zs[i].length : Int)) = ((cat (zs.take (i + 1))).length : Int) := by
        rw [hct, wrap_i64] <;> omega
      have w2 := wrap_add1 (show i < 4611686018427387904 by omega)
      (simp -implicitDefEqProofs only [go_sem, setA, w1, w2]; repeat (refine GO ?_; simp -implicitDefEqProofs only [go_sem, setA, w1, w2]))
      refine VIF.split (fun h => by simp at h; omega) (fun _ => ?_)
      (simp -implicitDefEqProofs only [go_sem, w1, w2]; repeat (refine GO ?_; simp -implicitDefEqProofs only [go_sem, w1, w2]))
      refine BACK.mk ⟨i + 1, by omega⟩ [] rfl rfl (by show zs.length - (i + 1) < zs.length - i; omega) ?_
      (simp -implicitDefEqProofs only [go_sem, setsA, iA, w1, w2]; repeat (refine GO ?_; simp -implicitDefEqProofs only [go_sem, setsA, iA, w1, w2]))
      exact ⟨id, rfl, rfl⟩
    · have h : i = zs.length := by simp at h; omega
      subst h
      (simp -implicitDefEqProofs only [go_sem, List.take_length]; repeat (refine GO ?_; simp -implicitDefEqProofs only [go_sem, List.take_length]))
      refine .make 24 _ (s65 (cat zs).length (by omega)) rfl (by simp) rfl fun q o hq hlf => ?_
      obtain ⟨rfl, ho⟩ := hq
      (simp -implicitDefEqProofs only [go_sem]; repeat (refine GO ?_; simp -implicitDefEqProofs only [go_sem]))
      refine LOOP.mk (ι := { p : Nat × Ob // p.1 ≤ zs.length ∧ p.2.sz = 2 ∧ p.2.leafy ∧ p.2.es.take (cat (zs.take p.1)).length = (cat (zs.take p.1)).map It.c })
        (fun p => mkS [(6, .rf 1000 0 (cat (zs.take p.1.1)).length), (25, setsA zs), (26, iA zs.length), (27, iA p.1.1)] [(1000, p.1.2)] [1000])
        (fun p => zs.length - p.1.1) ⟨(0, o), Nat.zero_le _, ho, hlf, rfl⟩ [(1000, some 24)] rfl rfl ?_ (fun p => ?_)
      · (simp -implicitDefEqProofs only [go_sem, setsA, iA]; repeat (refine GO ?_; simp -implicitDefEqProofs only [go_sem, setsA, iA]))
        exact ⟨id, ⟨rfl, rfl⟩, .same o _ _ hlf rfl⟩
      · obtain ⟨⟨i, o2⟩, hi, hsz, hlf2, hes⟩ := p
        simp only at hi hsz hlf2 hes
        (simp -implicitDefEqProofs only [go_sem, setsA, iA]; repeat (refine GO ?_; simp -implicitDefEqProofs only [go_sem, setsA, iA]))
        refine VIF.split (fun h => ?_) (fun h => ?_)
        · have h : i < zs.length := by simpa using h
          have hct := cat_take h
          have hcl := cat_le zs (i + 1)
          rw [hct] at hcl
          have w2 := wrap_add1 (show i < 4611686018427387904 by omega)
          (simp -implicitDefEqProofs only [go_sem]; repeat (refine GO ?_; simp -implicitDefEqProofs only [go_sem]))
          refine EL.map h ?_
          (simp -implicitDefEqProofs only [go_sem, setA, w2]; repeat (refine GO ?_; simp -implicitDefEqProofs only [go_sem, setA, w2]))
          refine ⟨⟨hsz, by omega⟩, ?_⟩
          have hlf3 : (Ob.mk 2 (o2.es.take (cat (zs.take i)).length ++ zs[i].map It.c)).leafy := by
            rw [hes, ← List.map_append]; exact so_leafy _
          refine BACK.mk ⟨(i + 1, ⟨2, o2.es.take (cat (zs.take i)).length ++ zs[i].map It.c⟩), by omega, rfl, hlf3, by
            show (o2.es.take (cat (zs.take i)).length ++ zs[i].map It.c).take (cat (zs.take (i + 1))).length = (cat (zs.take (i + 1))).map It.c
            rw [hes, ← List.map_append, List.take_succ_eq_append_getElem h, cat_append]
            simp only [cat, List.append_nil]
            exact List.take_of_length_le (by simp)⟩ [(1000, some 33)] rfl rfl (by show zs.length - (i + 1) < zs.length - i; omega) ?_
          (simp -implicitDefEqProofs only [go_sem, setsA, iA, w2]; repeat (refine GO ?_; simp -implicitDefEqProofs only [go_sem, setsA, iA, w2]))
          refine ⟨id, ⟨by rw [hct], rfl⟩, .same (Ob.mk 2 (o2.es.take (cat (zs.take i)).length ++ zs[i].map It.c)) _ _ hlf3 rfl⟩
        · have h : i = zs.length := by simp at h; omega
          subst h
          rw [List.take_length] at hes
          (simp -implicitDefEqProofs only [go_sem, List.take_length]; repeat (refine GO ?_; simp -implicitDefEqProofs only [go_sem, List.take_length]))
          refine FINmk [(0, some 1000)] [(2, .rf 0 0 (cat zs).length)] [(0, o2)] [0] rfl ?_ ?_
          · (simp -implicitDefEqProofs only [go_sem]; repeat (refine GO ?_; simp -implicitDefEqProofs only [go_sem]))
            exact .same o2 _ _ hlf2 rfl
          · exact ⟨o2, ⟨⟨rfl, hsz, hes⟩, rfl⟩, hlf2, rfl⟩
end Yt
namespace Yt
open Go Go.Vc Go.Proofs
set_option maxRecDepth 10000
set_option maxHeartbeats 4000000
set_option linter.unusedSimpArgs false
set_option linter.unusedVariables false
theorem s49 (v : V) : Spec0 Try.prog 125 [.ag v.c] (· = bA (okV v)) := by
  refine spec0_of_vc tabOk elems ord125 Try.func125 rfl (rl := [.tmp 2]) rfl (by kernel_rfl) rfl ?_
  (simp -implicitDefEqProofs only [go_sem, V.c]; repeat (refine GO ?_; simp -implicitDefEqProofs only [go_sem, V.c]))
  iterate 9 all_goals (first
    | (refine VIF.split (fun h => ?_) (fun h => ?_) <;> (simp -implicitDefEqProofs only [go_sem]; repeat (refine GO ?_; simp -implicitDefEqProofs only [go_sem])))
    | (refine .pure _ (s64 v.i 0 1) rfl fun r hr _ => ?_
       subst hr
       (simp -implicitDefEqProofs only [go_sem, bA]; repeat (refine GO ?_; simp -implicitDefEqProofs only [go_sem, bA])))
    | (refine .pure _ (s64 v.i (-1152921504606846976) 1152921504606846976) rfl fun r hr _ => ?_
       subst hr
       (simp -implicitDefEqProofs only [go_sem, bA]; repeat (refine GO ?_; simp -implicitDefEqProofs only [go_sem, bA])))
    | skip)
  all_goals simp_all [okV, inB, iA, bA, noS]
  all_goals (first | rfl | (intros; omega))
theorem s17 (a : List V) (ha : a.length < 4611686018427387904) : Spec0 Try.prog 86 [rowA a] (· = iA (okR a)) := by
  refine spec0_of_vc tabOk elems ord86 Try.func86 rfl (rl := [.tmp 2]) rfl (by kernel_rfl) rfl ?_
  (simp -implicitDefEqProofs only [go_sem, rowA]; repeat (refine GO ?_; simp -implicitDefEqProofs only [go_sem, rowA]))
  refine VIF.split (fun h => ?_) (fun h => ?_)
  · (simp -implicitDefEqProofs only [go_sem]; repeat (refine GO ?_; simp -implicitDefEqProofs only [go_sem]))
    have h : 12 < a.length := by simp at h; omega
    simp [okR, h, iA]
  · have h12 : ¬ 12 < a.length := by simp at h; omega
    (simp -implicitDefEqProofs only [go_sem]; repeat (refine GO ?_; simp -implicitDefEqProofs only [go_sem]))
    refine LOOP.mk (ι := { i : Nat // i ≤ a.length ∧ ∀ j (hj : j < a.length), j < i → okV a[j] = true }) (fun i => mkS [(0, rowA a), (3, iA i.1)] [] []) (fun i => a.length - i.1)
      ⟨0, by simp⟩ [] rfl rfl ?_ (fun i => ?_)
    · (simp -implicitDefEqProofs only [go_sem, rowA, iA]; repeat (refine GO ?_; simp -implicitDefEqProofs only [go_sem, rowA, iA]))
      exact ⟨id, rfl⟩
    · obtain ⟨i, hi, hz⟩ := i
      (simp -implicitDefEqProofs only [go_sem, rowA, iA]; repeat (refine GO ?_; simp -implicitDefEqProofs only [go_sem, rowA, iA]))
      refine VIF.split (fun h => ?_) (fun h => ?_)
      · have hi' : i < a.length := by simpa using h
        have w1 := wrap_add1 (show i < 4611686018427387904 by omega)
        (simp -implicitDefEqProofs only [go_sem]; repeat (refine GO ?_; simp -implicitDefEqProofs only [go_sem]))
        refine EL.map hi' ?_
        (simp -implicitDefEqProofs only [go_sem, V.c]; repeat (refine GO ?_; simp -implicitDefEqProofs only [go_sem, V.c]))
        refine .pure _ (s49 a[i]) rfl fun r hr _ => ?_
        subst hr
        (simp -implicitDefEqProofs only [go_sem, bA]; repeat (refine GO ?_; simp -implicitDefEqProofs only [go_sem, bA]))
        refine VIF.split (fun e => ?_) (fun e => ?_)
        · have e : okV a[i] = false := by simpa using e
          (simp -implicitDefEqProofs only [go_sem]; repeat (refine GO ?_; simp -implicitDefEqProofs only [go_sem]))
          have : a.all okV = false := by
            rw [List.all_eq_false]; exact ⟨_, List.getElem_mem hi', by simp [e]⟩
          simp [okR, h12, this, iA]
        · have e : okV a[i] = true := by simpa using e
          (simp -implicitDefEqProofs only [go_sem, w1]; repeat (refine GO ?_; simp -implicitDefEqProofs only [go_sem, w1]))
          refine BACK.mk ⟨i + 1, by omega, fun j hj hji => ?_⟩ [] rfl rfl (by show a.length - (i + 1) < a.length - i; omega) ?_
          · by_cases e2 : j = i
            · subst e2; exact e
            · exact hz j hj (by omega)
          · (simp -implicitDefEqProofs only [go_sem, rowA, iA, w1]; repeat (refine GO ?_; simp -implicitDefEqProofs only [go_sem, rowA, iA, w1]))
            exact id
      · have h : i = a.length := by simp at h; omega
        (simp -implicitDefEqProofs only [go_sem]; repeat (refine GO ?_; simp -implicitDefEqProofs only [go_sem]))
        have : a.all okV = true := by
          rw [List.all_eq_true]; intro x hx
          obtain ⟨j, hj, rfl⟩ := List.mem_iff_getElem.1 hx
          exact hz j hj (by omega)
        simp [okR, h12, this, iA]
def rowsA (l : List (List V)) : AV := .im 1 (l.map fun r => [rowA r])
def oneI (r : List V) : It := ⟨r, 1⟩
end Yt
namespace Yt
open Go Go.Vc Go.Proofs
set_option maxRecDepth 10000
set_option maxHeartbeats 4000000
set_option linter.unusedSimpArgs false
set_option linter.unusedVariables false
theorem s67 (b : Bool) : Spec0 Try.prog 111 [bA b] (· = iA (if b then -1 else 1)) := by
  refine spec0_of_vc tabOk elems ord111 Try.func111 rfl (rl := [.tmp 2]) rfl (by kernel_rfl) rfl ?_
  (simp -implicitDefEqProofs only [go_sem, bA]; repeat (refine GO ?_; simp -implicitDefEqProofs only [go_sem, bA]))
  refine VIF.split (fun h => ?_) (fun h => ?_)
  · subst h; (simp -implicitDefEqProofs only [go_sem]; repeat (refine GO ?_; simp -implicitDefEqProofs only [go_sem])); rfl
  · subst h; (simp -implicitDefEqProofs only [go_sem]; repeat (refine GO ?_; simp -implicitDefEqProofs only [go_sem])); rfl
theorem s66 (a b : V) : Spec0 Try.prog 68 [.ag a.c, .ag b.c] (· = iA (cmpV a b)) := by
  refine spec0_of_vc tabOk elems ord68 Try.func68 rfl (rl := [.tmp 4]) rfl (by kernel_rfl) rfl ?_
  (simp -implicitDefEqProofs only [go_sem, V.c]; repeat (refine GO ?_; simp -implicitDefEqProofs only [go_sem, V.c]))
  refine VIF.split (fun h => ?_) (fun h => ?_)
  · (simp -implicitDefEqProofs only [go_sem]; repeat (refine GO ?_; simp -implicitDefEqProofs only [go_sem]))
    refine .pure _ (s67 _) rfl fun q hq _ => ?_
    subst hq
    (simp -implicitDefEqProofs only [go_sem, iA]; repeat (refine GO ?_; simp -implicitDefEqProofs only [go_sem, iA]))
    have h : a.k ≠ b.k := by simpa using h
    by_cases h2 : a.k < b.k
    · simp [cmpV, nz, cmpI, h2]
    · have h3 : b.k < a.k := by omega
      simp [cmpV, nz, cmpI, h2, h3]
  · have h : a.k = b.k := by simpa using h
    (simp -implicitDefEqProofs only [go_sem]; repeat (refine GO ?_; simp -implicitDefEqProofs only [go_sem]))
    refine VIF.split (fun h2 => ?_) (fun h2 => ?_)
    · (simp -implicitDefEqProofs only [go_sem]; repeat (refine GO ?_; simp -implicitDefEqProofs only [go_sem]))
      refine .pure _ (s67 _) rfl fun q hq _ => ?_
      subst hq
      (simp -implicitDefEqProofs only [go_sem, iA]; repeat (refine GO ?_; simp -implicitDefEqProofs only [go_sem, iA]))
      have h2 : a.i ≠ b.i := by simpa using h2
      by_cases h3 : a.i < b.i
      · simp [cmpV, nz, cmpI, h, h3]
      · have h4 : b.i < a.i := by omega
        simp [cmpV, nz, cmpI, h, h3, h4]
    · have h2 : a.i = b.i := by simpa using h2
      (simp -implicitDefEqProofs only [go_sem]; repeat (refine GO ?_; simp -implicitDefEqProofs only [go_sem]))
      refine VIF.split (fun h3 => ?_) (fun h3 => ?_)
      · (simp -implicitDefEqProofs only [go_sem]; repeat (refine GO ?_; simp -implicitDefEqProofs only [go_sem]))
        refine .pure _ (s67 _) rfl fun q hq _ => ?_
        subst hq
        (simp -implicitDefEqProofs only [go_sem, iA]; repeat (refine GO ?_; simp -implicitDefEqProofs only [go_sem, iA]))
        have h3 : a.s ≠ b.s := by simpa using h3
        by_cases h4 : Op.bytesLess a.s.toList b.s.toList = true
        · simp [cmpV, nz, cmpI, cmpS, h, h2, h4]
        · simp [cmpV, nz, cmpI, cmpS, h, h2, h4, h3]
      · have h3 : a.s = b.s := by simpa using h3
        (simp -implicitDefEqProofs only [go_sem]; repeat (refine GO ?_; simp -implicitDefEqProofs only [go_sem]))
        have h5 := lin_cmpS.self b.s
        simp [iA, cmpV, nz, cmpI, h, h2, h3, h5]
theorem cmpR_step (a b : List V) (i : Nat) (ha : i < a.length) (hb : i < b.length) : cmpR (a.drop i) (b.drop i) = if cmpV a[i] b[i] = 0 then cmpR (a.drop (i + 1)) (b.drop (i + 1)) else cmpV a[i] b[i] := by
  rw [List.drop_eq_getElem_cons ha, List.drop_eq_getElem_cons hb]; rfl
theorem s55 (a b : List V) (ha : a.length < 4611686018427387904) (hb : b.length < 4611686018427387904) : Spec0 Try.prog 88 [rowA a, rowA b] (· = iA (cmpR a b)) := by
  refine spec0_of_vc tabOk elems ord88 Try.func88 rfl (rl := [.tmp 4]) rfl (by kernel_rfl) rfl ?_
  (simp -implicitDefEqProofs only [go_sem, rowA]; repeat (refine GO ?_; simp -implicitDefEqProofs only [go_sem, rowA]))
  refine LOOP.join (ι := { u : Unit // cmpR a b = if a.length = b.length then 0 else if a.length < b.length then -1 else 1 }) (fun _ => mkS [(0, rowA a), (1, rowA b)] [] []) ?_ (fun u => ?_)
  · refine LOOP.mk (ι := { i : Nat // i ≤ a.length ∧ i ≤ b.length ∧ cmpR a b = cmpR (a.drop i) (b.drop i) }) (fun p => mkS [(0, rowA a), (1, rowA b), (5, iA p.1)] [] [])
      (fun p => a.length - p.1) ⟨0, Nat.zero_le _, Nat.zero_le _, rfl⟩ [] rfl rfl ?_ (fun p => ?_)
    · (simp -implicitDefEqProofs only [go_sem, rowA, iA]; repeat (refine GO ?_; simp -implicitDefEqProofs only [go_sem, rowA, iA]))
      exact ⟨id, rfl⟩
    · obtain ⟨i, hi, hi2, he⟩ := p
      have w3 := wrap_add1 (show i < 4611686018427387904 by omega)
      (simp -implicitDefEqProofs only [go_sem, rowA, iA]; repeat (refine GO ?_; simp -implicitDefEqProofs only [go_sem, rowA, iA]))
      refine VIF.split (fun h => ?_) (fun h => ?_)
      · have h : i < a.length := by simpa using h
        (simp -implicitDefEqProofs only [go_sem]; repeat (refine GO ?_; simp -implicitDefEqProofs only [go_sem]))
        refine VIF.split (fun h2 => ?_) (fun h2 => ?_)
        · have h2 : i < b.length := by simpa using h2
          have hst := cmpR_step a b i h h2
          (simp -implicitDefEqProofs only [go_sem]; repeat (refine GO ?_; simp -implicitDefEqProofs only [go_sem]))
          refine EL.map h ?_
          (simp -implicitDefEqProofs only [go_sem, V.c]; repeat (refine GO ?_; simp -implicitDefEqProofs only [go_sem, V.c]))
          refine EL.map h2 ?_
          (simp -implicitDefEqProofs only [go_sem, V.c]; repeat (refine GO ?_; simp -implicitDefEqProofs only [go_sem, V.c]))
          refine .pure _ (s66 a[i] b[i]) rfl fun q hq _ => ?_
          subst hq
          (simp -implicitDefEqProofs only [go_sem, iA]; repeat (refine GO ?_; simp -implicitDefEqProofs only [go_sem, iA]))
          refine VIF.split (fun h3 => ?_) (fun h3 => ?_)
          · have h3 : cmpV a[i] b[i] ≠ 0 := by simpa using h3
            (simp -implicitDefEqProofs only [go_sem]; repeat (refine GO ?_; simp -implicitDefEqProofs only [go_sem]))
            rw [he, hst, if_neg h3]; rfl
          · have h3 : cmpV a[i] b[i] = 0 := by simpa using h3
            rw [if_pos h3] at hst
            (simp -implicitDefEqProofs only [go_sem, w3]; repeat (refine GO ?_; simp -implicitDefEqProofs only [go_sem, w3]))
            refine BACK.mk ⟨i + 1, by omega, by omega, he.trans hst⟩ [] rfl rfl (by show a.length - (i + 1) < a.length - i; omega) ?_
            (simp -implicitDefEqProofs only [go_sem, rowA, iA, w3]; repeat (refine GO ?_; simp -implicitDefEqProofs only [go_sem, rowA, iA, w3]))
            exact id
        · have h2 : i = b.length := by simp at h2; omega
          (simp -implicitDefEqProofs only [go_sem]; repeat (refine GO ?_; simp -implicitDefEqProofs only [go_sem]))
          refine JB.mk ⟨(), ?_⟩ [] rfl rfl ?_
          · rw [he, h2, List.drop_length, List.drop_eq_getElem_cons (by omega), if_neg (by omega), if_neg (by omega)]; rfl
          · (simp -implicitDefEqProofs only [go_sem, rowA]; repeat (refine GO ?_; simp -implicitDefEqProofs only [go_sem, rowA]))
            exact id
      · have h : i = a.length := by simp at h; omega
        (simp -implicitDefEqProofs only [go_sem]; repeat (refine GO ?_; simp -implicitDefEqProofs only [go_sem]))
        refine JB.mk ⟨(), ?_⟩ [] rfl rfl ?_
        · rw [he, h, List.drop_length]
          by_cases h2 : a.length = b.length
          · rw [if_pos h2, h2, List.drop_length]; rfl
          · rw [if_neg h2, List.drop_eq_getElem_cons (by omega), if_pos (by omega)]; rfl
        · (simp -implicitDefEqProofs only [go_sem, rowA]; repeat (refine GO ?_; simp -implicitDefEqProofs only [go_sem, rowA]))
          exact id
  · obtain ⟨u, he⟩ := u
    (simp -implicitDefEqProofs only [go_sem, rowA]; repeat (refine GO ?_; simp -implicitDefEqProofs only [go_sem, rowA]))
    refine VIF.split (fun h => ?_) (fun h => ?_)
    · have h : a.length ≠ b.length := by simp at h; omega
      (simp -implicitDefEqProofs only [go_sem]; repeat (refine GO ?_; simp -implicitDefEqProofs only [go_sem]))
      refine .pure _ (s67 _) rfl fun q hq _ => ?_
      subst hq
      (simp -implicitDefEqProofs only [go_sem, iA]; repeat (refine GO ?_; simp -implicitDefEqProofs only [go_sem, iA]))
      rw [he, if_neg h]
      simp
    · have h : a.length = b.length := by simp at h; omega
      (simp -implicitDefEqProofs only [go_sem]; repeat (refine GO ?_; simp -implicitDefEqProofs only [go_sem]))
      rw [he, if_pos h]; rfl
theorem s52 (a : List V) (hl : a.length ≤ 1073741824) : Spec1 Try.prog 45 [rowA a] (fun r o => r = .rf 0 0 a.length ∧ o = ro3 a) := by
  refine spec1_of_vc tabOk elems ord45 Try.func45 rfl (rl := [.tmp 2]) rfl (by kernel_rfl) rfl ?_
  (simp -implicitDefEqProofs only [go_sem, rowA]; repeat (refine GO ?_; simp -implicitDefEqProofs only [go_sem, rowA]))
  refine ⟨by omega, ?_⟩
  refine FINmk [(0, some 6)] [(2, .rf 0 0 a.length)] [(0, ro3 a)] [0] rfl ?_ ?_
  · (simp -implicitDefEqProofs only [go_sem, ro3]; repeat (refine GO ?_; simp -implicitDefEqProofs only [go_sem, ro3]))
    exact .same (ro3 a) _ _ (ro3_leafy a) rfl
  · exact ⟨ro3 a, ⟨⟨rfl, rfl⟩, rfl⟩, ro3_leafy a, rfl⟩
theorem s30 (z : List It) (hl : z.length < 4611686018427387904) (hr : ∀ t ∈ z, t.row.length < 4611686018427387904) :
    Spec0 Try.prog 34 [setA z] (fun r => ∃ e : Bool, r = bA e ∧ (e = true ↔ Good z)) := by
  refine spec0_of_vc tabOk elems ord34 Try.func34 rfl (rl := [.tmp 2]) rfl (by kernel_rfl) rfl ?_
  (simp -implicitDefEqProofs only [go_sem, setA]; repeat (refine GO ?_; simp -implicitDefEqProofs only [go_sem, setA]))
  refine LOOP.mk (ι := { i : Nat // i ≤ z.length ∧ ∀ j (h : j < z.length), j < i → Goo z j h }) (fun p => mkS [(0, .im 2 (z.map It.c)), (3, iA p.1)] [] [])
    (fun p => z.length - p.1) ⟨0, Nat.zero_le _, fun j _ h => absurd h (Nat.not_lt_zero _)⟩ [] rfl rfl ?_ (fun p => ?_)
  · (simp -implicitDefEqProofs only [go_sem, iA]; repeat (refine GO ?_; simp -implicitDefEqProofs only [go_sem, iA]))
    exact ⟨id, rfl⟩
  · obtain ⟨i, hi, hg⟩ := p
    (simp -implicitDefEqProofs only [go_sem, iA]; repeat (refine GO ?_; simp -implicitDefEqProofs only [go_sem, iA]))
    refine VIF.split (fun h => ?_) (fun h => ?_)
    · have h : i < z.length := by simpa using h
      have bad : ¬ Goo z i h → ∃ e : Bool, AV.pr (Value.bool false) = bA e ∧ (e = true ↔ Good z) := fun hn =>
        ⟨false, rfl, fun h => absurd h (by decide), fun g => absurd (g i h) hn⟩
      have w3 := wrap_add1 (show i < 4611686018427387904 by omega)
      (simp -implicitDefEqProofs only [go_sem]; repeat (refine GO ?_; simp -implicitDefEqProofs only [go_sem]))
      refine EL.map h ?_
      (simp -implicitDefEqProofs only [go_sem, It.c]; repeat (refine GO ?_; simp -implicitDefEqProofs only [go_sem, It.c]))
      refine .pure _ (s17 z[i].row (hr _ (List.getElem_mem h))) rfl fun r hr' _ => ?_
      subst hr'
      (simp -implicitDefEqProofs only [go_sem, iA]; repeat (refine GO ?_; simp -implicitDefEqProofs only [go_sem, iA]))
      refine VIF.split (fun h1 => ?_) (fun h1 => ?_)
      · have h1 : okR z[i].row ≠ 0 := by simpa using h1
        (simp -implicitDefEqProofs only [go_sem]; repeat (refine GO ?_; simp -implicitDefEqProofs only [go_sem]))
        exact bad fun g => h1 (by have := g.ok; simp [okI] at this; exact this.1)
      · have h1 : okR z[i].row = 0 := by simpa using h1
        (simp -implicitDefEqProofs only [go_sem]; repeat (refine GO ?_; simp -implicitDefEqProofs only [go_sem]))
        refine EL.map h ?_
        (simp -implicitDefEqProofs only [go_sem, It.c, iA]; repeat (refine GO ?_; simp -implicitDefEqProofs only [go_sem, It.c, iA]))
        refine VIF.split (fun h2 => ?_) (fun h2 => ?_)
        · have h2 : z[i].w = 0 := by simpa using h2
          (simp -implicitDefEqProofs only [go_sem]; repeat (refine GO ?_; simp -implicitDefEqProofs only [go_sem]))
          exact bad fun g => g.nz h2
        · have h2 : z[i].w ≠ 0 := by simpa using h2
          (simp -implicitDefEqProofs only [go_sem]; repeat (refine GO ?_; simp -implicitDefEqProofs only [go_sem]))
          refine EL.map h ?_
          (simp -implicitDefEqProofs only [go_sem, It.c, iA]; repeat (refine GO ?_; simp -implicitDefEqProofs only [go_sem, It.c, iA]))
          refine .pure _ (s53 z[i].w (-72057594037927936) 72057594037927936) rfl fun r hr' _ => ?_
          subst hr'
          (simp -implicitDefEqProofs only [go_sem, bA]; repeat (refine GO ?_; simp -implicitDefEqProofs only [go_sem, bA]))
          refine VIF.split (fun h3 => ?_) (fun h3 => ?_)
          · have h3 : okW z[i].w = false := by simpa [okW] using h3
            (simp -implicitDefEqProofs only [go_sem]; repeat (refine GO ?_; simp -implicitDefEqProofs only [go_sem]))
            exact bad fun g => by have := g.ok; simp [okI, h3] at this
          · have h3 : okW z[i].w = true := by simpa [okW] using h3
            have hok : okI z[i] = true := by simp [okI, h1, h3]
            (simp -implicitDefEqProofs only [go_sem]; repeat (refine GO ?_; simp -implicitDefEqProofs only [go_sem]))
            refine VIF.split (fun h4 => ?_) (fun h4 => ?_)
            · have h4 : 0 < i := by simp at h4; omega
              have w1 := wrap_sub1 (show 1 ≤ i from h4) (by omega)
              (simp -implicitDefEqProofs only [go_sem, w1]; repeat (refine GO ?_; simp -implicitDefEqProofs only [go_sem, w1]))
              refine EL.map (show i - 1 < z.length by omega) ?_
              (simp -implicitDefEqProofs only [go_sem, It.c]; repeat (refine GO ?_; simp -implicitDefEqProofs only [go_sem, It.c]))
              refine EL.map h ?_
              (simp -implicitDefEqProofs only [go_sem, It.c]; repeat (refine GO ?_; simp -implicitDefEqProofs only [go_sem, It.c]))
              refine .pure _ (s55 z[i - 1].row z[i].row (hr _ (List.getElem_mem _)) (hr _ (List.getElem_mem _))) rfl fun r hr' _ => ?_
              subst hr'
              (simp -implicitDefEqProofs only [go_sem, iA]; repeat (refine GO ?_; simp -implicitDefEqProofs only [go_sem, iA]))
              refine VIF.split (fun h5 => ?_) (fun h5 => ?_)
              · have h5 : 0 ≤ cI z[i - 1] z[i] := by simpa [cI] using h5
                (simp -implicitDefEqProofs only [go_sem]; repeat (refine GO ?_; simp -implicitDefEqProofs only [go_sem]))
                exact bad fun g => by have := g.up h4; omega
              · have h5 : cI z[i - 1] z[i] < 0 := by simpa [cI] using h5
                (simp -implicitDefEqProofs only [go_sem, w3]; repeat (refine GO ?_; simp -implicitDefEqProofs only [go_sem, w3]))
                refine BACK.mk ⟨i + 1, by omega, fun j hj hji => ?_⟩ [] rfl rfl (by show z.length - (i + 1) < z.length - i; omega) ?_
                · by_cases e : j = i
                  · subst e; exact ⟨hok, h2, fun _ => h5⟩
                  · exact hg j hj (by omega)
                · (simp -implicitDefEqProofs only [go_sem, iA, w3]; repeat (refine GO ?_; simp -implicitDefEqProofs only [go_sem, iA, w3]))
                  exact id
            · have h4 : i = 0 := by simp at h4; omega
              (simp -implicitDefEqProofs only [go_sem, w3]; repeat (refine GO ?_; simp -implicitDefEqProofs only [go_sem, w3]))
              refine BACK.mk ⟨i + 1, by omega, fun j hj hji => ?_⟩ [] rfl rfl (by show z.length - (i + 1) < z.length - i; omega) ?_
              · have e : j = i := by omega
                subst e; exact ⟨hok, h2, fun h0 => absurd h0 (by omega)⟩
              · (simp -implicitDefEqProofs only [go_sem, iA, w3]; repeat (refine GO ?_; simp -implicitDefEqProofs only [go_sem, iA, w3]))
                exact id
    · have h : i = z.length := by simp at h; omega
      (simp -implicitDefEqProofs only [go_sem]; repeat (refine GO ?_; simp -implicitDefEqProofs only [go_sem]))
      exact ⟨true, rfl, fun _ j hj => hg j hj (by omega), fun _ => rfl⟩
end Yt
namespace Yt
open Go Go.Vc Go.Proofs
set_option maxRecDepth 10000
set_option maxHeartbeats 4000000
set_option linter.unusedSimpArgs false
set_option linter.unusedVariables false
/-- In order. -/
def Srt (z : List It) : Prop := z.Pairwise fun a b => cI a b ≤ 0
theorem Srt.sr {z : List It} (h : Srt z) : SR cI z 0 z.length := by
  intro i j _ hij hj u v hu hv
  have hi : i < z.length := by omega
  rw [List.getElem?_eq_getElem hi] at hu
  rw [List.getElem?_eq_getElem hj] at hv
  cases hu; cases hv
  exact List.pairwise_iff_getElem.1 h i j hi hj hij
theorem cI_le_trans {a b c : It} (h : cI a b ≤ 0) (g : cI b c ≤ 0) : cI a c ≤ 0 := cmp_cI.trans _ _ _ h g
theorem cI_tot {a b : It} (h : ¬ cI a b ≤ 0) : cI b a ≤ 0 := by
  have := cI_neg a b
  omega
/-- What is merged so far, and what is left on both sides. -/
structure Mg (z o a b : List It) : Prop where
  perm : (o ++ a ++ b).Perm z
  so : Srt o
  sa : Srt a
  sb : Srt b
  la : ∀ x ∈ o, ∀ y ∈ a, cI x y ≤ 0
  lb : ∀ x ∈ o, ∀ y ∈ b, cI x y ≤ 0
theorem Mg.left {z o b : List It} {x : It} {a : List It} (h : Mg z o (x :: a) b) (hb : ∀ y ∈ b, cI x y ≤ 0) : Mg z (o ++ [x]) a b := by
  obtain ⟨h1, h2, h3, h4, h5, h6⟩ := h
  have h3 := List.pairwise_cons.1 h3
  refine ⟨by simpa using h1, ?_, h3.2, h4, ?_, ?_⟩
  · refine List.pairwise_append.2 ⟨h2, List.pairwise_singleton _ _, fun u hu v hv => ?_⟩
    rw [List.mem_singleton] at hv; subst hv
    exact h5 u hu v (by simp)
  · intro u hu v hv
    rcases List.mem_append.1 hu with hu | hu
    · exact h5 u hu v (by simp [hv])
    · rw [List.mem_singleton] at hu; subst hu; exact h3.1 v hv
  · intro u hu v hv
    rcases List.mem_append.1 hu with hu | hu
    · exact h6 u hu v hv
    · rw [List.mem_singleton] at hu; subst hu; exact hb v hv
theorem Mg.swap {z o a b : List It} (h : Mg z o a b) : Mg z o b a := by
  obtain ⟨h1, h2, h3, h4, h5, h6⟩ := h
  refine ⟨List.Perm.trans ?_ h1, h2, h4, h3, h6, h5⟩
  rw [List.append_assoc, List.append_assoc]
  exact List.Perm.append_left o List.perm_append_comm
theorem Mg.done {z o a b : List It} (h : Mg z o a b) (hn : a = [] ∨ b = []) : (o ++ a ++ b).Perm z ∧ Srt (o ++ a ++ b) := by
  obtain ⟨h1, h2, h3, h4, h5, h6⟩ := h
  refine ⟨h1, ?_⟩
  refine List.pairwise_append.2 ⟨List.pairwise_append.2 ⟨h2, h3, h5⟩, h4, fun u hu v hv => ?_⟩
  rcases hn with rfl | rfl
  · rw [List.append_nil] at hu; exact h6 u hu v hv
  · cases hv
theorem s54 : ∀ (n : Nat) (z : List It), z.length ≤ n → z.length ≤ 1048576 → (∀ t ∈ z, t.row.length < 4611686018427387904) → Spec0 Try.prog 112 [setA z] (fun r => ∃ y, r = setA y ∧ y.Perm z ∧ Srt y) := by
  intro n
  induction n with
  | zero =>
    intro z hz hl hr
    have : z = [] := List.eq_nil_of_length_eq_zero (by omega)
    subst this
    refine spec0_of_vc tabOk elems ord112 Try.func112 rfl (rl := [.tmp 2]) rfl (by kernel_rfl) rfl ?_
    (simp -implicitDefEqProofs only [go_sem, setA]; repeat (refine GO ?_; simp -implicitDefEqProofs only [go_sem, setA]))
    refine VIF.split (fun _ => ?_) (fun h => absurd h (by decide))
    (simp -implicitDefEqProofs only [go_sem, setA]; repeat (refine GO ?_; simp -implicitDefEqProofs only [go_sem, setA]))
    exact ⟨[], rfl, .refl _, .nil⟩
  | succ n ih =>
    intro z hz hl hr
    refine spec0_of_vc tabOk elems ord112 Try.func112 rfl (rl := [.tmp 2]) rfl (by kernel_rfl) rfl ?_
    (simp -implicitDefEqProofs only [go_sem, setA]; repeat (refine GO ?_; simp -implicitDefEqProofs only [go_sem, setA]))
    refine VIF.split (fun h => ?_) (fun h => ?_)
    · have h : z.length < 2 := by simp at h; omega
      (simp -implicitDefEqProofs only [go_sem, setA]; repeat (refine GO ?_; simp -implicitDefEqProofs only [go_sem, setA]))
      refine ⟨z, rfl, .refl _, ?_⟩
      match z, h with
      | [], _ => exact .nil
      | [x], _ => exact List.pairwise_singleton _ _
    · have h : 2 ≤ z.length := by simp at h; omega
      have w1 : (z.length : Int).tdiv 2 = ((z.length / 2 : Nat) : Int) := by
        rw [Int.tdiv_eq_ediv_of_nonneg (by omega)]; rfl
      have w2 : IntKind.i64.wrap ((z.length / 2 : Nat) : Int) = ((z.length / 2 : Nat) : Int) := by rw [wrap_i64] <;> omega
      have i0 : Int.toNat 0 = 0 := rfl
      have m1 : (z.map It.c).take (z.length / 2) = (z.take (z.length / 2)).map It.c := List.map_take.symm
      have m2 : ((z.map It.c).take z.length).drop (z.length / 2) = (z.drop (z.length / 2)).map It.c := by
        rw [List.take_of_length_le (by simp), List.map_drop]
      (simp -implicitDefEqProofs only [go_sem, w1, w2, i0, m1, m2]; repeat (refine GO ?_; simp -implicitDefEqProofs only [go_sem, w1, w2, i0, m1, m2]))
      refine ⟨by decide, by omega, by decide, by omega, ?_⟩
      refine .pure _ (ih (z.take (z.length / 2)) (by rw [List.length_take]; omega) (by rw [List.length_take]; omega) (fun t ht => hr t (List.mem_of_mem_take ht))) rfl fun q hq _ => ?_
      obtain ⟨a, rfl, pa, sa⟩ := hq
      (simp -implicitDefEqProofs only [go_sem, w1, w2, i0, m1, m2]; repeat (refine GO ?_; simp -implicitDefEqProofs only [go_sem, w1, w2, i0, m1, m2]))
      refine .pure _ (ih (z.drop (z.length / 2)) (by rw [List.length_drop]; omega) (by rw [List.length_drop]; omega) (fun t ht => hr t (List.mem_of_mem_drop ht))) rfl fun q hq _ => ?_
      obtain ⟨b, rfl, pb, sb⟩ := hq
      have start : Mg z [] a b := ⟨by
        rw [List.nil_append]
        exact (pa.append pb).trans (by rw [List.take_append_drop]), .nil, sa, sb, by simp, by simp⟩
      (simp -implicitDefEqProofs only [go_sem]; repeat (refine GO ?_; simp -implicitDefEqProofs only [go_sem]))
      refine LOOP.join (ι := { p : List It × List It × List It // Mg z p.1 p.2.1 p.2.2 ∧ (p.2.1 = [] ∨ p.2.2 = []) }) (fun p => mkS [(3, setA p.1.2.1), (4, setA p.1.2.2), (5, .rf 1000 0 p.1.1.length)] [(1000, so p.1.1)] [1000]) ?_ (fun p => ?_)
      · refine LOOP.mk (ι := { p : List It × List It × List It // Mg z p.1 p.2.1 p.2.2 }) (fun p => mkS [(3, setA p.1.2.1), (4, setA p.1.2.2), (5, .rf 1000 0 p.1.1.length)] [(1000, so p.1.1)] [1000])
          (fun p => p.1.2.1.length + p.1.2.2.length) ⟨([], a, b), start⟩ [(1000, none)] rfl rfl ?_ (fun p => ?_)
        · (simp -implicitDefEqProofs only [go_sem, so, setA]; repeat (refine GO ?_; simp -implicitDefEqProofs only [go_sem, so, setA]))
          exact ⟨id, rfl⟩
        · obtain ⟨⟨o, a, b⟩, mg⟩ := p
          simp only at mg
          have hlen : o.length + a.length + b.length = z.length := by have := mg.perm.length_eq; simp only [List.length_append] at this; exact this
          have hra : ∀ t ∈ a, t.row.length < 4611686018427387904 := fun t ht => hr t (mg.perm.mem_iff.1 (by simp [ht]))
          have hrb : ∀ t ∈ b, t.row.length < 4611686018427387904 := fun t ht => hr t (mg.perm.mem_iff.1 (by simp [ht]))
          (simp -implicitDefEqProofs only [go_sem, so, setA]; repeat (refine GO ?_; simp -implicitDefEqProofs only [go_sem, so, setA]))
          refine VIF.split (fun h1 => ?_) (fun h1 => ?_)
          · (simp -implicitDefEqProofs only [go_sem]; repeat (refine GO ?_; simp -implicitDefEqProofs only [go_sem]))
            refine VIF.split (fun h2 => ?_) (fun h2 => ?_)
            · match a, b, mg, hra, hrb, hlen, h1, h2 with
              | [], _, _, _, _, _, h1, _ => simp at h1
              | _ :: _, [], _, _, _, _, _, h2 => simp at h2
              | x :: a, y :: b, mg, hra, hrb, hlen, _, _ =>
                simp only [List.length_cons] at hlen
                (simp -implicitDefEqProofs only [go_sem]; repeat (refine GO ?_; simp -implicitDefEqProofs only [go_sem]))
                refine ⟨by omega, EL.map (show Int.toNat 0 < (x :: a).length by simp) ?_⟩
                (simp -implicitDefEqProofs only [go_sem, It.c]; repeat (refine GO ?_; simp -implicitDefEqProofs only [go_sem, It.c]))
                refine ⟨by omega, EL.map (show Int.toNat 0 < (y :: b).length by simp) ?_⟩
                (simp -implicitDefEqProofs only [go_sem, It.c]; repeat (refine GO ?_; simp -implicitDefEqProofs only [go_sem, It.c]))
                refine .pure _ (s55 x.row y.row (hra x (by simp)) (hrb y (by simp))) rfl fun q hq _ => ?_
                subst hq
                (simp -implicitDefEqProofs only [go_sem, iA]; repeat (refine GO ?_; simp -implicitDefEqProofs only [go_sem, iA]))
                refine VIF.split (fun h3 => ?_) (fun h3 => ?_)
                · have h3 : cI x y ≤ 0 := by simpa [cI] using h3
                  have mg2 := mg.left fun v hv => by
                    rcases List.mem_cons.1 hv with rfl | hv
                    · exact h3
                    · exact cI_le_trans h3 ((List.pairwise_cons.1 mg.sb).1 v hv)
                  (simp -implicitDefEqProofs only [go_sem]; repeat (refine GO ?_; simp -implicitDefEqProofs only [go_sem]))
                  refine ⟨by omega, EL.map (show Int.toNat 0 < (x :: a).length by simp) ?_⟩
                  (simp -implicitDefEqProofs only [go_sem, It.c]; repeat (refine GO ?_; simp -implicitDefEqProofs only [go_sem, It.c]))
                  refine ⟨by omega, by omega, ?_⟩
                  have e1 : (List.map It.c o).take o.length ++ [It.c x] = List.map It.c (o ++ [x]) := by
                    rw [List.take_of_length_le (by simp), List.map_append]; rfl
                  have e2 : List.drop 1 (List.take (a.length + 1) (List.map It.c (x :: a))) = List.map It.c a := by
                    rw [List.take_of_length_le (by simp)]; rfl
                  refine BACK.mk ⟨(o ++ [x], a, y :: b), mg2⟩ [(1000, some 45)] rfl rfl (by show a.length + (y :: b).length < (x :: a).length + (y :: b).length; simp) ?_
                  (simp -implicitDefEqProofs only [go_sem, so, setA]; repeat (refine GO ?_; simp -implicitDefEqProofs only [go_sem, so, setA]))
                  exact ⟨id, ⟨e2, by simp⟩, .same (so []) _ _ (fun u hu => so_leafy (o ++ [x]) u (by rw [so]; exact e1 ▸ hu)) e1⟩
                · have h3 : ¬ cI x y ≤ 0 := by simp at h3; simp only [cI]; omega
                  have h3 := cI_tot h3
                  have mg2 := (mg.swap.left fun v hv => by
                    rcases List.mem_cons.1 hv with rfl | hv
                    · exact h3
                    · exact cI_le_trans h3 ((List.pairwise_cons.1 mg.sa).1 v hv)).swap
                  (simp -implicitDefEqProofs only [go_sem]; repeat (refine GO ?_; simp -implicitDefEqProofs only [go_sem]))
                  refine ⟨by omega, EL.map (show Int.toNat 0 < (y :: b).length by simp) ?_⟩
                  (simp -implicitDefEqProofs only [go_sem, It.c]; repeat (refine GO ?_; simp -implicitDefEqProofs only [go_sem, It.c]))
                  refine ⟨by omega, by omega, ?_⟩
                  have e1 : (List.map It.c o).take o.length ++ [It.c y] = List.map It.c (o ++ [y]) := by
                    rw [List.take_of_length_le (by simp), List.map_append]; rfl
                  have e2 : List.drop 1 (List.take (b.length + 1) (List.map It.c (y :: b))) = List.map It.c b := by
                    rw [List.take_of_length_le (by simp)]; rfl
                  refine BACK.mk ⟨(o ++ [y], x :: a, b), mg2⟩ [(1000, some 53)] rfl rfl (by show (x :: a).length + b.length < (x :: a).length + (y :: b).length; simp) ?_
                  (simp -implicitDefEqProofs only [go_sem, so, setA]; repeat (refine GO ?_; simp -implicitDefEqProofs only [go_sem, so, setA]))
                  exact ⟨id, ⟨e2, by simp⟩, .same (so []) _ _ (fun u hu => so_leafy (o ++ [y]) u (by rw [so]; exact e1 ▸ hu)) e1⟩
            · have h2 : b = [] := by simpa using h2
              subst h2
              (simp -implicitDefEqProofs only [go_sem]; repeat (refine GO ?_; simp -implicitDefEqProofs only [go_sem]))
              refine JB.mk ⟨(o, a, []), mg, .inr rfl⟩ [(1000, some 1000)] rfl rfl ?_
              (simp -implicitDefEqProofs only [go_sem, so, setA]; repeat (refine GO ?_; simp -implicitDefEqProofs only [go_sem, so, setA]))
              exact ⟨id, .same (so o) _ _ (so_leafy o) rfl⟩
          · have h1 : a = [] := by simpa using h1
            subst h1
            (simp -implicitDefEqProofs only [go_sem]; repeat (refine GO ?_; simp -implicitDefEqProofs only [go_sem]))
            refine JB.mk ⟨(o, [], b), mg, .inl rfl⟩ [(1000, some 1000)] rfl rfl ?_
            (simp -implicitDefEqProofs only [go_sem, so, setA]; repeat (refine GO ?_; simp -implicitDefEqProofs only [go_sem, so, setA]))
            exact ⟨id, .same (so o) _ _ (so_leafy o) rfl⟩
      · obtain ⟨⟨o, a, b⟩, mg, hn⟩ := p
        simp only at mg hn
        have hlen : o.length + a.length + b.length = z.length := by have := mg.perm.length_eq; simp only [List.length_append] at this; exact this
        obtain ⟨hp, hs⟩ := mg.done hn
        simp -implicitDefEqProofs only [go_sem, so, setA]
        refine GO ?_
        simp -implicitDefEqProofs only [go_sem, so, setA]
        refine ⟨by omega, by omega, ?_⟩
        have e1 : List.take (o.length + a.length) (List.take o.length (List.map It.c o) ++ List.map It.c a) ++ List.map It.c b = List.map It.c (o ++ a ++ b) := by
          rw [List.take_of_length_le (l := List.map It.c o) (by simp), ← List.map_append, List.take_of_length_le (by simp), ← List.map_append]
        refine TO [] [(2, setA (o ++ a ++ b))] [] [] rfl ?_ ?_
        · (simp -implicitDefEqProofs only [go_sem, setA]; repeat (refine GO ?_; simp -implicitDefEqProofs only [go_sem, setA]))
          refine ⟨id, by decide, _, rfl, ?_, rfl, ?_⟩
          · rw [e1]; exact so_leafy (o ++ a ++ b)
          · rw [e1]; exact List.take_of_length_le (by simp; omega)
        (simp -implicitDefEqProofs only [go_sem, setA]; repeat (refine GO ?_; simp -implicitDefEqProofs only [go_sem, setA]))
        exact ⟨o ++ a ++ b, rfl, hp, hs⟩
end Yt
