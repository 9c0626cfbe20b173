/- Values and rows: how they compare. What is proved: contracts of the program's functions over abstract values, or plain facts on which these lean; the conditions stand in each theorem. -/
import Derived.Test.YtpipfaegkgakiaaYtOrd
set_option linter.all false
/-! Values and rows: how they compare. -/
namespace Yt
open Go Go.Vc Go.Proofs
set_option maxRecDepth 10000

structure V where
  k : Int
  i : Int
  s : ByteArray
def V.c (v : V) : List AV := [.pr (.int .i64 v.k), .pr (.int .i64 v.i), .pr (.string v.s)]
def rowA (r : List V) : AV := .im 3 (r.map V.c)
def cmpI (x y : Int) : Int := if x < y then -1 else if y < x then 1 else 0
def cmpS (x y : ByteArray) : Int := if Op.bytesLess x.toList y.toList then -1 else if !(Op.bytesLess x.toList y.toList || decide (x = y)) then 1 else 0
def nz : List Int → Int
  | [] => 0
  | x :: r => if x = 0 then nz r else x
def cmpV (a b : V) : Int := nz [cmpI a.k b.k, cmpI a.i b.i, cmpS a.s b.s]
def cmpR : List V → List V → Int
  | [], [] => 0
  | [], _ :: _ => -1
  | _ :: _, [] => 1
  | a :: r, b :: r' => if cmpV a b = 0 then cmpR r r' else cmpV a b

theorem s72 (x : Int) : Spec0 Try.prog 72 [.pr (.int .i64 x)] (· = .pr (.bool false)) := by
  refine spec0_of_vc tabOk elems ord72 Try.func72 rfl (rl := [.tmp 2]) rfl (by kernel_rfl) rfl ?_
  (simp -implicitDefEqProofs only [go_sem]; repeat (refine GO ?_; simp -implicitDefEqProofs only [go_sem]))
  simp
theorem s73 (x : ByteArray) : Spec0 Try.prog 73 [.pr (.string x)] (· = .pr (.bool false)) := by
  refine spec0_of_vc tabOk elems ord73 Try.func73 rfl (rl := [.tmp 2]) rfl (by kernel_rfl) rfl ?_
  (simp -implicitDefEqProofs only [go_sem]; repeat (refine GO ?_; simp -implicitDefEqProofs only [go_sem]))
  simp
theorem s62 (x y : Int) : Spec0 Try.prog 62 [.pr (.int .i64 x), .pr (.int .i64 y)] (· = .pr (.int .i64 (cmpI x y))) := by
  refine spec0_of_vc tabOk elems ord62 Try.func62 rfl (rl := [.tmp 4]) rfl (by kernel_rfl) rfl ?_
  (simp -implicitDefEqProofs only [go_sem]; repeat (refine GO ?_; simp -implicitDefEqProofs only [go_sem]))
  refine .pure _ (s72 x) rfl fun r hr _ => ?_
  subst hr
  (simp -implicitDefEqProofs only [go_sem]; repeat (refine GO ?_; simp -implicitDefEqProofs only [go_sem]))
  refine .pure _ (s72 y) rfl fun r hr _ => ?_
  subst hr
  (simp -implicitDefEqProofs only [go_sem]; repeat (refine GO ?_; simp -implicitDefEqProofs only [go_sem]))
  refine ⟨fun h => ?_, fun h => ?_⟩
  · (simp -implicitDefEqProofs only [go_sem]; repeat (refine GO ?_; simp -implicitDefEqProofs only [go_sem]))
    simp at h; simp [h, cmpI]
  · (simp -implicitDefEqProofs only [go_sem]; repeat (refine GO ?_; simp -implicitDefEqProofs only [go_sem]))
    simp at h
    have h' : ¬ x < y := by omega
    refine ⟨fun g => ?_, fun g => ?_⟩
    · (simp -implicitDefEqProofs only [go_sem]; repeat (refine GO ?_; simp -implicitDefEqProofs only [go_sem]))
      simp at g; simp [g, h', cmpI]
    · (simp -implicitDefEqProofs only [go_sem]; repeat (refine GO ?_; simp -implicitDefEqProofs only [go_sem]))
      simp at g
      have g' : ¬ y < x := by omega
      simp [g', h', cmpI]
theorem s63 (x y : ByteArray) : Spec0 Try.prog 63 [.pr (.string x), .pr (.string y)] (· = .pr (.int .i64 (cmpS x y))) := by
  refine spec0_of_vc tabOk elems ord63 Try.func63 rfl (rl := [.tmp 4]) rfl (by kernel_rfl) rfl ?_
  (simp -implicitDefEqProofs only [go_sem]; repeat (refine GO ?_; simp -implicitDefEqProofs only [go_sem]))
  refine .pure _ (s73 x) rfl fun r hr _ => ?_
  subst hr
  (simp -implicitDefEqProofs only [go_sem]; repeat (refine GO ?_; simp -implicitDefEqProofs only [go_sem]))
  refine .pure _ (s73 y) rfl fun r hr _ => ?_
  subst hr
  (simp -implicitDefEqProofs only [go_sem]; repeat (refine GO ?_; simp -implicitDefEqProofs only [go_sem]))
  refine ⟨fun h => ?_, fun h => ?_⟩
  · (simp -implicitDefEqProofs only [go_sem]; repeat (refine GO ?_; simp -implicitDefEqProofs only [go_sem]))
    simp [h, cmpS]
  · (simp -implicitDefEqProofs only [go_sem]; repeat (refine GO ?_; simp -implicitDefEqProofs only [go_sem]))
    refine ⟨fun g => ?_, fun g => ?_⟩
    · (simp -implicitDefEqProofs only [go_sem]; repeat (refine GO ?_; simp -implicitDefEqProofs only [go_sem]))
      simp only [h] at g; simp [cmpS, h]; simp at g; exact g
    · (simp -implicitDefEqProofs only [go_sem]; repeat (refine GO ?_; simp -implicitDefEqProofs only [go_sem]))
      simp only [h] at g; simp [cmpS, h]; simp at g; exact g

theorem nz_take {l : List Int} {i : Nat} (hz : ∀ x ∈ l.take i, x = 0) : nz l = nz (l.drop i) := by
  induction l generalizing i with
  | nil => simp
  | cons x r ih =>
    cases i with
    | zero => rfl
    | succ i =>
      simp only [List.take_succ_cons, List.mem_cons, forall_eq_or_imp] at hz
      simp only [nz, hz.1, if_true, List.drop_succ_cons]
      exact ih hz.2
def intsA (l : List Int) : AV := .im 1 (l.map fun x => [.pr (.int .i64 x)])
theorem wrap_succ {i : Nat} {n : Nat} (h : i < n) (hn : n < 4611686018427387904) : IntKind.i64.wrap ((i : Int) + 1) = ((i + 1 : Nat) : Int) := by rw [wrap_i64] <;> omega
theorem s61 (l : List Int) (hl : l.length < 4611686018427387904) : Spec0 Try.prog 61 [intsA l] (· = .pr (.int .i64 (nz l))) := by
  refine spec0_of_vc tabOk elems ord61 Try.func61 rfl (rl := [.tmp 2]) rfl (by kernel_rfl) rfl ?_
  (simp -implicitDefEqProofs only [go_sem, intsA]; repeat (refine GO ?_; simp -implicitDefEqProofs only [go_sem, intsA]))
  refine LOOP.mk (ι := { i : Nat // i ≤ l.length ∧ ∀ x ∈ l.take i, x = 0 }) (fun i => mkS [(3, .pr (.int .i64 0)), (6, .im 1 (l.map fun x => [.pr (.int .i64 x)])), (7, .pr (.int .i64 l.length)), (8, .pr (.int .i64 i.1))] [] []) (fun i => l.length - i.1)
    ⟨0, by simp⟩ [] rfl rfl ?_ (fun i => ?_)
  · (simp -implicitDefEqProofs only [go_sem]; repeat (refine GO ?_; simp -implicitDefEqProofs only [go_sem]))
    simp
  · obtain ⟨i, hi, hz⟩ := i
    (simp -implicitDefEqProofs only [go_sem]; repeat (refine GO ?_; simp -implicitDefEqProofs only [go_sem]))
    refine ⟨fun h => ?_, fun h => ?_⟩
    · simp only [decide_eq_true_eq] at h
      have hi' : i < l.length := by omega
      have hd : nz l = nz (l[i] :: l.drop (i + 1)) := by rw [nz_take hz, List.drop_eq_getElem_cons hi']
      (simp -implicitDefEqProofs only [go_sem]; repeat (refine GO ?_; simp -implicitDefEqProofs only [go_sem]))
      refine EL.map hi' ?_
      (simp -implicitDefEqProofs only [go_sem]; repeat (refine GO ?_; simp -implicitDefEqProofs only [go_sem]))
      refine ⟨fun g => ?_, fun g => ?_⟩
      · (simp -implicitDefEqProofs only [go_sem]; repeat (refine GO ?_; simp -implicitDefEqProofs only [go_sem]))
        simp at g
        simp [hd, nz, g]
      · (simp -implicitDefEqProofs only [go_sem]; repeat (refine GO ?_; simp -implicitDefEqProofs only [go_sem]))
        simp at g
        refine BACK.mk ⟨i + 1, hi', ?_⟩ [] rfl rfl (by show l.length - (i + 1) < l.length - i; omega) ?_
        · intro x hx
          rw [List.take_add_one, List.getElem?_eq_getElem hi'] at hx
          rcases List.mem_append.1 hx with hx | hx
          · exact hz x hx
          · simp at hx; rw [hx]; exact g
        · (simp -implicitDefEqProofs only [go_sem]; repeat (refine GO ?_; simp -implicitDefEqProofs only [go_sem]))
          simp [wrap_succ hi' hl]
    · (simp -implicitDefEqProofs only [go_sem]; repeat (refine GO ?_; simp -implicitDefEqProofs only [go_sem]))
      simp at h
      have : i = l.length := by omega
      subst this
      have : nz l = 0 := by rw [nz_take hz]; simp [nz]
      simp [this]

theorem s45 (a b : V) : Spec0 Try.prog 45 [.ag a.c, .ag b.c] (· = .pr (.int .i64 (cmpV a b))) := by
  refine spec0_of_vc tabOk elems ord45 Try.func45 rfl (rl := [.tmp 4]) rfl (by kernel_rfl) rfl ?_
  (simp -implicitDefEqProofs only [go_sem, V.c]; repeat (refine GO ?_; simp -implicitDefEqProofs only [go_sem, V.c]))
  refine .pure _ (s62 a.k b.k) rfl fun r hr _ => ?_
  subst hr
  (simp -implicitDefEqProofs only [go_sem]; repeat (refine GO ?_; simp -implicitDefEqProofs only [go_sem]))
  refine .pure _ (s62 a.i b.i) rfl fun r hr _ => ?_
  subst hr
  (simp -implicitDefEqProofs only [go_sem]; repeat (refine GO ?_; simp -implicitDefEqProofs only [go_sem]))
  refine .pure _ (s63 a.s b.s) rfl fun r hr _ => ?_
  subst hr
  (simp -implicitDefEqProofs only [go_sem]; repeat (refine GO ?_; simp -implicitDefEqProofs only [go_sem]))

  refine .lendTo (s61 [cmpI a.k b.k, cmpI a.i b.i, cmpS a.s b.s] (by simp)) ?_ (by rintro _ rfl; rfl) fun r hr => ?_
  · (simp -implicitDefEqProofs only [go_sem]; repeat (refine GO ?_; simp -implicitDefEqProofs only [go_sem]))
    simp [intsA]
  subst hr
  (simp -implicitDefEqProofs only [go_sem]; repeat (refine GO ?_; simp -implicitDefEqProofs only [go_sem]))
  rfl

theorem cmpR_cons {a b : List V} {i : Nat} (ha : i < a.length) (hb : i < b.length) : cmpR (a.drop i) (b.drop i) = if cmpV a[i] b[i] = 0 then cmpR (a.drop (i + 1)) (b.drop (i + 1)) else cmpV a[i] b[i] := by
  rw [List.drop_eq_getElem_cons ha, List.drop_eq_getElem_cons hb]; rfl
theorem cmpR_long {a b : List V} {i : Nat} (ha : i < a.length) (hb : b.length ≤ i) : cmpR (a.drop i) (b.drop i) = 1 := by
  rw [List.drop_eq_getElem_cons ha, List.drop_of_length_le hb]; rfl
theorem cmpR_end {a b : List V} {i : Nat} (ha : a.length ≤ i) (hb : i ≤ b.length) (hi : i = a.length) : cmpR (a.drop i) (b.drop i) = if a.length < b.length then -1 else 0 := by
  rw [List.drop_of_length_le ha]
  by_cases h : i < b.length
  · rw [List.drop_eq_getElem_cons h, if_pos (by omega)]; rfl
  · rw [List.drop_of_length_le (by omega), if_neg (by omega)]; rfl

theorem s44 (a b : List V) (ha : a.length < 4611686018427387904) : Spec0 Try.prog 44 [rowA a, rowA b, .fn 45 []] (· = .pr (.int .i64 (cmpR a b))) := by
  refine spec0_of_vc tabOk elems ord44 Try.func44 rfl (rl := [.tmp 6]) rfl (by kernel_rfl) rfl ?_
  (simp -implicitDefEqProofs only [go_sem, rowA]; repeat (refine GO ?_; simp -implicitDefEqProofs only [go_sem, rowA]))
  refine LOOP.mk (ι := { i : Nat // i ≤ a.length ∧ i ≤ b.length ∧ cmpR a b = cmpR (a.drop i) (b.drop i) }) (fun i => mkS [(0, rowA a), (1, rowA b), (2, .fn 45 []), (11, rowA a), (12, .pr (.int .i64 a.length)), (13, .pr (.int .i64 i.1))] [] []) (fun i => a.length - i.1)
    ⟨0, by simp⟩ [] rfl rfl ?_ (fun i => ?_)
  · (simp -implicitDefEqProofs only [go_sem, rowA]; repeat (refine GO ?_; simp -implicitDefEqProofs only [go_sem, rowA]))
    simp
  · obtain ⟨i, hi, hj, hz⟩ := i
    (simp -implicitDefEqProofs only [go_sem, rowA]; repeat (refine GO ?_; simp -implicitDefEqProofs only [go_sem, rowA]))
    refine ⟨fun h => ?_, fun h => ?_⟩
    · simp only [decide_eq_true_eq] at h
      have hi' : i < a.length := by omega
      (simp -implicitDefEqProofs only [go_sem]; repeat (refine GO ?_; simp -implicitDefEqProofs only [go_sem]))
      refine EL.map hi' ?_
      (simp -implicitDefEqProofs only [go_sem, V.c]; repeat (refine GO ?_; simp -implicitDefEqProofs only [go_sem, V.c]))
      refine ⟨fun g => ?_, fun g => ?_⟩
      · (simp -implicitDefEqProofs only [go_sem]; repeat (refine GO ?_; simp -implicitDefEqProofs only [go_sem]))
        simp at g
        simp [hz, cmpR_long hi' (by omega)]
      · simp at g
        have hj' : i < b.length := by omega
        (simp -implicitDefEqProofs only [go_sem]; repeat (refine GO ?_; simp -implicitDefEqProofs only [go_sem]))
        refine EL.map hj' ?_
        (simp -implicitDefEqProofs only [go_sem, V.c]; repeat (refine GO ?_; simp -implicitDefEqProofs only [go_sem, V.c]))
        refine .pure _ (s45 a[i] b[i]) rfl fun r hr _ => ?_
        subst hr
        (simp -implicitDefEqProofs only [go_sem]; repeat (refine GO ?_; simp -implicitDefEqProofs only [go_sem]))
        refine ⟨fun e => ?_, fun e => ?_⟩
        · (simp -implicitDefEqProofs only [go_sem]; repeat (refine GO ?_; simp -implicitDefEqProofs only [go_sem]))
          simp at e
          simp [hz, cmpR_cons hi' hj', e]
        · (simp -implicitDefEqProofs only [go_sem]; repeat (refine GO ?_; simp -implicitDefEqProofs only [go_sem]))
          simp at e
          refine BACK.mk ⟨i + 1, hi', hj', by rw [hz, cmpR_cons hi' hj', if_pos e]⟩ [] rfl rfl (by show a.length - (i + 1) < a.length - i; omega) ?_
          (simp -implicitDefEqProofs only [go_sem, rowA]; repeat (refine GO ?_; simp -implicitDefEqProofs only [go_sem, rowA]))
          simp [wrap_succ hi' ha]
    · simp at h
      have hil : i = a.length := by omega
      (simp -implicitDefEqProofs only [go_sem]; repeat (refine GO ?_; simp -implicitDefEqProofs only [go_sem]))
      refine ⟨fun g => ?_, fun g => ?_⟩
      · (simp -implicitDefEqProofs only [go_sem]; repeat (refine GO ?_; simp -implicitDefEqProofs only [go_sem]))
        simp at g
        simp [hz, cmpR_end h hj hil, g]
      · (simp -implicitDefEqProofs only [go_sem]; repeat (refine GO ?_; simp -implicitDefEqProofs only [go_sem]))
        simp at g
        have : ¬ a.length < b.length := by omega
        simp [hz, cmpR_end h hj hil, this]

theorem s13 (a b : List V) (ha : a.length < 4611686018427387904) : Spec0 Try.prog 13 [rowA a, rowA b] (· = .pr (.int .i64 (cmpR a b))) := by
  refine spec0_of_vc tabOk elems ord13 Try.func13 rfl (rl := [.tmp 4]) rfl (by kernel_rfl) rfl ?_
  (simp -implicitDefEqProofs only [go_sem, rowA]; repeat (refine GO ?_; simp -implicitDefEqProofs only [go_sem, rowA]))
  refine .pure _ (s44 a b ha) rfl fun r hr _ => ?_
  subst hr
  (simp -implicitDefEqProofs only [go_sem]; repeat (refine GO ?_; simp -implicitDefEqProofs only [go_sem]))
end Yt
