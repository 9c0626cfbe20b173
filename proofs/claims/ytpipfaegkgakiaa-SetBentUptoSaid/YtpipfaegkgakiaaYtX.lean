/- Rows and values by the page; the set of rows. What is proved: contracts of the program's functions over abstract values, or plain facts on which these lean; the conditions stand in each theorem. -/
import Derived.Test.YtpipfaegkgakiaaYtT
set_option linter.all false
/-! Rows and values by the page; the set of rows. -/
namespace Yt
open Go Go.Vc Go.Proofs
set_option maxRecDepth 10000
set_option maxHeartbeats 4000000
set_option linter.unusedSimpArgs false
set_option linter.unusedVariables false
theorem s49 (v : V) : Spec0 Try.prog 49 [.ag v.c] (· = bA (okV v)) := by
  refine spec0_of_vc tabOk elems ord49 Try.func49 rfl (rl := [.tmp 2]) rfl (by kernel_rfl) rfl ?_
  (simp -implicitDefEqProofs only [go_sem, V.c]; repeat (refine GO ?_; simp -implicitDefEqProofs only [go_sem, V.c]))
  iterate 9 all_goals (first
    | (refine VIF.split (fun h => ?_) (fun h => ?_) <;> (simp -implicitDefEqProofs only [go_sem]; repeat (refine GO ?_; simp -implicitDefEqProofs only [go_sem])))
    | (refine .pure _ (s64 v.i 0 1) rfl fun r hr _ => ?_
       subst hr
       (simp -implicitDefEqProofs only [go_sem, bA]; repeat (refine GO ?_; simp -implicitDefEqProofs only [go_sem, bA])))
    | (refine .pure _ (s64 v.i (-1152921504606846976) 1152921504606846976) rfl fun r hr _ => ?_
       subst hr
       (simp -implicitDefEqProofs only [go_sem, bA]; repeat (refine GO ?_; simp -implicitDefEqProofs only [go_sem, bA])))
    | skip)
  all_goals simp_all [okV, inB, iA, bA, noS]
  all_goals (first | rfl | (intros; omega))
theorem s17 (a : List V) (ha : a.length < 4611686018427387904) : Spec0 Try.prog 17 [rowA a] (· = iA (okR a)) := by
  refine spec0_of_vc tabOk elems ord17 Try.func17 rfl (rl := [.tmp 2]) rfl (by kernel_rfl) rfl ?_
  (simp -implicitDefEqProofs only [go_sem, rowA]; repeat (refine GO ?_; simp -implicitDefEqProofs only [go_sem, rowA]))
  refine VIF.split (fun h => ?_) (fun h => ?_)
  · (simp -implicitDefEqProofs only [go_sem]; repeat (refine GO ?_; simp -implicitDefEqProofs only [go_sem]))
    have h : 12 < a.length := by simp at h; omega
    simp [okR, h, iA]
  · have h12 : ¬ 12 < a.length := by simp at h; omega
    (simp -implicitDefEqProofs only [go_sem]; repeat (refine GO ?_; simp -implicitDefEqProofs only [go_sem]))
    refine LOOP.mk (ι := { i : Nat // i ≤ a.length ∧ ∀ j (hj : j < a.length), j < i → okV a[j] = true }) (fun i => mkS [(0, rowA a), (3, iA i.1)] [] []) (fun i => a.length - i.1)
      ⟨0, by simp⟩ [] rfl rfl ?_ (fun i => ?_)
    · (simp -implicitDefEqProofs only [go_sem, rowA, iA]; repeat (refine GO ?_; simp -implicitDefEqProofs only [go_sem, rowA, iA]))
      exact ⟨id, rfl⟩
    · obtain ⟨i, hi, hz⟩ := i
      (simp -implicitDefEqProofs only [go_sem, rowA, iA]; repeat (refine GO ?_; simp -implicitDefEqProofs only [go_sem, rowA, iA]))
      refine VIF.split (fun h => ?_) (fun h => ?_)
      · have hi' : i < a.length := by simpa using h
        have w1 := wrap_add1 (show i < 4611686018427387904 by omega)
        (simp -implicitDefEqProofs only [go_sem]; repeat (refine GO ?_; simp -implicitDefEqProofs only [go_sem]))
        refine EL.map hi' ?_
        (simp -implicitDefEqProofs only [go_sem, V.c]; repeat (refine GO ?_; simp -implicitDefEqProofs only [go_sem, V.c]))
        refine .pure _ (s49 a[i]) rfl fun r hr _ => ?_
        subst hr
        (simp -implicitDefEqProofs only [go_sem, bA]; repeat (refine GO ?_; simp -implicitDefEqProofs only [go_sem, bA]))
        refine VIF.split (fun e => ?_) (fun e => ?_)
        · have e : okV a[i] = false := by simpa using e
          (simp -implicitDefEqProofs only [go_sem]; repeat (refine GO ?_; simp -implicitDefEqProofs only [go_sem]))
          have : a.all okV = false := by
            rw [List.all_eq_false]; exact ⟨_, List.getElem_mem hi', by simp [e]⟩
          simp [okR, h12, this, iA]
        · have e : okV a[i] = true := by simpa using e
          (simp -implicitDefEqProofs only [go_sem, w1]; repeat (refine GO ?_; simp -implicitDefEqProofs only [go_sem, w1]))
          refine BACK.mk ⟨i + 1, by omega, fun j hj hji => ?_⟩ [] rfl rfl (by show a.length - (i + 1) < a.length - i; omega) ?_
          · by_cases e2 : j = i
            · subst e2; exact e
            · exact hz j hj (by omega)
          · (simp -implicitDefEqProofs only [go_sem, rowA, iA, w1]; repeat (refine GO ?_; simp -implicitDefEqProofs only [go_sem, rowA, iA, w1]))
            exact id
      · have h : i = a.length := by simp at h; omega
        (simp -implicitDefEqProofs only [go_sem]; repeat (refine GO ?_; simp -implicitDefEqProofs only [go_sem]))
        have : a.all okV = true := by
          rw [List.all_eq_true]; intro x hx
          obtain ⟨j, hj, rfl⟩ := List.mem_iff_getElem.1 hx
          exact hz j hj (by omega)
        simp [okR, h12, this, iA]
def rowsA (l : List (List V)) : AV := .im 1 (l.map fun r => [rowA r])
def oneI (r : List V) : It := ⟨r, 1⟩
theorem s20 (l : List (List V)) (hl : l.length ≤ 1048576) (hr : ∀ r ∈ l, r.length < 1073741824) :
    Spec1 Try.prog 20 [rowsA l] (fun r o => ∃ (out : List It) (err : Int), r = .tu [.rf 0 0 out.length, iA err] ∧ o = so out ∧ MakeR (l.map oneI) out err) := by
  refine spec1_of_vc tabOk elems ord20 Try.func20 rfl (rl := [.tmp 2, .tmp 3]) rfl (by kernel_rfl) rfl ?_
  (simp -implicitDefEqProofs only [go_sem, rowsA]; repeat (refine GO ?_; simp -implicitDefEqProofs only [go_sem, rowsA]))
  refine LOOP.mk (ι := { i : Nat // i ≤ l.length }) (fun p => mkS [(4, .rf 1000 0 p.1), (7, rowsA l), (8, iA l.length), (9, iA p.1)] [(1000, so ((l.take p.1).map oneI))] [1000])
    (fun p => l.length - p.1) ⟨0, Nat.zero_le _⟩ [(1000, none)] rfl rfl ?_ (fun p => ?_)
  · (simp -implicitDefEqProofs only [go_sem, rowsA, iA, so]; repeat (refine GO ?_; simp -implicitDefEqProofs only [go_sem, rowsA, iA, so]))
    exact ⟨id, rfl, rfl⟩
  · obtain ⟨i, hi⟩ := p
    (simp -implicitDefEqProofs only [go_sem, rowsA, iA, so]; repeat (refine GO ?_; simp -implicitDefEqProofs only [go_sem, rowsA, iA, so]))
    refine VIF.split (fun h => ?_) (fun h => ?_)
    · have h : i < l.length := by simpa using h
      have w1 := wrap_add1 (show i < 4611686018427387904 by omega)
      (simp -implicitDefEqProofs only [go_sem]; repeat (refine GO ?_; simp -implicitDefEqProofs only [go_sem]))
      refine EL.map h ?_
      (simp -implicitDefEqProofs only [go_sem, w1, rowA]; repeat (refine GO ?_; simp -implicitDefEqProofs only [go_sem, w1, rowA]))
      refine ⟨by omega, ?_⟩
      have e1 : (List.map It.c (List.map oneI (l.take i))).take i ++ [[rowA l[i], iA 1]] = List.map It.c (List.map oneI (l.take (i + 1))) := by
        rw [List.take_of_length_le (by simp; omega), List.take_succ_eq_append_getElem h, List.map_append, List.map_append]
        rfl
      refine BACK.mk ⟨i + 1, by omega⟩ [(1000, some 17)] rfl rfl (by show l.length - (i + 1) < l.length - i; omega) ?_
      (simp -implicitDefEqProofs only [go_sem, rowsA, iA, so, w1]; repeat (refine GO ?_; simp -implicitDefEqProofs only [go_sem, rowsA, iA, so, w1]))
      exact ⟨id, rfl, .same (so []) _ _ (fun x hx => so_leafy ((l.take (i + 1)).map oneI) x (by rw [so]; exact e1 ▸ hx)) e1⟩
    · have h : i = l.length := by simp at h; omega
      subst h
      simp -implicitDefEqProofs only [go_sem, List.take_length]
      refine GO ?_
      simp -implicitDefEqProofs only [go_sem]
      refine TO [] [(19, setA (l.map oneI))] [] [] rfl ?_ ?_
      · (simp -implicitDefEqProofs only [go_sem, setA]; repeat (refine GO ?_; simp -implicitDefEqProofs only [go_sem, setA]))
        exact ⟨id, by decide, _, rfl, so_leafy (l.map oneI), rfl, List.take_of_length_le (by simp)⟩
      (simp -implicitDefEqProofs only [go_sem, setA]; repeat (refine GO ?_; simp -implicitDefEqProofs only [go_sem, setA]))
      refine .make 20 _ (s11 (l.map oneI) (by simpa using hl) (by simpa [oneI] using hr)) rfl (by simp) rfl fun q o hq _ => ?_
      obtain ⟨out, err, rfl, rfl, hm⟩ := hq
      (simp -implicitDefEqProofs only [go_sem, iA]; repeat (refine GO ?_; simp -implicitDefEqProofs only [go_sem, iA]))
      refine FINmk [(0, some 20)] [(2, .rf 0 0 out.length), (3, iA err)] [(0, so out)] [0] rfl ?_ ?_
      · (simp -implicitDefEqProofs only [go_sem, so, iA]; repeat (refine GO ?_; simp -implicitDefEqProofs only [go_sem, so, iA]))
        exact .same (so out) _ _ (so_leafy out) rfl
      · exact ⟨so out, ⟨⟨out, err, rfl, rfl, hm⟩, rfl⟩, so_leafy out, rfl⟩
end Yt
