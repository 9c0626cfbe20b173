/- Sets twinned and turned about. What is proved: contracts of the program's functions over abstract values, or plain facts on which these lean; the conditions stand in each theorem. -/
import Derived.Test.YtpipfaegkgakiaaYtU
set_option linter.all false
/-! Sets twinned and turned about. -/
namespace Yt
open Go Go.Vc Go.Proofs
set_option maxRecDepth 10000
set_option maxHeartbeats 8000000
set_option linter.unusedSimpArgs false
set_option linter.unusedVariables false
theorem Es_refl {st : St} {m : List (Nat × Option Nat)} : ∀ {l : List (List AV)}, (∀ x ∈ l, ∀ a ∈ x, a.leaf = true) → Es st m l l := fun {l} h => .same ⟨0, []⟩ _ _ h rfl
theorem Es_set {st : St} {m : List (Nat × Option Nat)} : ∀ {l : List (List AV)} {i : Nat} {cs cs' : List AV}, (∀ x ∈ l, ∀ a ∈ x, a.leaf = true) → l[i]? = some cs' → wk.wks st m cs cs' → Es st m (l.set i cs) l
  | [], _, _, _, _, h, _ => by simp at h
  | x :: r, 0, cs, cs', hl, h, hw => by
    simp at h
    subst h
    exact .cons hw (Es_refl fun y hy => hl y (by simp [hy]))
  | x :: r, i + 1, cs, cs', hl, h, hw => .cons (wks_leaf (hl x (by simp))) (Es_set (fun y hy => hl y (by simp [hy])) (by simpa using h) hw)
theorem s57 (z : List It) (hl : z.length ≤ 1048576) (hr : ∀ t ∈ z, t.row.length < 1073741824) :
    Spec1 Try.prog 57 [setA z] (fun r o => r = .rf 0 0 z.length ∧ o = so z) := by
  refine spec1_of_vc tabOk elems ord57 Try.func57 rfl (rl := [.tmp 2]) rfl (by kernel_rfl) rfl ?_
  (simp -implicitDefEqProofs only [go_sem, setA]; repeat (refine GO ?_; simp -implicitDefEqProofs only [go_sem, setA]))
  refine .make 6 _ (s38 z (by omega)) rfl (by simp) rfl fun q o hq _ => ?_
  obtain ⟨rfl, rfl⟩ := hq
  (simp -implicitDefEqProofs only [go_sem]; repeat (refine GO ?_; simp -implicitDefEqProofs only [go_sem]))
  refine LOOP.mk (ι := { i : Nat // i ≤ z.length }) (fun p => mkS [(3, .rf 1000 0 z.length), (8, iA z.length), (9, iA p.1)] [(1000, so z)] [1000])
    (fun p => z.length - p.1) ⟨0, Nat.zero_le _⟩ [(1000, some 6)] rfl rfl ?_ (fun p => ?_)
  · (simp -implicitDefEqProofs only [go_sem, iA, so]; repeat (refine GO ?_; simp -implicitDefEqProofs only [go_sem, iA, so]))
    exact ⟨id, rfl, .same (so z) _ _ (so_leafy z) rfl⟩
  · obtain ⟨i, hi⟩ := p
    (simp -implicitDefEqProofs only [go_sem, iA, so]; repeat (refine GO ?_; simp -implicitDefEqProofs only [go_sem, iA, so]))
    refine VIF.split (fun h => ?_) (fun h => ?_)
    · have h : i < z.length := by simpa using h
      have w1 := wrap_add1 (show i < 4611686018427387904 by omega)
      (simp -implicitDefEqProofs only [go_sem]; repeat (refine GO ?_; simp -implicitDefEqProofs only [go_sem]))
      refine ⟨by omega, EL.map h ?_⟩
      (simp -implicitDefEqProofs only [go_sem, It.c]; repeat (refine GO ?_; simp -implicitDefEqProofs only [go_sem, It.c]))
      refine .make 19 _ (s43 z[i].row (by have := hr _ (List.getElem_mem h); omega)) rfl (by simp) rfl fun q o hq _ => ?_
      obtain ⟨rfl, rfl⟩ := hq
      (simp -implicitDefEqProofs only [go_sem, w1]; repeat (refine GO ?_; simp -implicitDefEqProofs only [go_sem, w1]))
      refine ⟨by omega, EL.map h ?_⟩
      (simp -implicitDefEqProofs only [go_sem, It.c, w1]; repeat (refine GO ?_; simp -implicitDefEqProofs only [go_sem, It.c, w1]))
      refine BACK.mk ⟨i + 1, by omega⟩ [(1000, some 1000)] rfl rfl (by show z.length - (i + 1) < z.length - i; omega) ?_
      (simp -implicitDefEqProofs only [go_sem, iA, so, w1]; repeat (refine GO ?_; simp -implicitDefEqProofs only [go_sem, iA, so, w1]))
      refine ⟨id, Es_set (so_leafy z) (show (z.map It.c)[i]? = some (It.c z[i]) by simp [h]) ?_⟩
      (simp -implicitDefEqProofs only [go_sem, It.c, rowA, iA]; repeat (refine GO ?_; simp -implicitDefEqProofs only [go_sem, It.c, rowA, iA]))
      exact ⟨by decide, _, rfl, ro3_leafy _, rfl, List.take_of_length_le (by simp [ro3])⟩
    · have h : i = z.length := by simp at h; omega
      (simp -implicitDefEqProofs only [go_sem]; repeat (refine GO ?_; simp -implicitDefEqProofs only [go_sem]))
      refine FINmk [(0, some 1000)] [(2, .rf 0 0 z.length)] [(0, so z)] [0] rfl ?_ ?_
      · (simp -implicitDefEqProofs only [go_sem, so]; repeat (refine GO ?_; simp -implicitDefEqProofs only [go_sem, so]))
        exact .same (so z) _ _ (so_leafy z) rfl
      · exact ⟨so z, ⟨⟨rfl, rfl⟩, rfl⟩, so_leafy z, rfl⟩
def negI (t : It) : It := ⟨t.row, -t.w⟩
theorem s31 (z : List It) (hl : z.length ≤ 1048576) (hr : ∀ t ∈ z, t.row.length < 1073741824) :
    Spec1 Try.prog 31 [setA z] (fun r o => ∃ (out : List It) (err : Int), r = .tu [.rf 0 0 out.length, iA err] ∧ o = so out ∧ ((¬ Good z ∧ out = [] ∧ err = 1) ∨ (Good z ∧ out = z.map negI ∧ err = 0))) := by
  refine spec1_of_vc tabOk elems ord31 Try.func31 rfl (rl := [.tmp 2, .tmp 3]) rfl (by kernel_rfl) rfl ?_
  (simp -implicitDefEqProofs only [go_sem, setA]; repeat (refine GO ?_; simp -implicitDefEqProofs only [go_sem, setA]))
  refine .pure _ (s16 z (by omega) (fun t ht => by have := hr t ht; omega)) rfl fun q hq _ => ?_
  obtain ⟨e, rfl, he, hg⟩ := hq
  (simp -implicitDefEqProofs only [go_sem, iA]; repeat (refine GO ?_; simp -implicitDefEqProofs only [go_sem, iA]))
  refine VIF.split (fun h => ?_) (fun h => ?_)
  · have h : e ≠ 0 := by simpa using h
    have h1 : e = 1 := by omega
    subst h1
    (simp -implicitDefEqProofs only [go_sem]; repeat (refine GO ?_; simp -implicitDefEqProofs only [go_sem]))
    refine FINmk [(0, none)] [(2, .rf 0 0 0), (3, iA 1)] [(0, so [])] [0] rfl ?_ ?_
    · (simp -implicitDefEqProofs only [go_sem, iA]; repeat (refine GO ?_; simp -implicitDefEqProofs only [go_sem, iA]))
      simp [so]
    · exact ⟨so [], ⟨⟨[], 1, rfl, rfl, .inl ⟨fun g => h (hg.2 g), rfl, rfl⟩⟩, rfl⟩, so_leafy [], rfl⟩
  · have h : e = 0 := by simpa using h
    have hg := hg.1 h
    (simp -implicitDefEqProofs only [go_sem]; repeat (refine GO ?_; simp -implicitDefEqProofs only [go_sem]))
    refine .make 13 _ (s57 z hl hr) rfl (by simp) rfl fun q o hq _ => ?_
    obtain ⟨rfl, rfl⟩ := hq
    (simp -implicitDefEqProofs only [go_sem]; repeat (refine GO ?_; simp -implicitDefEqProofs only [go_sem]))
    refine LOOP.mk (ι := { p : Nat × List It // p.1 ≤ z.length ∧ p.2.length = z.length ∧ ∀ j (h1 : j < p.2.length) (h2 : j < z.length), p.2[j] = if j < p.1 then negI z[j] else z[j] }) (fun p => mkS [(5, .rf 1000 0 z.length), (15, iA z.length), (16, iA p.1.1)] [(1000, so p.1.2)] [1000])
      (fun p => z.length - p.1.1) ⟨(0, z), Nat.zero_le _, rfl, fun j h1 h2 => by rw [if_neg (Nat.not_lt_zero _)]⟩ [(1000, some 13)] rfl rfl ?_ (fun p => ?_)
    · (simp -implicitDefEqProofs only [go_sem, iA, so]; repeat (refine GO ?_; simp -implicitDefEqProofs only [go_sem, iA, so]))
      exact ⟨id, rfl, .same (so z) _ _ (so_leafy z) rfl⟩
    · obtain ⟨⟨i, o⟩, hi, hol, hos⟩ := p
      simp only at hi hol hos
      (simp -implicitDefEqProofs only [go_sem, iA, so]; repeat (refine GO ?_; simp -implicitDefEqProofs only [go_sem, iA, so]))
      refine VIF.split (fun h => ?_) (fun h => ?_)
      · have h : i < z.length := by simpa using h
        have ho : i < o.length := by omega
        have hoi : o[i] = z[i] := by rw [hos i ho h, if_neg (Nat.lt_irrefl _)]
        have w1 := wrap_add1 (show i < 4611686018427387904 by omega)
        have hw := okW_le ((good_made.1 hg).1.nz _ (List.getElem_mem h)).2
        have w2 : IntKind.i64.wrap (0 - z[i].w) = -z[i].w := by rw [wrap_i64] <;> omega
        have w3 : IntKind.i64.wrap (0 - o[i].w) = -z[i].w := by rw [hoi]; exact w2
        (simp -implicitDefEqProofs only [go_sem]; repeat (refine GO ?_; simp -implicitDefEqProofs only [go_sem]))
        refine ⟨by omega, EL.map ho ?_⟩
        (simp -implicitDefEqProofs only [go_sem, It.c, iA, w1, w2, w3]; repeat (refine GO ?_; simp -implicitDefEqProofs only [go_sem, It.c, iA, w1, w2, w3]))
        refine ⟨by omega, EL.map ho ?_⟩
        (simp -implicitDefEqProofs only [go_sem, It.c, iA, w1]; repeat (refine GO ?_; simp -implicitDefEqProofs only [go_sem, It.c, iA, w1]))
        refine BACK.mk ⟨(i + 1, o.set i (negI z[i])), by omega, by simp [hol], fun j h1 h2 => ?_⟩ [(1000, some 1000)] rfl rfl (by show z.length - (i + 1) < z.length - i; omega) ?_
        · show (o.set i (negI z[i]))[j] = _
          rw [List.getElem_set]
          by_cases e1 : i = j
          · subst e1; rw [if_pos rfl, if_pos (by omega)]
          · rw [if_neg e1, hos j (by omega) h2]
            by_cases e2 : j < i
            · rw [if_pos e2, if_pos (by omega)]
            · rw [if_neg e2, if_neg (by omega)]
        (simp -implicitDefEqProofs only [go_sem, iA, so, w1]; repeat (refine GO ?_; simp -implicitDefEqProofs only [go_sem, iA, so, w1]))
        have e1 : (List.map It.c o).set i [rowA o[i].row, iA (-z[i].w)] = List.map It.c (o.set i (negI z[i])) := by
          rw [List.map_set, hoi]; rfl
        exact ⟨id, .same (so []) _ _ (fun x hx => so_leafy (o.set i (negI z[i])) x (by rw [so]; exact e1 ▸ hx)) e1⟩
      · have h : i = z.length := by simp at h; omega
        have ho : o = z.map negI := List.ext_getElem (by simp [hol]) fun j h1 h2 => by
          rw [hos j h1 (by omega), if_pos (by omega), List.getElem_map]
        (simp -implicitDefEqProofs only [go_sem]; repeat (refine GO ?_; simp -implicitDefEqProofs only [go_sem]))
        refine FINmk [(0, some 1000)] [(2, .rf 0 0 z.length), (3, iA 0)] [(0, so (z.map negI))] [0] rfl ?_ ?_
        · (simp -implicitDefEqProofs only [go_sem, so, iA]; repeat (refine GO ?_; simp -implicitDefEqProofs only [go_sem, so, iA]))
          rw [ho]
          exact .same (so (z.map negI)) _ _ (so_leafy (z.map negI)) rfl
        · exact ⟨so (z.map negI), ⟨⟨z.map negI, 0, by rw [List.length_map]; rfl, rfl, .inr ⟨hg, rfl, rfl⟩⟩, rfl⟩, so_leafy (z.map negI), rfl⟩
end Yt
