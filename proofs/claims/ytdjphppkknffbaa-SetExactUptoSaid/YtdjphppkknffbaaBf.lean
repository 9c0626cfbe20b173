/- Contracts of the program's functions over abstract values and states, plain facts on which these lean, and the framework of these values over the model: The page's weight and size; the law SetExact. From the statement's arguments to those of the walks. The conditions stand in each theorem. -/
import Derived.Test.YtdjphppkknffbaaBe
import Derived.Test.YtdjphppkknffbaaBc
import Derived.JoinedCond
import Derived.WalkKit
import Derived.ProofKit
import Derived.Test.YtdjphppkknffbaaRows
set_option linter.all false
namespace Yt
open Go Go.Vc Go.Proofs
set_option maxRecDepth 10000
set_option maxHeartbeats 8000000
set_option linter.unusedSimpArgs false
set_option linter.unusedVariables false
theorem c11 (z : List It) (r : List V) (hrr : r.length < 4611686018427387904) (hl : z.length < 4611686018427387904) (hr : ∀ t ∈ z, t.row.length < 4611686018427387904) : Spec0 Try.prog 11 [setA z, rowA r] (· = iA (wt r z)) := by
  refine spec0_of_vc tabOk elems ord11 Try.func11 rfl (rl := [.tmp 4]) rfl (by kernel_rfl) rfl ?_
  (simp -implicitDefEqProofs only [go_sem, setA, rowA]; repeat (refine GO ?_; simp -implicitDefEqProofs only [go_sem, setA, rowA]))
  refine LOOP.mk (ι := { i : Nat // i ≤ z.length ∧ ∀ j (h : j < z.length), j < i → cmpR z[j].row r ≠ 0 }) (fun p => mkS [(0, setA z), (1, rowA r), (5, iA p.1)] [] []) (fun p => z.length - p.1) ⟨0, Nat.zero_le _, fun j _ h => absurd h (Nat.not_lt_zero _)⟩ [] rfl rfl ?_ (fun p => ?_)
  · (simp -implicitDefEqProofs only [go_sem, setA, iA, rowA]; repeat (refine GO ?_; simp -implicitDefEqProofs only [go_sem, setA, iA, rowA]))
    exact ⟨id, rfl⟩
  obtain ⟨i, hi, hn⟩ := p
  (simp -implicitDefEqProofs only [go_sem, setA, iA, rowA]; repeat (refine GO ?_; simp -implicitDefEqProofs only [go_sem, setA, iA, rowA]))
  refine VIF.split (fun h => ?_) (fun h => ?_)
  · have h : i < z.length := by simpa using h
    have w1 := wrap_add1 (show i < 4611686018427387904 by omega)
    (simp -implicitDefEqProofs only [go_sem]; repeat (refine GO ?_; simp -implicitDefEqProofs only [go_sem]))
    refine EL.map h ?_
    (simp -implicitDefEqProofs only [go_sem, It.c]; repeat (refine GO ?_; simp -implicitDefEqProofs only [go_sem, It.c]))
    refine .pure _ (show Spec0 Try.prog 38 [rowA z[i].row, rowA r] _ from s55 z[i].row r (hr _ (List.getElem_mem h)) hrr) rfl fun q hq _ => ?_
    subst hq
    (simp -implicitDefEqProofs only [go_sem, iA]; repeat (refine GO ?_; simp -implicitDefEqProofs only [go_sem, iA]))
    refine VIF.split (fun h2 => ?_) (fun h2 => ?_)
    · have h2 : cmpR z[i].row r = 0 := by simpa using h2
      (simp -implicitDefEqProofs only [go_sem]; repeat (refine GO ?_; simp -implicitDefEqProofs only [go_sem]))
      refine EL.map h ?_
      (simp -implicitDefEqProofs only [go_sem, It.c, iA]; repeat (refine GO ?_; simp -implicitDefEqProofs only [go_sem, It.c, iA]))
      have hf : z.findIdx? (fun t => decide (cmpR t.row r = 0)) = some i := by
        rw [List.findIdx?_eq_some_iff_getElem]
        exact ⟨h, by simp [h2], fun j hj => by simp [hn j (by omega) hj]⟩
      simp [wt, hf, wtI, h, iA]
    · have h2 : cmpR z[i].row r ≠ 0 := by simpa using h2
      (simp -implicitDefEqProofs only [go_sem, w1]; repeat (refine GO ?_; simp -implicitDefEqProofs only [go_sem, w1]))
      refine BACK.mk ⟨i + 1, by omega, fun j hj hji => if e : j = i then (by subst e; exact h2) else hn j hj (by omega)⟩ [] rfl rfl (by show z.length - (i + 1) < z.length - i; omega) ?_
      (simp -implicitDefEqProofs only [go_sem, setA, iA, rowA, w1]; repeat (refine GO ?_; simp -implicitDefEqProofs only [go_sem, setA, iA, rowA, w1]))
      exact id
  · have h : i = z.length := by simp at h; omega
    (simp -implicitDefEqProofs only [go_sem]; repeat (refine GO ?_; simp -implicitDefEqProofs only [go_sem]))
    have hf : z.findIdx? (fun t => decide (cmpR t.row r = 0)) = none := by
      rw [List.findIdx?_eq_none_iff]
      intro t ht
      obtain ⟨j, hj, rfl⟩ := List.mem_iff_getElem.1 ht
      simp [hn j hj (by omega)]
    simp [wt, hf, wtI, iA]
theorem absS_le {z : List It} {i : Nat} : absS (z.take i) ≤ absS z := by
  have h := absS_append (z.take i) (z.drop i)
  rw [List.take_append_drop] at h
  have := absS_pos (z.drop i)
  omega
theorem c13 (z : List It) (hl : z.length < 4611686018427387904) (hr : ∀ t ∈ z, t.row.length < 4611686018427387904) :
    Spec0 Try.prog 13 [setA z] (fun r => ∃ n : Int, r = iA n ∧ (Good z → n = min (absS z) topM) ∧ (¬ Good z → n = 0)) := by
  refine spec0_of_vc tabOk elems ord13 Try.func13 rfl (rl := [.tmp 2]) rfl (by kernel_rfl) rfl ?_
  (simp -implicitDefEqProofs only [go_sem, setA]; repeat (refine GO ?_; simp -implicitDefEqProofs only [go_sem, setA]))
  refine .pure _ (show Spec0 Try.prog 15 [setA z] _ from s30 z hl hr) rfl fun r hq _ => ?_
  obtain ⟨g1, rfl, hg1⟩ := hq
  (simp -implicitDefEqProofs only [go_sem, bA, setA]; repeat (refine GO ?_; simp -implicitDefEqProofs only [go_sem, bA, setA]))
  refine VIF.split (fun h => ?_) (fun h => ?_)
  · have hn : ¬ Good z := fun g => by rw [hg1.2 g] at h; simp at h
    (simp -implicitDefEqProofs only [go_sem]; repeat (refine GO ?_; simp -implicitDefEqProofs only [go_sem]))
    exact ⟨0, rfl, fun g => absurd g hn, fun _ => rfl⟩
  have hg : Good z := hg1.1 (by simpa using h)
  (simp -implicitDefEqProofs only [go_sem]; repeat (refine GO ?_; simp -implicitDefEqProofs only [go_sem]))
  refine LOOP.mk (ι := { i : Nat // i ≤ z.length ∧ absS (z.take i) ≤ 1224979098644774912 }) (fun p => mkS [(0, setA z), (3, iA (absS (z.take p.1))), (4, iA p.1)] [] [])
    (fun p => z.length - p.1) ⟨0, Nat.zero_le _, by simp [absS]⟩ [] rfl rfl ?_ (fun p => ?_)
  · (simp -implicitDefEqProofs only [go_sem, iA, setA]; repeat (refine GO ?_; simp -implicitDefEqProofs only [go_sem, iA, setA]))
    exact ⟨id, rfl, rfl⟩
  · obtain ⟨i, hi, hb⟩ := p
    have ha := absS_pos (z.take i)
    (simp -implicitDefEqProofs only [go_sem, iA, setA]; repeat (refine GO ?_; simp -implicitDefEqProofs only [go_sem, iA, setA]))
    refine VIF.split (fun h => ?_) (fun h => ?_)
    · have h : i < z.length := by simpa using h
      have hw := okW_le (w := z[i].w) (by have := (hg i h).ok; simp [okI] at this; exact this.2)
      have w1 : IntKind.i64.wrap (0 - z[i].w) = -z[i].w := by rw [wrap_i64] <;> omega
      have w3 := wrap_add1 (show i < 4611686018427387904 by omega)
      (simp -implicitDefEqProofs only [go_sem]; repeat (refine GO ?_; simp -implicitDefEqProofs only [go_sem]))
      refine VIF.split (fun h2 => ?_) (fun h2 => ?_)
      · have h2 : absS (z.take i) < 1152921504606846976 := by simpa using h2
        have w2 : IntKind.i64.wrap (absS (z.take i) + max z[i].w (-z[i].w)) = absS (z.take (i + 1)) := by
          rw [absS_take h, wrap_i64] <;> omega
        (simp -implicitDefEqProofs only [go_sem]; repeat (refine GO ?_; simp -implicitDefEqProofs only [go_sem]))
        refine EL.map h ?_
        (simp -implicitDefEqProofs only [go_sem, It.c, iA]; repeat (refine GO ?_; simp -implicitDefEqProofs only [go_sem, It.c, iA]))
        refine EL.map h ?_
        (simp -implicitDefEqProofs only [go_sem, It.c, iA, w1, w2, w3]; repeat (refine GO ?_; simp -implicitDefEqProofs only [go_sem, It.c, iA, w1, w2, w3]))
        refine BACK.mk ⟨i + 1, by omega, by rw [absS_take h]; omega⟩ [] rfl rfl (by show z.length - (i + 1) < z.length - i; omega) ?_
        (simp -implicitDefEqProofs only [go_sem, iA, w1, w2, w3, setA]; repeat (refine GO ?_; simp -implicitDefEqProofs only [go_sem, iA, w1, w2, w3, setA]))
        exact id
      · have h2 : ¬ absS (z.take i) < 1152921504606846976 := by simpa using h2
        have := absS_le (z := z) (i := i)
        (simp -implicitDefEqProofs only [go_sem, iA]; repeat (refine GO ?_; simp -implicitDefEqProofs only [go_sem, iA]))
        refine ⟨min (absS (z.take i)) 1152921504606846976, by simp, fun _ => ?_, fun h => absurd hg h⟩
        simp only [topM]; omega
    · have h : i = z.length := by simp at h; omega
      subst h
      (simp -implicitDefEqProofs only [go_sem, List.take_length, iA]; repeat (refine GO ?_; simp -implicitDefEqProofs only [go_sem, List.take_length, iA]))
      exact ⟨min (absS z) 1152921504606846976, by simp, fun _ => rfl, fun h => absurd hg h⟩
theorem makeR_rows1 {z o : List It} {e : Int} (h : MakeR z o e) (hz : ∀ t ∈ z, t.row.length < 1073741824) : o.length ≤ z.length ∧ ∀ t ∈ o, t.row.length < 1073741824 := by
  obtain ⟨h1, h2⟩ := makeR_rows h
  exact ⟨h1, fun t ht => by obtain ⟨u, hu, e⟩ := h2 t ht; rw [← e]; exact hz u hu⟩
theorem famO_lt {b : Nat} {z : List It} {objs : Nat → Option Ob} {n : Nat} (h : n < b) : famO b z objs n = objs n := by rw [famO, if_neg (by omega)]
theorem c3 (a b : List It) (r : List V) (hl : ∀ l ∈ [a, b], l.length < 4611686018427387904) (hr : ∀ l ∈ [a, b], ∀ t ∈ l, t.row.length < 4611686018427387904) (hrr : r.length < 4611686018427387904) :
    Spec0 Try.prog 3 [setA a, setA b, rowA r] (· = bA true) := by
  refine spec0_of_vc tabOk elems ord3 Try.func3 rfl (rl := [.tmp 6]) rfl (by kernel_rfl) rfl ?_
  (simp -implicitDefEqProofs only [go_sem, setA, rowA]; repeat (refine GO ?_; simp -implicitDefEqProofs only [go_sem, setA, rowA]))
  refine .lendTo (s10 [a, b] (by simp) hl hr) ?_ (by rintro _ rfl; rfl) fun r hq => ?_
  · (simp -implicitDefEqProofs only [go_sem, setsA, setA]; repeat (refine GO ?_; simp -implicitDefEqProofs only [go_sem, setsA, setA]))
    rfl
  subst hq
  (simp -implicitDefEqProofs only [go_sem, bA]; repeat (refine GO ?_; simp -implicitDefEqProofs only [go_sem, bA]))
  refine VIF.split (fun hb => ?_) (fun hb => ?_)
  · (simp -implicitDefEqProofs only [go_sem, bA]; repeat (refine GO ?_; simp -implicitDefEqProofs only [go_sem, bA]))
  have hb : heavyS a = false ∧ heavyS b = false := by simpa [List.any_cons] using hb
  obtain ⟨hl0, hr0⟩ := not_heavyS hb.1
  obtain ⟨hl1, hr1⟩ := not_heavyS hb.2
  have ha : ∀ t ∈ a, t.row.length < 1073741824 := fun t ht => by have := hr0 t ht; omega
  have hb : ∀ t ∈ b, t.row.length < 1073741824 := fun t ht => by have := hr1 t ht; omega
  (simp -implicitDefEqProofs only [go_sem]; repeat (refine GO ?_; simp -implicitDefEqProofs only [go_sem]))
  refine .pure _ (show Spec0 Try.prog 5 [rowA r] _ from s19 r hrr) rfl fun q hq _ => ?_
  subst hq
  (simp -implicitDefEqProofs only [go_sem, bA]; repeat (refine GO ?_; simp -implicitDefEqProofs only [go_sem, bA]))
  refine VIF.split (fun h => ?_) (fun h => ?_)
  · (simp -implicitDefEqProofs only [go_sem, bA]; repeat (refine GO ?_; simp -implicitDefEqProofs only [go_sem, bA]))
  simp -implicitDefEqProofs only [go_sem]
  refine TO [] [(0, setA a), (1, setA b), (2, rowA r)] [] [] rfl ?_ ?_
  · (simp -implicitDefEqProofs only [go_sem, setA, bA, rowA]; repeat (refine GO ?_; simp -implicitDefEqProofs only [go_sem, setA, bA, rowA]))
    exact id
  (simp -implicitDefEqProofs only [go_sem, setA, rowA]; repeat (refine GO ?_; simp -implicitDefEqProofs only [go_sem, setA, rowA]))
  refine .pure _ (show Spec0 Try.prog 6 [setA a] _ from Spec1.setC (c31 a (by omega) ha)) rfl fun r hq _ => ?_
  subst hq
  (simp -implicitDefEqProofs only [go_sem, setA, rowA]; repeat (refine GO ?_; simp -implicitDefEqProofs only [go_sem, setA, rowA]))
  refine .pure _ (show Spec0 Try.prog 6 [setA b] _ from Spec1.setC (c31 b (by omega) hb)) rfl fun r hq _ => ?_
  subst hq
  (simp -implicitDefEqProofs only [go_sem, setA, rowA]; repeat (refine GO ?_; simp -implicitDefEqProofs only [go_sem, setA, rowA]))
  refine CALL.fam (show SpecF Try.prog 7 [setA a] _ from f76 a (by omega) ha) rfl 10000 (by simp) fun q m hq => ?_
  obtain ⟨e, rfl, hm⟩ := hq
  have hml := makeR_rows1 hm ha
  (simp -implicitDefEqProofs only [go_sem, AV.rn, rns, Nat.add_zero, iA, setA, rowA]; repeat (refine GO ?_; simp -implicitDefEqProofs only [go_sem, AV.rn, rns, Nat.add_zero, iA, setA, rowA]))
  refine .pure _ (show Spec0 Try.prog 8 [setA a] _ from Spec1.setE (s26 a (by omega) ha)) rfl fun q hq _ => ?_
  obtain ⟨n, f, rfl, hn⟩ := hq
  obtain ⟨rfl, rfl⟩ := makeR_same hm hn
  (simp -implicitDefEqProofs only [go_sem, iA, setA]; repeat (refine GO ?_; simp -implicitDefEqProofs only [go_sem, iA, setA]))
  (first | (refine VIF.tt ?_ ?_; (· first | rfl | (simp; done) | (simp; omega))) | (refine VIF.ff ?_ ?_; (· first | rfl | (simp; done) | (simp; omega))))
  (simp -implicitDefEqProofs only [go_sem]; repeat (refine GO ?_; simp -implicitDefEqProofs only [go_sem]))
  refine .lendR (args' := [setA m, setA m]) (s18 m m (by omega) (by omega) (fun t ht => by have := hml.2 t ht; omega)) ⟨lent_fam (es := famC 10000 m) (ν := fun i => 10000 + (i + 1)) (tail := []) (by (simp -implicitDefEqProofs only [go_sem]; repeat (refine GO ?_; simp -implicitDefEqProofs only [go_sem]))) (by simp [famC_cells]) (fun i hi => famO_row hi), .same rfl, trivial⟩ (by rintro _ ⟨t, rfl, _⟩; rfl) fun r hq => ?_
  obtain ⟨t3, rfl, ht3⟩ := hq
  rw [ht3.2 rfl]
  (simp -implicitDefEqProofs only [go_sem, bA, setA, rowA]; repeat (refine GO ?_; simp -implicitDefEqProofs only [go_sem, bA, setA, rowA]))
  refine .pure _ (show Spec0 Try.prog 10 [setA a, rowA r] _ from s15 a r (fun t ht => by have := ha t ht; omega) (by omega)) rfl fun q hq _ => ?_
  subst hq
  (simp -implicitDefEqProofs only [go_sem, setA, rowA, iA]; repeat (refine GO ?_; simp -implicitDefEqProofs only [go_sem, setA, rowA, iA]))
  refine .pure _ (show Spec0 Try.prog 11 [setA a, rowA r] _ from c11 a r hrr (by omega) (fun t ht => by have := ha t ht; omega)) rfl fun q hq _ => ?_
  subst hq
  (simp -implicitDefEqProofs only [go_sem, setA, rowA, iA]; repeat (refine GO ?_; simp -implicitDefEqProofs only [go_sem, setA, rowA, iA]))
  (first | (refine VIF.tt ?_ ?_; (· first | rfl | (simp; done) | (simp; omega))) | (refine VIF.ff ?_ ?_; (· first | rfl | (simp; done) | (simp; omega))))
  (simp -implicitDefEqProofs only [go_sem]; repeat (refine GO ?_; simp -implicitDefEqProofs only [go_sem]))
  refine .pure _ (show Spec0 Try.prog 12 [setA a] _ from s21 a (by omega) (fun t ht => by have := ha t ht; omega)) rfl fun q hq _ => ?_
  obtain ⟨n1, rfl, hn1, hn2⟩ := hq
  (simp -implicitDefEqProofs only [go_sem, setA, iA]; repeat (refine GO ?_; simp -implicitDefEqProofs only [go_sem, setA, iA]))
  refine .pure _ (show Spec0 Try.prog 13 [setA a] _ from c13 a (by omega) (fun t ht => by have := ha t ht; omega)) rfl fun q hq _ => ?_
  obtain ⟨n2, rfl, hm1, hm2⟩ := hq
  have hnn : n1 = n2 := by
    by_cases hg : Good a
    · rw [hn1 hg, hm1 hg]
    · rw [hn2 hg, hm2 hg]
  subst hnn
  (simp -implicitDefEqProofs only [go_sem, iA]; repeat (refine GO ?_; simp -implicitDefEqProofs only [go_sem, iA]))
  (first | (refine VIF.tt ?_ ?_; (· first | rfl | (simp; done) | (simp; omega))) | (refine VIF.ff ?_ ?_; (· first | rfl | (simp; done) | (simp; omega))))
  (simp -implicitDefEqProofs only [go_sem]; repeat (refine GO ?_; simp -implicitDefEqProofs only [go_sem]))
  refine CALL.takeI (f37 m (by omega) (fun t ht => by have := hml.2 t ht; omega)) 10000 (fun i => 10000 + (i + 1)) (fam_nd (l := [10000]) (by decide) (by decide)) (es := famC 10000 m) (by (simp -implicitDefEqProofs only [go_sem]; repeat (refine GO ?_; simp -implicitDefEqProofs only [go_sem]))) rfl (fun i hi => famO_row hi) ⟨famU_mem.2 (by omega), fun i hi => famU_mem.2 (by omega)⟩ ⟨rfl, famW_mem.2 (.inl rfl), trivial⟩ 20000000 ?_ fun r O hq hO => ?_
  · simp [famU_mem]; omega
  subst hq
  simp -implicitDefEqProofs only [go_sem]
  refine TO [] [(0, setA a), (1, setA b), (7, setA a), (8, setA b), (69, setA a)] [] [] rfl ?_ ?_
  · (simp -implicitDefEqProofs only [go_sem, setA, iA]; repeat (refine GO ?_; simp -implicitDefEqProofs only [go_sem, setA, iA]))
    simp [famU_mem]
  (simp -implicitDefEqProofs only [go_sem, setA]; repeat (refine GO ?_; simp -implicitDefEqProofs only [go_sem, setA]))
  refine .pure _ (show Spec0 Try.prog 15 [setA a] _ from s30 a (by omega) (fun t ht => by have := ha t ht; omega)) rfl fun r hq _ => ?_
  obtain ⟨p, rfl, hp⟩ := hq
  (simp -implicitDefEqProofs only [go_sem, bA, setA]; repeat (refine GO ?_; simp -implicitDefEqProofs only [go_sem, bA, setA]))
  refine .pure _ (show Spec0 Try.prog 15 [setA b] _ from s30 b (by omega) (fun t ht => by have := hb t ht; omega)) rfl fun r hq _ => ?_
  obtain ⟨q, rfl, hq⟩ := hq
  (simp -implicitDefEqProofs only [go_sem, bA, setA]; repeat (refine GO ?_; simp -implicitDefEqProofs only [go_sem, bA, setA]))
  refine CALL.fam (show SpecF Try.prog 16 [setA a, setA b] _ from f47 a b (by omega) ha hb) rfl 10000 (by simp) fun z s hs => ?_
  obtain ⟨e1, rfl, hs⟩ := hs
  have hsr := addR_rows hs
  have hsl : ∀ t ∈ s, t.row.length < 1073741824 := fun t ht => by
    obtain ⟨u, hu, e⟩ := hsr.2 t ht
    rw [← e]
    rcases List.mem_append.1 hu with h | h
    · exact ha u h
    · exact hb u h
  (simp -implicitDefEqProofs only [go_sem, AV.rn, rns, Nat.add_zero, iA, setA]; repeat (refine GO ?_; simp -implicitDefEqProofs only [go_sem, AV.rn, rns, Nat.add_zero, iA, setA]))
  refine CALL.fam (show SpecF Try.prog 17 [setA a] _ from f59 a (by omega) ha) rfl 10000000 (by simp [famU_mem]; omega) fun z t ht => ?_
  obtain ⟨e2, rfl, ht⟩ := ht
  have htl : t.length ≤ a.length ∧ ∀ u ∈ t, u.row.length < 1073741824 := by
    rcases ht with ⟨_, rfl, _⟩ | ⟨_, rfl, _⟩
    · simp
    · exact ⟨by simp, fun u hu => by obtain ⟨v, hv, rfl⟩ := List.mem_map.1 hu; exact ha v hv⟩
  (simp -implicitDefEqProofs only [go_sem, AV.rn, rns, Nat.add_zero, iA, setA]; repeat (refine GO ?_; simp -implicitDefEqProofs only [go_sem, AV.rn, rns, Nat.add_zero, iA, setA]))
  refine .pure _ (show Spec0 Try.prog 18 [setA a] _ from s16 a (by omega) (fun t ht => by have := ha t ht; omega)) rfl fun z hz _ => ?_
  obtain ⟨c, rfl, hc, hcg⟩ := hz
  (simp -implicitDefEqProofs only [go_sem, iA, bA]; repeat (refine GO ?_; simp -implicitDefEqProofs only [go_sem, iA, bA]))
  by_cases ga : Good a
  · obtain rfl : c = 0 := hcg.2 ga
    obtain rfl : p = true := hp.2 ga
    (first | (refine VIF.tt ?_ ?_; (· first | rfl | (simp; done) | (simp; omega))) | (refine VIF.ff ?_ ?_; (· first | rfl | (simp; done) | (simp; omega))))
    (simp -implicitDefEqProofs only [go_sem]; repeat (refine GO ?_; simp -implicitDefEqProofs only [go_sem]))
    by_cases gb : Good b
    · obtain rfl : q = true := hq.2 gb
      (simp -implicitDefEqProofs only [go_sem, setA]; repeat (refine GO ?_; simp -implicitDefEqProofs only [go_sem, setA]))
      refine .pure _ (show Spec0 Try.prog 19 [setA a, setA b] _ from c38 a b (by omega) ha hb) rfl fun r hq _ => ?_
      obtain ⟨w, h, rfl, hw⟩ := hq
      obtain ⟨rfl, rfl⟩ : s = w ∧ e1 = h := by
        rcases hs with ⟨h1, _⟩ | ⟨_, _, h1⟩
        · exact absurd ⟨ga, gb⟩ h1
        · exact makeR_same h1 hw
      (simp -implicitDefEqProofs only [go_sem, setA, iA]; repeat (refine GO ?_; simp -implicitDefEqProofs only [go_sem, setA, iA]))
      (first | (refine VIF.tt ?_ ?_; (· first | rfl | (simp; done) | (simp; omega))) | (refine VIF.ff ?_ ?_; (· first | rfl | (simp; done) | (simp; omega))))
      (simp -implicitDefEqProofs only [go_sem]; repeat (refine GO ?_; simp -implicitDefEqProofs only [go_sem]))
      refine .lendR (args' := [setA s, setA s]) (s18 s s (by omega) (by omega) (fun t ht => by have := hsl t ht; omega)) ⟨lent_fam (es := famC 10000 s) (ν := fun i => 10000 + (i + 1)) (tail := []) (by (simp -implicitDefEqProofs only [go_sem]; repeat (refine GO ?_; simp -implicitDefEqProofs only [go_sem]))) (by simp [famC_cells]) (fun i hi => by show famO 10000000 _ _ _ = _; rw [famO_lt (by omega)]; exact famO_row hi), .same rfl, trivial⟩ (by rintro _ ⟨t, rfl, _⟩; rfl) fun r hq => ?_
      obtain ⟨t3, rfl, ht3⟩ := hq
      rw [ht3.2 rfl]
      (simp -implicitDefEqProofs only [go_sem, bA, setA]; repeat (refine GO ?_; simp -implicitDefEqProofs only [go_sem, bA, setA]))
      obtain ⟨rfl, rfl⟩ : e2 = 0 ∧ t = a.map negI := by
        rcases ht with ⟨h, _⟩ | ⟨_, h1, h2⟩
        · exact absurd ga h
        · exact ⟨h2, h1⟩
      (simp -implicitDefEqProofs only [go_sem]; repeat (refine GO ?_; simp -implicitDefEqProofs only [go_sem]))
      (first | (refine VIF.tt ?_ ?_; (· first | rfl | (simp; done) | (simp; omega))) | (refine VIF.ff ?_ ?_; (· first | rfl | (simp; done) | (simp; omega))))
      (simp -implicitDefEqProofs only [go_sem]; repeat (refine GO ?_; simp -implicitDefEqProofs only [go_sem]))
      refine .pure _ (show Spec0 Try.prog 20 [setA a] _ from Spec1.set1 (c90 a (by omega) ha (fun t ht => good_w ga ht))) rfl fun r hq _ => ?_
      obtain ⟨_, rfl, rfl⟩ := hq
      generalize ht' : a.map negI = t at *
      (simp -implicitDefEqProofs only [go_sem, setA]; repeat (refine GO ?_; simp -implicitDefEqProofs only [go_sem, setA]))
      have htl2 : a.length = t.length := by rw [← ht', List.length_map]
      rw [htl2]
      refine .lendR (args' := [setA t, setA t]) (s18 t t (by omega) (by omega) (fun u hu => by have := htl.2 u hu; omega)) ⟨lent_fam (z := t) (es := famC 10000000 t) (ν := fun i => 10000000 + (i + 1)) (tail := []) (by (simp -implicitDefEqProofs only [go_sem]; repeat (refine GO ?_; simp -implicitDefEqProofs only [go_sem]))) (by simp [famC_cells]) (fun i hi => famO_row hi), .same rfl, trivial⟩ (by rintro _ ⟨t, rfl, _⟩; rfl) fun r hq => ?_
      obtain ⟨t5, rfl, ht5⟩ := hq
      rw [ht5.2 rfl]
      (simp -implicitDefEqProofs only [go_sem, bA, setA]; repeat (refine GO ?_; simp -implicitDefEqProofs only [go_sem, bA, setA]))
      (simp -implicitDefEqProofs only [go_sem]; repeat (refine GO ?_; simp -implicitDefEqProofs only [go_sem]))
      refine CALL.takeI (f37 s (by omega) (fun t ht => by have := hsl t ht; omega)) 10000 (fun i => 10000 + (i + 1)) (fam_nd (l := [10000]) (by decide) (by decide)) (es := famC 10000 s) (by (simp -implicitDefEqProofs only [go_sem]; repeat (refine GO ?_; simp -implicitDefEqProofs only [go_sem]))) rfl (fun i hi => by show famO 10000000 _ _ _ = _; rw [famO_lt (by omega)]; exact famO_row hi) ⟨List.mem_append_right _ (famU_mem.2 (by omega)), fun i hi => List.mem_append_right _ (famU_mem.2 (by omega))⟩ ⟨rfl, famW_mem.2 (.inl rfl), trivial⟩ 20000000 ?_ fun r O hq hO => ?_
      · simp [famU_mem]; omega
      subst hq
      have hO1 : O 10000000 = some ⟨2, famC 10000000 t⟩ := by
        rw [hO 10000000 (by omega) (by omega) (fun i hi => by omega)]
        show famO 10000000 t (famO 10000 s noOb) 10000000 = _
        exact famO_0
      have hO2 : ∀ i (h : i < t.length), O (10000000 + (i + 1)) = some (ro3 t[i].row) := fun i hi => by
        rw [hO _ (by omega) (by omega) (fun j hj => by omega)]
        exact famO_row hi
      (simp -implicitDefEqProofs only [go_sem]; repeat (refine GO ?_; simp -implicitDefEqProofs only [go_sem]))
      refine CALL.takeI (f37 t (by omega) (fun t ht => by have := htl.2 t ht; omega)) 10000000 (fun i => 10000000 + (i + 1)) (fam_nd (l := [10000000]) (by decide) (by decide)) (es := famC 10000000 t) hO1 rfl hO2 ⟨List.mem_append_left _ (famU_mem.2 (by omega)), fun i hi => List.mem_append_left _ (famU_mem.2 (by omega))⟩ ⟨rfl, famW_mem.2 (.inl rfl), trivial⟩ 20000000 ?_ fun r O2 hq _ => ?_
      · simp [famU_mem]; omega
      subst hq
      (simp -implicitDefEqProofs only [go_sem, setA]; repeat (refine GO ?_; simp -implicitDefEqProofs only [go_sem, setA]))
      refine .pure _ (show Spec0 Try.prog 9 [setA a, setA a] _ from s18 a a (by omega) (by omega) (fun t ht => by have := ha t ht; omega)) rfl fun r hq _ => ?_
      obtain ⟨t1, rfl, ht1⟩ := hq
      rw [ht1.2 rfl]
      (simp -implicitDefEqProofs only [go_sem, bA, setA]; repeat (refine GO ?_; simp -implicitDefEqProofs only [go_sem, bA, setA]))
      refine .pure _ (show Spec0 Try.prog 9 [setA b, setA b] _ from s18 b b (by omega) (by omega) (fun t ht => by have := hb t ht; omega)) rfl fun r hq _ => ?_
      obtain ⟨t2, rfl, ht2⟩ := hq
      rw [ht2.2 rfl]
      (simp -implicitDefEqProofs only [go_sem, bA, setA]; repeat (refine GO ?_; simp -implicitDefEqProofs only [go_sem, bA, setA]))
      refine .pure _ s12 rfl fun r hq _ => ?_
      subst hq
      (simp -implicitDefEqProofs only [go_sem, bA]; repeat (refine GO ?_; simp -implicitDefEqProofs only [go_sem, bA]))
    · obtain rfl : q = false := by
        cases q with
        | false => rfl
        | true => exact absurd (hq.1 rfl) gb
      obtain ⟨rfl, rfl⟩ : s = [] ∧ e1 = 1 := by
        rcases hs with ⟨_, h⟩ | ⟨_, h1, _⟩
        · exact h
        · exact absurd h1 gb
      (simp -implicitDefEqProofs only [go_sem]; repeat (refine GO ?_; simp -implicitDefEqProofs only [go_sem]))
      (first | (refine VIF.tt ?_ ?_; (· first | rfl | (simp; done) | (simp; omega))) | (refine VIF.ff ?_ ?_; (· first | rfl | (simp; done) | (simp; omega))))
      (simp -implicitDefEqProofs only [go_sem]; repeat (refine GO ?_; simp -implicitDefEqProofs only [go_sem]))
      (first | (refine VIF.tt ?_ ?_; (· first | rfl | (simp; done) | (simp; omega))) | (refine VIF.ff ?_ ?_; (· first | rfl | (simp; done) | (simp; omega))))
      obtain ⟨rfl, rfl⟩ : e2 = 0 ∧ t = a.map negI := by
        rcases ht with ⟨h, _⟩ | ⟨_, h1, h2⟩
        · exact absurd ga h
        · exact ⟨h2, h1⟩
      (simp -implicitDefEqProofs only [go_sem]; repeat (refine GO ?_; simp -implicitDefEqProofs only [go_sem]))
      (first | (refine VIF.tt ?_ ?_; (· first | rfl | (simp; done) | (simp; omega))) | (refine VIF.ff ?_ ?_; (· first | rfl | (simp; done) | (simp; omega))))
      (simp -implicitDefEqProofs only [go_sem]; repeat (refine GO ?_; simp -implicitDefEqProofs only [go_sem]))
      refine .pure _ (show Spec0 Try.prog 20 [setA a] _ from Spec1.set1 (c90 a (by omega) ha (fun t ht => good_w ga ht))) rfl fun r hq _ => ?_
      obtain ⟨_, rfl, rfl⟩ := hq
      generalize ht' : a.map negI = t at *
      (simp -implicitDefEqProofs only [go_sem, setA]; repeat (refine GO ?_; simp -implicitDefEqProofs only [go_sem, setA]))
      have htl2 : a.length = t.length := by rw [← ht', List.length_map]
      rw [htl2]
      refine .lendR (args' := [setA t, setA t]) (s18 t t (by omega) (by omega) (fun u hu => by have := htl.2 u hu; omega)) ⟨lent_fam (z := t) (es := famC 10000000 t) (ν := fun i => 10000000 + (i + 1)) (tail := []) (by (simp -implicitDefEqProofs only [go_sem]; repeat (refine GO ?_; simp -implicitDefEqProofs only [go_sem]))) (by simp [famC_cells]) (fun i hi => famO_row hi), .same rfl, trivial⟩ (by rintro _ ⟨t, rfl, _⟩; rfl) fun r hq => ?_
      obtain ⟨t5, rfl, ht5⟩ := hq
      rw [ht5.2 rfl]
      (simp -implicitDefEqProofs only [go_sem, bA, setA]; repeat (refine GO ?_; simp -implicitDefEqProofs only [go_sem, bA, setA]))
      (simp -implicitDefEqProofs only [go_sem]; repeat (refine GO ?_; simp -implicitDefEqProofs only [go_sem]))
      refine CALL.takeI (f37 ([] : List It) (by omega) (fun t ht => by exact absurd ht (by simp))) 10000 (fun i => 10000 + (i + 1)) (fam_nd (l := [10000]) (by decide) (by decide)) (es := famC 10000 ([] : List It)) (by (simp -implicitDefEqProofs only [go_sem]; repeat (refine GO ?_; simp -implicitDefEqProofs only [go_sem]))) rfl (fun i hi => by show famO 10000000 _ _ _ = _; rw [famO_lt (by omega)]; exact famO_row hi) ⟨List.mem_append_right _ (famU_mem.2 (by omega)), fun i hi => List.mem_append_right _ (famU_mem.2 (by first | omega | (simp at hi)))⟩ ⟨rfl, famW_mem.2 (.inl rfl), trivial⟩ 20000000 ?_ fun r O hq hO => ?_
      · simp [famU_mem]; omega
      subst hq
      have hO1 : O 10000000 = some ⟨2, famC 10000000 t⟩ := by
        rw [hO 10000000 (by omega) (by omega) (fun i hi => by omega)]
        show famO 10000000 t (famO 10000 [] noOb) 10000000 = _
        exact famO_0
      have hO2 : ∀ i (h : i < t.length), O (10000000 + (i + 1)) = some (ro3 t[i].row) := fun i hi => by
        rw [hO _ (by omega) (by omega) (fun j hj => by omega)]
        exact famO_row hi
      (simp -implicitDefEqProofs only [go_sem]; repeat (refine GO ?_; simp -implicitDefEqProofs only [go_sem]))
      refine CALL.takeI (f37 t (by omega) (fun t ht => by have := htl.2 t ht; omega)) 10000000 (fun i => 10000000 + (i + 1)) (fam_nd (l := [10000000]) (by decide) (by decide)) (es := famC 10000000 t) hO1 rfl hO2 ⟨List.mem_append_left _ (famU_mem.2 (by omega)), fun i hi => List.mem_append_left _ (famU_mem.2 (by omega))⟩ ⟨rfl, famW_mem.2 (.inl rfl), trivial⟩ 20000000 ?_ fun r O2 hq _ => ?_
      · simp [famU_mem]; omega
      subst hq
      (simp -implicitDefEqProofs only [go_sem, setA]; repeat (refine GO ?_; simp -implicitDefEqProofs only [go_sem, setA]))
      refine .pure _ (show Spec0 Try.prog 9 [setA a, setA a] _ from s18 a a (by omega) (by omega) (fun t ht => by have := ha t ht; omega)) rfl fun r hq _ => ?_
      obtain ⟨t1, rfl, ht1⟩ := hq
      rw [ht1.2 rfl]
      (simp -implicitDefEqProofs only [go_sem, bA, setA]; repeat (refine GO ?_; simp -implicitDefEqProofs only [go_sem, bA, setA]))
      refine .pure _ (show Spec0 Try.prog 9 [setA b, setA b] _ from s18 b b (by omega) (by omega) (fun t ht => by have := hb t ht; omega)) rfl fun r hq _ => ?_
      obtain ⟨t2, rfl, ht2⟩ := hq
      rw [ht2.2 rfl]
      (simp -implicitDefEqProofs only [go_sem, bA, setA]; repeat (refine GO ?_; simp -implicitDefEqProofs only [go_sem, bA, setA]))
      refine .pure _ s12 rfl fun r hq _ => ?_
      subst hq
      (simp -implicitDefEqProofs only [go_sem, bA]; repeat (refine GO ?_; simp -implicitDefEqProofs only [go_sem, bA]))
  · obtain rfl : c = 1 := hc.resolve_left fun h => ga (hcg.1 h)
    obtain rfl : p = false := by
      cases p with
      | false => rfl
      | true => exact absurd (hp.1 rfl) ga
    obtain ⟨rfl, rfl⟩ : s = [] ∧ e1 = 1 := by
      rcases hs with ⟨_, h⟩ | ⟨h1, _⟩
      · exact h
      · exact absurd h1 ga
    obtain ⟨rfl, rfl⟩ : t = [] ∧ e2 = 1 := by
      rcases ht with ⟨_, h⟩ | ⟨h1, _⟩
      · exact h
      · exact absurd h1 ga
    (first | (refine VIF.tt ?_ ?_; (· first | rfl | (simp; done) | (simp; omega))) | (refine VIF.ff ?_ ?_; (· first | rfl | (simp; done) | (simp; omega))))
    (simp -implicitDefEqProofs only [go_sem]; repeat (refine GO ?_; simp -implicitDefEqProofs only [go_sem]))
    refine .pure _ (show Spec0 Try.prog 18 [setA a] _ from s16 a (by omega) (fun t ht => by have := ha t ht; omega)) rfl fun z hz _ => ?_
    obtain ⟨c', rfl, hc', hcg'⟩ := hz
    obtain rfl : c' = 1 := hc'.resolve_left fun h => ga (hcg'.1 h)
    (simp -implicitDefEqProofs only [go_sem, iA]; repeat (refine GO ?_; simp -implicitDefEqProofs only [go_sem, iA]))
    (first | (refine VIF.tt ?_ ?_; (· first | rfl | (simp; done) | (simp; omega))) | (refine VIF.ff ?_ ?_; (· first | rfl | (simp; done) | (simp; omega))))
    (simp -implicitDefEqProofs only [go_sem]; repeat (refine GO ?_; simp -implicitDefEqProofs only [go_sem]))
    (first | (refine VIF.tt ?_ ?_; (· first | rfl | (simp; done) | (simp; omega))) | (refine VIF.ff ?_ ?_; (· first | rfl | (simp; done) | (simp; omega))))
    (simp -implicitDefEqProofs only [go_sem]; repeat (refine GO ?_; simp -implicitDefEqProofs only [go_sem]))
    (first | (refine VIF.tt ?_ ?_; (· first | rfl | (simp; done) | (simp; omega))) | (refine VIF.ff ?_ ?_; (· first | rfl | (simp; done) | (simp; omega))))
    (simp -implicitDefEqProofs only [go_sem]; repeat (refine GO ?_; simp -implicitDefEqProofs only [go_sem]))
    (first | (refine VIF.tt ?_ ?_; (· first | rfl | (simp; done) | (simp; omega))) | (refine VIF.ff ?_ ?_; (· first | rfl | (simp; done) | (simp; omega))))
    (simp -implicitDefEqProofs only [go_sem]; repeat (refine GO ?_; simp -implicitDefEqProofs only [go_sem]))
    (simp -implicitDefEqProofs only [go_sem]; repeat (refine GO ?_; simp -implicitDefEqProofs only [go_sem]))
    (first | (refine VIF.tt ?_ ?_; (· first | rfl | (simp; done) | (simp; omega))) | (refine VIF.ff ?_ ?_; (· first | rfl | (simp; done) | (simp; omega))))
    (simp -implicitDefEqProofs only [go_sem]; repeat (refine GO ?_; simp -implicitDefEqProofs only [go_sem]))
    refine CALL.takeI (f37 ([] : List It) (by omega) (fun t ht => by exact absurd ht (by simp))) 10000 (fun i => 10000 + (i + 1)) (fam_nd (l := [10000]) (by decide) (by decide)) (es := famC 10000 ([] : List It)) (by (simp -implicitDefEqProofs only [go_sem]; repeat (refine GO ?_; simp -implicitDefEqProofs only [go_sem]))) rfl (fun i hi => by show famO 10000000 _ _ _ = _; rw [famO_lt (by omega)]; exact famO_row hi) ⟨List.mem_append_right _ (famU_mem.2 (by omega)), fun i hi => List.mem_append_right _ (famU_mem.2 (by first | omega | (simp at hi)))⟩ ⟨rfl, famW_mem.2 (.inl rfl), trivial⟩ 20000000 ?_ fun r O hq hO => ?_
    · simp [famU_mem]; omega
    subst hq
    have hO1 : O 10000000 = some ⟨2, famC 10000000 ([] : List It)⟩ := by
      rw [hO 10000000 (by omega) (by omega) (fun i hi => by simp at hi)]
      show famO 10000000 [] (famO 10000 [] noOb) 10000000 = _
      exact famO_0
    have hO2 : ∀ i (h : i < ([] : List It).length), O (10000000 + (i + 1)) = some (ro3 ([] : List It)[i].row) := fun i hi => by
      rw [hO _ (by omega) (by omega) (fun j hj => by omega)]
      exact famO_row hi
    (simp -implicitDefEqProofs only [go_sem]; repeat (refine GO ?_; simp -implicitDefEqProofs only [go_sem]))
    refine CALL.takeI (f37 ([] : List It) (by omega) (fun t ht => by exact absurd ht (by simp))) 10000000 (fun i => 10000000 + (i + 1)) (fam_nd (l := [10000000]) (by decide) (by decide)) (es := famC 10000000 ([] : List It)) hO1 rfl hO2 ⟨List.mem_append_left _ (famU_mem.2 (by omega)), fun i hi => List.mem_append_left _ (famU_mem.2 (by first | omega | (simp at hi)))⟩ ⟨rfl, famW_mem.2 (.inl rfl), trivial⟩ 20000000 ?_ fun r O2 hq _ => ?_
    · simp [famU_mem]; omega
    subst hq
    (simp -implicitDefEqProofs only [go_sem, setA]; repeat (refine GO ?_; simp -implicitDefEqProofs only [go_sem, setA]))
    refine .pure _ (show Spec0 Try.prog 9 [setA a, setA a] _ from s18 a a (by omega) (by omega) (fun t ht => by have := ha t ht; omega)) rfl fun r hq _ => ?_
    obtain ⟨t1, rfl, ht1⟩ := hq
    rw [ht1.2 rfl]
    (simp -implicitDefEqProofs only [go_sem, bA, setA]; repeat (refine GO ?_; simp -implicitDefEqProofs only [go_sem, bA, setA]))
    refine .pure _ (show Spec0 Try.prog 9 [setA b, setA b] _ from s18 b b (by omega) (by omega) (fun t ht => by have := hb t ht; omega)) rfl fun r hq _ => ?_
    obtain ⟨t2, rfl, ht2⟩ := hq
    rw [ht2.2 rfl]
    (simp -implicitDefEqProofs only [go_sem, bA, setA]; repeat (refine GO ?_; simp -implicitDefEqProofs only [go_sem, bA, setA]))
    refine .pure _ s12 rfl fun r hq _ => ?_
    subst hq
    (simp -implicitDefEqProofs only [go_sem, bA]; repeat (refine GO ?_; simp -implicitDefEqProofs only [go_sem, bA]))
end Yt
namespace Yt
open Go Go.Vc Go.Proofs Go.Proofs.Ytdjphppkknffbaa
set_option linter.unusedSimpArgs false
set_option linter.unusedVariables false
mutual
theorem bulk_le {H : Type} {B : Nat} : ∀ d : DataW H, Rows.uptoBulk d ≤ B → bulkLe B d
  | .lit l, h => by
    cases l with
    | string bs => simp only [Rows.uptoBulk] at h; simp only [bulkLe]; omega
    | _ => simp only [bulkLe]
  | .nil, _ => by simp only [bulkLe]
  | .ptr d, _ => by simp only [bulkLe]
  | .slice elems spare, h => by
    simp only [Rows.uptoBulk] at h
    have h2 := bulks_len elems
    simp only [bulkLe]
    exact ⟨by omega, bulks_le elems (by omega)⟩
  | .agg ds, h => by
    simp only [Rows.uptoBulk] at h
    simp only [bulkLe]
    exact bulks_le ds (by omega)
  | .iface _ _, _ => by simp only [bulkLe]
  | .map _, _ => by simp only [bulkLe]
  | .held _, _ => by simp only [bulkLe]
theorem bulks_le {H : Type} {B : Nat} : ∀ ds : List (DataW H), Rows.uptoBulkAll ds ≤ B → bulkLe.bulkLes B ds
  | [], _ => trivial
  | d :: r, h => by
    simp only [Rows.uptoBulkAll] at h
    exact ⟨bulk_le d (by omega), bulks_le r (by omega)⟩
theorem bulk_pos {H : Type} : ∀ d : DataW H, 1 ≤ Rows.uptoBulk d
  | .lit l => by cases l <;> simp [Rows.uptoBulk]
  | .nil => by simp [Rows.uptoBulk]
  | .ptr d => by simp [Rows.uptoBulk]
  | .slice elems spare => by simp [Rows.uptoBulk]
  | .agg ds => by simp [Rows.uptoBulk]
  | .iface _ _ => by simp [Rows.uptoBulk]
  | .map _ => by simp [Rows.uptoBulk]
  | .held _ => by simp [Rows.uptoBulk]
theorem bulks_len {H : Type} : ∀ ds : List (DataW H), ds.length ≤ Rows.uptoBulkAll ds
  | [] => by simp
  | d :: r => by
    have := bulk_pos d
    have := bulks_len r
    simp only [Rows.uptoBulkAll, List.length_cons]; omega
end
theorem bound {H : Type} {l : List (DataW H)} (hk : Rows.uptoSmall H l = true) : bulkLe.bulkLes 1048576 l := bulks_le l (of_decide_eq_true hk)
theorem kids : Kids Try.prog (· < Try.prog.types.size) := kids_rows (by kernel_rfl) (by kernel_rfl)
def szOk (P : Program) : Bool := (List.range P.types.size).all fun t => match P.underlying t with | some (.slice e) => decide (0 < P.cellsOf e) | _ => true
theorem szOk_to {P : Program} (h : szOk P = true) {t e : TypeId} (ht : t < P.types.size) (hu : P.underlying t = some (.slice e)) : 0 < P.cellsOf e := by
  have := List.all_eq_true.1 h t (by simpa using ht)
  rw [hu] at this
  simpa using this
theorem sizes {t e : TypeId} (ht : t < Try.prog.types.size) (hu : Try.prog.underlying t = some (.slice e)) : 0 < Try.prog.cellsOf e := szOk_to (by kernel_rfl) ht hu
def i64 (n : Int) : Prop := -9223372036854775808 ≤ n ∧ n ≤ 9223372036854775807
theorem i64_of {n : Int} (h : (Lit.int .i64 n).wf = true) : i64 n := by
  simp [Lit.wf, IntKind.min, IntKind.max, IntKind.signed, IntKind.bits] at h
  exact h
def V.fit (v : V) : Prop := i64 v.k ∧ i64 v.i ∧ v.s.size ≤ 1048576
def It.fit (t : It) : Prop := t.row.length ≤ 1048576 ∧ i64 t.w
theorem cellsV : Try.prog.cellsOf 57 = 3 := by kernel_rfl
theorem cellsI : Try.prog.cellsOf 41 = 2 := by kernel_rfl
theorem shVal {avs : List AV} (h : Sh Try.prog 1048576 57 avs) : ∃ v : V, avs = v.c ∧ v.fit := by
  obtain ⟨xs, rfl, hl, hf⟩ := sh_struct Try.underlying57 h
  match xs, hl with
  | [a, b, c], _ =>
    obtain ⟨k, rfl, hk⟩ := sh_int Try.underlying3 (hf 0 _ a rfl rfl)
    obtain ⟨i, rfl, hi⟩ := sh_int Try.underlying3 (hf 1 _ b rfl rfl)
    obtain ⟨s, rfl, hs⟩ := sh_str Try.underlying9 (hf 2 _ c rfl rfl)
    exact ⟨⟨k, i, s⟩, rfl, i64_of hk, i64_of hi, hs⟩
theorem shRow {avs : List AV} (h : Sh Try.prog 1048576 23 avs) : ∃ r : List V, avs = [rowA r] ∧ r.length ≤ 1048576 := by
  obtain ⟨es, rfl, hl, he⟩ := sh_slice Try.underlying23 h
  obtain ⟨l, rfl, _⟩ := map_choose fun x hx => shVal (he x hx)
  rw [cellsV]
  exact ⟨l, rfl, by simpa using hl⟩
theorem shItem {avs : List AV} (h : Sh Try.prog 1048576 41 avs) : ∃ t : It, avs = t.c ∧ t.fit := by
  obtain ⟨xs, rfl, hl, hf⟩ := sh_struct Try.underlying41 h
  match xs, hl with
  | [a, b], _ =>
    obtain ⟨r, rfl, hr⟩ := shRow (hf 0 _ a rfl rfl)
    obtain ⟨w, rfl, hw⟩ := sh_int Try.underlying3 (hf 1 _ b rfl rfl)
    exact ⟨⟨r, w⟩, rfl, hr, i64_of hw⟩
theorem shSet {avs : List AV} (h : Sh Try.prog 1048576 22 avs) : ∃ l : List It, avs = [setA l] ∧ l.length ≤ 1048576 ∧ ∀ t ∈ l, t.fit := by
  obtain ⟨es, rfl, hl, he⟩ := sh_slice Try.underlying22 h
  obtain ⟨l, rfl, h2⟩ := map_choose fun x hx => shItem (he x hx)
  rw [cellsI]
  exact ⟨l, rfl, by simpa using hl, h2⟩
theorem own : ownKnob Try.prog.godebug = none := by kernel_rfl
def signs : List Char := [Char.ofNat 104, Char.ofNat 97, Char.ofNat 114, Char.ofNat 110, Char.ofNat 101, Char.ofNat 115, Char.ofNat 115, Char.ofNat 32, Char.ofNat 51, Char.ofNat 97, Char.ofNat 57, Char.ofNat 102, Char.ofNat 100, Char.ofNat 99, Char.ofNat 101, Char.ofNat 102, Char.ofNat 97, Char.ofNat 48, Char.ofNat 101, Char.ofNat 56, Char.ofNat 102, Char.ofNat 102, Char.ofNat 55, Char.ofNat 57, Char.ofNat 48, Char.ofNat 97, Char.ofNat 55, Char.ofNat 102, Char.ofNat 102, Char.ofNat 100, Char.ofNat 53, Char.ofNat 101, Char.ofNat 98, Char.ofNat 55, Char.ofNat 54, Char.ofNat 98, Char.ofNat 102, Char.ofNat 102, Char.ofNat 53, Char.ofNat 49, Char.ofNat 98, Char.ofNat 99, Char.ofNat 56, Char.ofNat 50, Char.ofNat 52, Char.ofNat 97, Char.ofNat 101, Char.ofNat 57, Char.ofNat 102, Char.ofNat 50, Char.ofNat 97, Char.ofNat 54, Char.ofNat 51, Char.ofNat 55, Char.ofNat 51, Char.ofNat 98, Char.ofNat 102, Char.ofNat 97, Char.ofNat 49, Char.ofNat 101, Char.ofNat 101, Char.ofNat 50, Char.ofNat 102, Char.ofNat 53, Char.ofNat 98, Char.ofNat 97, Char.ofNat 50, Char.ofNat 55, Char.ofNat 49, Char.ofNat 49, Char.ofNat 98, Char.ofNat 51, Char.ofNat 32, Char.ofNat 99, Char.ofNat 117, Char.ofNat 116, Char.ofNat 32, Char.ofNat 97, Char.ofNat 116, Char.ofNat 32, Char.ofNat 114, Char.ofNat 97, Char.ofNat 100, Char.ofNat 100, Char.ofNat 108, Char.ofNat 101, Char.ofNat 47, Char.ofNat 114, Char.ofNat 97, Char.ofNat 100, Char.ofNat 100, Char.ofNat 108, Char.ofNat 101, Char.ofNat 108, Char.ofNat 97, Char.ofNat 119, Char.ofNat 49, Char.ofNat 52, Char.ofNat 46, Char.ofNat 83, Char.ofNat 101, Char.ofNat 116, Char.ofNat 69, Char.ofNat 120, Char.ofNat 97, Char.ofNat 99, Char.ofNat 116]
theorem words_eq : headIs Try.prog ([Char.ofNat 99, Char.ofNat 117, Char.ofNat 116] :: [[Char.ofNat 97, Char.ofNat 116], [Char.ofNat 114, Char.ofNat 97, Char.ofNat 100, Char.ofNat 100, Char.ofNat 108, Char.ofNat 101, Char.ofNat 47, Char.ofNat 114, Char.ofNat 97, Char.ofNat 100, Char.ofNat 100, Char.ofNat 108, Char.ofNat 101, Char.ofNat 108, Char.ofNat 97, Char.ofNat 119, Char.ofNat 49, Char.ofNat 52, Char.ofNat 46, Char.ofNat 83, Char.ofNat 101, Char.ofNat 116, Char.ofNat 69, Char.ofNat 120, Char.ofNat 97, Char.ofNat 99, Char.ofNat 116]]) := head_of (l := signs) (by kernel_rfl) (by kernel_rfl)
theorem laid : laidOutB Try.prog = true := by kernel_rfl
theorem rowed : mapsRowed Try.prog = true := by kernel_rfl
theorem heard : Try.prog.stopsHeard = true := by kernel_rfl
theorem plain : Try.prog.plainKeys = true := by kernel_rfl
theorem doorRows : Try.prog.doorRows = [] := by kernel_rfl
theorem laysLater : Try.prog.laysLater = false := by kernel_rfl
theorem bearsReflect : Try.prog.bearsReflect = false := by kernel_rfl
theorem cutMade : Try.prog.make = some .cut := make_of words_eq (by kernel_rfl) (by kernel_rfl)
theorem cutLifts : Try.prog.liftsFinal = false := lifts_of words_eq (by kernel_rfl) (by kernel_rfl) (by kernel_rfl)
theorem cutEnter : Try.prog.mayEnter = true := enter_of words_eq (by kernel_rfl) (by kernel_rfl) (by kernel_rfl) (by kernel_rfl) doorRows laysLater bearsReflect
end Yt
