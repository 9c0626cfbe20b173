/- Contracts of the program's functions over abstract values and states, plain facts on which these lean, and the framework of these values over the model: A set spoilt. Twins of sets; the page's Distinct, Add, Neg, Minus. The law DistExact. From the statement's arguments to those of the walks. The conditions stand in each theorem. -/
import Derived.Test.YtbnbngkbngmndaaBf
import Derived.Test.YtbnbngkbngmndaaBc
import Derived.JoinedCond
import Derived.WalkKit
import Derived.ProofKit
import Derived.Test.YtbnbngkbngmndaaRows
set_option linter.all false
namespace Yt
open Go Go.Vc Go.Proofs
set_option maxRecDepth 10000
set_option maxHeartbeats 8000000
set_option linter.unusedSimpArgs false
set_option linter.unusedVariables false
/-- A call that is handed a set, its rows, too, and keeps them. -/
theorem CALL.takeI {P : Program} {f : Nat} {args args' : List AV} {st : St} {d : Option Nat} {K : St → Prop} {R : AV → Prop} {z : List It} (h : FunSpecD P f args' noOb (famI z 0) (famW z.length) fun r O' => (R r ∧ r.flat = true) ∧ O' = noOb) (a : Nat) (ν : Nat → Nat)
    (hnd : (a :: (List.range z.length).map ν).Nodup) {es : List (List AV)} (ha : st.objs a = some ⟨2, es⟩) (hes : es = cellsN ν z) (hrow : ∀ i (h : i < z.length), st.objs (ν i) = some (ro3 z[i].row))
    (hu : a ∈ st.used ∧ ∀ i < z.length, ν i ∈ st.used) (hargs : args = rns (rhoF a ν) args' ∧ inNs (· ∈ famW z.length) args') (b : Nat) (hb : ∀ n ∈ st.used, n < b)
    (k : ∀ r O, R r → (∀ n, n < b → n ≠ a → (∀ i < z.length, n ≠ ν i) → O n = st.objs n) → K { regs := (st.put d r).regs, objs := O, used := st.used }) : CALL P f args st d K := by
  subst hes
  have h' : FunSpecD P f args' (kept false (famI z 0)) (famI z 0) (famW z.length) fun r O' => (R r ∧ r.flat = true) ∧ O' = noOb := by rw [kept_false]; exact h
  have inj : ∀ i ∈ famW z.length, ∀ j ∈ famW z.length, rhoF a ν i = rhoF a ν j → i = j := fun i hi j hj e => by
    rw [famW_mem] at hi hj
    rw [List.nodup_cons] at hnd
    have hν : ∀ i j, i < z.length → j < z.length → ν i = ν j → i = j := fun i j hi hj e => by
      have := hnd.2
      rw [List.Nodup, List.pairwise_map] at this
      rcases Nat.lt_trichotomy i j with h | h | h
      · have := List.pairwise_iff_getElem.1 this i j (by simpa using hi) (by simpa using hj) h
        simp only [List.getElem_range] at this; exact absurd e this
      · exact h
      · have := List.pairwise_iff_getElem.1 this j i (by simpa using hj) (by simpa using hi) h
        simp only [List.getElem_range] at this; exact absurd e.symm this
    have hn : ∀ i, i < z.length → ν i ≠ a := fun i hi e => hnd.1 (e ▸ List.mem_map_of_mem (List.mem_range.2 hi))
    rcases hi with rfl | ⟨i, hi, rfl⟩ <;> rcases hj with rfl | ⟨j, hj, rfl⟩
    · rfl
    · rw [rhoF_0, rhoF_row] at e; exact absurd e.symm (hn j hj)
    · rw [rhoF_0, rhoF_row] at e; exact absurd e (hn i hi)
    · rw [rhoF_row, rhoF_row] at e; rw [hν i j hi hj e]
  have key := dep_sem (objs := st.objs) (used := st.used) (args := args) h' (rhoF a ν) inj (fun i o ho => famI_closed ho) (fun h => by cases h)
    (fun i o ho => by
      rcases famI_cases ho with ⟨rfl, rfl⟩ | ⟨i, hi, rfl, rfl⟩
      · rw [rhoF_0, ha, Ob.rn]
        simp only [List.map_append, List.map_replicate, zc_rn, famC_rho, List.replicate_zero, List.append_nil]
      · rw [rhoF_row, ro3_rn]; exact hrow i hi)
    (fun i hi => by
      rcases famW_mem.1 hi with rfl | ⟨k, hk, rfl⟩
      · exact hu.1
      · rw [rhoF_row]; exact hu.2 k hk) hargs b hb
    (fun _ _ => []) (fun r O' hR => by
      obtain ⟨⟨_, hf⟩, rfl⟩ := hR
      exact ⟨(fun i o ho => by cases ho), (noId_rn (ρ := id) _ (flat_noId _ hf)).2⟩)
  refine .sem _ key fun u O U hX => ?_
  obtain ⟨r, O', ⟨⟨hR, hf⟩, rfl⟩, rfl, rfl, rfl⟩ := hX
  have e1 : r.rn (nmD false (rhoF a ν 0) b) = r := (noId_rn (p := fun _ => True) _ (flat_noId _ hf)).1
  have := k r (depO false (rhoF a ν 0) b (List.map (rhoF a ν) (famW z.length)) noOb st.objs) hR fun n hn h1 h2 => by
    simp only [depO, Bool.false_eq_true, false_and, if_false]
    rw [if_neg (by omega), if_neg]
    intro hm
    obtain ⟨i, hi, rfl⟩ := List.mem_map.1 hm
    rcases famW_mem.1 hi with rfl | ⟨k, hk, rfl⟩
    · exact h1 rhoF_0
    · exact h2 k hk rhoF_row
  simp only [e1, List.map_nil, List.nil_append]
  exact this
theorem EL_fam {b : Nat} {z : List It} {i : Nat} {K : List AV → Prop} (h : i < z.length) (k : K [.rf (b + (i + 1)) 0 z[i].row.length, iA z[i].w]) : EL (famC b z) i K :=
  ⟨_, by rw [List.getElem?_eq_getElem (by simpa [famC_len] using h), famC_get h], k⟩
@[go_sem] theorem upd_fam' {α : Type} {b i k : Nat} {f : Nat → α} {v : α} (h : (k ≤ b) = True) : upd f (b + (i + 1)) v k = f k := by
  have : k ≤ b := by rw [h]; trivial
  exact upd_ne' _ _ (by omega)
theorem famC_put {b : Nat} {y : List It} {i : Nat} {r : List V} {w : Int} (h : i < y.length) (hr : r.length = y[i].row.length) : (famC b y).set i [.rf (b + (i + 1)) 0 y[i].row.length, iA w] = famC b (y.set i ⟨r, w⟩) := by
  refine List.ext_getElem (by simp [famC_len]) fun j q1 q2 => ?_
  have hj : j < y.length := by simpa [famC_len] using q1
  rw [List.getElem_set, famC_get (z := y) hj, famC_get (z := y.set i ⟨r, w⟩) (by simpa using hj)]
  by_cases e : i = j
  · subst e; simp [hr]
  · simp [e]
theorem f37 (z : List It) (hl : z.length ≤ 1048576) (hr : ∀ t ∈ z, t.row.length ≤ 1073741824) : FunSpecD Try.prog 37 [.rf 1000 0 z.length] noOb (famI z 0) (famW z.length) fun r O' => (r = .tu [] ∧ r.flat = true) ∧ O' = noOb := by
  refine funspecD_of_vc tabOk elems ord37 Try.func37 rfl (rl := []) rfl (by kernel_rfl) rfl (fun _ h => absurd rfl h) ?_
  (simp -implicitDefEqProofs only [go_sem, famI, famW, List.replicate_zero, List.append_nil]; repeat (refine GO ?_; simp -implicitDefEqProofs only [go_sem, famI, famW, List.replicate_zero, List.append_nil]))
  refine LOOP.mk (ι := { p : Nat × List It // p.1 ≤ z.length ∧ p.2.length = z.length ∧ ∀ j (h1 : j < p.2.length) (h2 : j < z.length), p.2[j].row.length = z[j].row.length }) (fun p => mkS [(0, .rf 1000 0 z.length), (2, iA p.1.1)] ([(1000, ⟨2, famC 2000 p.1.2⟩)] ++ famL 2000 p.1.2) ([1000] ++ famN 2000 z.length)) (fun p => z.length - p.1.1) ⟨(0, z), Nat.zero_le _, rfl, fun _ _ _ => rfl⟩ ([(1000, some 1000)] ++ famM 2000 z.length fun i => 2000 + (i + 1)) rfl (fam_nmOk rfl (fam_nd (by decide) (by decide))) ?_ (fun p => ?_)
  · (simp -implicitDefEqProofs only [go_sem, iA]; repeat (refine GO ?_; simp -implicitDefEqProofs only [go_sem, iA]))
    exact ⟨id, rfl, fam_es rfl fun i hi => fam_nms (m1 := [(1000, some 1000)]) (by simp) hi, fam_eobs (ν := fun i => 2000 + (i + 1)) fun i hi => ⟨fam_nms (m1 := [(1000, some 1000)]) (by simp) hi, by (simp -implicitDefEqProofs only [go_sem]; repeat (refine GO ?_; simp -implicitDefEqProofs only [go_sem])); exact famL_get hi⟩⟩
  · obtain ⟨⟨i, y⟩, hi, hyl, hyr⟩ := p
    simp only at hi hyl hyr
    (simp -implicitDefEqProofs only [go_sem, iA]; repeat (refine GO ?_; simp -implicitDefEqProofs only [go_sem, iA]))
    refine VIF.split (fun h1 => ?_) (fun h1 => ?_)
    · have h1 : i < z.length := by simpa using h1
      have h2 : i < y.length := by omega
      have w1 := wrap_add1 (show i < 4611686018427387904 by omega)
      have hlen := hyr i h2 h1
      have hrz := hr _ (List.getElem_mem h1)
      (simp -implicitDefEqProofs only [go_sem]; repeat (refine GO ?_; simp -implicitDefEqProofs only [go_sem]))
      refine ⟨by omega, ?_⟩
      refine EL_fam h2 ?_
      (simp -implicitDefEqProofs only [go_sem]; repeat (refine GO ?_; simp -implicitDefEqProofs only [go_sem]))
      refine .obj (2000 + (i + 1)) (ro3 y[i].row) _ [.rf 0 0 y[i].row.length] (s89 y[i].row (by omega)) (by (simp -implicitDefEqProofs only [go_sem]; repeat (refine GO ?_; simp -implicitDefEqProofs only [go_sem])); exact famL_get h2) (ro3_leafy _) rfl rfl fun r o' hr _ _ => ?_
      obtain ⟨rfl, r', hr', rfl⟩ := hr
      (simp -implicitDefEqProofs only [go_sem]; repeat (refine GO ?_; simp -implicitDefEqProofs only [go_sem]))
      refine ⟨by omega, EL_fam h2 ?_⟩
      (simp -implicitDefEqProofs only [go_sem, w1]; repeat (refine GO ?_; simp -implicitDefEqProofs only [go_sem, w1]))
      refine BACK.mk ⟨(i + 1, y.set i ⟨r', -7777⟩), by omega, by simp [hyl], fun j q1 q2 => ?_⟩ ([(1000, some 1000)] ++ famM 2000 z.length fun i => 2000 + (i + 1)) rfl (fam_nmOk rfl (fam_nd (by decide) (by decide))) (by show z.length - (i + 1) < z.length - i; omega) ?_
      · show (y.set i ⟨r', -7777⟩)[j].row.length = _
        rw [List.getElem_set]
        by_cases e : i = j
        · subst e; simp only [if_pos]; omega
        · rw [if_neg e]; exact hyr j (by omega) q2
      (simp -implicitDefEqProofs only [go_sem, iA, w1]; repeat (refine GO ?_; simp -implicitDefEqProofs only [go_sem, iA, w1]))
      have e1 := famC_put (b := 2000) (i := i) (y := y) (r := r') (w := -7777) h2 hr'
      simp only [iA] at e1
      rw [e1]
      refine ⟨id, fam_es rfl fun i hi => fam_nms (m1 := [(1000, some 1000)]) (by simp) (by simp at hi; omega), fam_eobs (ν := fun i => 2000 + (i + 1)) fun j hj => ⟨fam_nms (m1 := [(1000, some 1000)]) (by simp) (by simp at hj; omega), ?_⟩⟩
      have hj' : j < y.length := by simpa using hj
      rw [List.getElem_set]
      by_cases e : i = j
      · subst e
        simp only [if_pos]
        show upd (upd _ (2000 + (i + 1)) (some (ro3 r'))) 1000 _ (2000 + (i + 1)) = _
        rw [upd_ne' _ _ (by omega)]; simp [upd]
      · simp only [if_neg e]
        show upd (upd _ (2000 + (i + 1)) (some (ro3 r'))) 1000 _ (2000 + (j + 1)) = _
        rw [upd_ne' _ _ (by omega), upd_ne' _ _ (by omega)]
        (simp -implicitDefEqProofs only [go_sem]; repeat (refine GO ?_; simp -implicitDefEqProofs only [go_sem]))
        exact famL_get hj'
    · (simp -implicitDefEqProofs only [go_sem]; repeat (refine GO ?_; simp -implicitDefEqProofs only [go_sem]))
      refine FINmk [] [] [] [] rfl ⟨trivial, trivial⟩ ?_
      exact ⟨⟨rfl, rfl⟩, rfl⟩
end Yt
namespace Yt
open Go Go.Vc Go.Proofs
set_option maxRecDepth 10000
set_option maxHeartbeats 8000000
set_option linter.unusedSimpArgs false
set_option linter.unusedVariables false
theorem makeR_same {z o o' : List It} {e e' : Int} (h : MakeR z o e) (h' : MakeR z o' e') : o = o' ∧ e = e' := by
  rcases h with ⟨h1, rfl, rfl⟩ | ⟨h1, rfl, rfl, r, hr⟩ | ⟨h1, rfl, hm, ht, _⟩
  · obtain ⟨h2, h3⟩ := makeR_bad h' h1
    exact ⟨h2.symm, h3.symm⟩
  · obtain ⟨h2, h3⟩ := makeR_over h' h1 hr
    exact ⟨h2.symm, h3.symm⟩
  · obtain ⟨h2, h3⟩ := makeR_ok h' h1 hm ht
    exact ⟨h2.symm, h3.symm⟩
theorem Spec1.rowC {f : Nat} {args : List AV} {z : List V} (h : Spec1 Try.prog f args (fun r o => r = .rf 0 0 z.length ∧ o = ro3 z)) : Spec0 Try.prog f args (· = rowA z) :=
  (Spec1.fz h).mono fun r O' ⟨⟨⟨r0, o, ⟨e1, e2⟩, _, _, e3⟩, hn⟩, hO⟩ => by
    subst e1; subst e2; subst e3
    exact ⟨⟨fz_ro3 z, hn⟩, hO⟩
theorem c31 (z : List It) (hl : z.length ≤ 1048576) (hr : ∀ t ∈ z, t.row.length < 1073741824) :
    Spec1 Try.prog 31 [setA z] (fun r o => r = .rf 0 0 z.length ∧ o = so z) := by
  refine spec1_of_vc tabOk elems ord31 Try.func31 rfl (rl := [.tmp 2]) rfl (by kernel_rfl) rfl ?_
  (simp -implicitDefEqProofs only [go_sem, setA]; repeat (refine GO ?_; simp -implicitDefEqProofs only [go_sem, setA]))
  refine LOOP.mk (ι := { i : Nat // i ≤ z.length }) (fun p => mkS [(0, setA z), (3, .rf 1000 0 p.1), (4, iA p.1)] [(1000, so (z.take p.1))] [1000]) (fun p => z.length - p.1) ⟨0, Nat.zero_le _⟩ [(1000, none)] rfl rfl ?_ (fun p => ?_)
  · (simp -implicitDefEqProofs only [go_sem, setA, iA, so]; repeat (refine GO ?_; simp -implicitDefEqProofs only [go_sem, setA, iA, so]))
    simp
  obtain ⟨i, hi⟩ := p
  (simp -implicitDefEqProofs only [go_sem, setA, iA, so]; repeat (refine GO ?_; simp -implicitDefEqProofs only [go_sem, setA, iA, so]))
  refine VIF.split (fun h1 => ?_) (fun h1 => ?_)
  · have h1 : i < z.length := by simpa using h1
    have w1 := wrap_add1 (show i < 4611686018427387904 by omega)
    (simp -implicitDefEqProofs only [go_sem]; repeat (refine GO ?_; simp -implicitDefEqProofs only [go_sem]))
    refine EL.map h1 ?_
    (simp -implicitDefEqProofs only [go_sem, It.c]; repeat (refine GO ?_; simp -implicitDefEqProofs only [go_sem, It.c]))
    refine EL.map h1 ?_
    (simp -implicitDefEqProofs only [go_sem, It.c]; repeat (refine GO ?_; simp -implicitDefEqProofs only [go_sem, It.c]))
    refine .pure _ (show Spec0 Try.prog 45 [.im 3 (List.map V.c z[i].row)] _ from Spec1.rowC (s52 z[i].row (by have := hr _ (List.getElem_mem h1); omega))) rfl fun r hq _ => ?_
    subst hq
    (simp -implicitDefEqProofs only [go_sem, rowA, iA]; repeat (refine GO ?_; simp -implicitDefEqProofs only [go_sem, rowA, iA]))
    refine ⟨by omega, ?_⟩
    (simp -implicitDefEqProofs only [go_sem, w1]; repeat (refine GO ?_; simp -implicitDefEqProofs only [go_sem, w1]))
    refine BACK.mk ⟨i + 1, by omega⟩ [(1000, some 25)] rfl rfl (by show z.length - (i + 1) < z.length - i; omega) ?_
    (simp -implicitDefEqProofs only [go_sem, setA, iA, so, w1]; repeat (refine GO ?_; simp -implicitDefEqProofs only [go_sem, setA, iA, so, w1]))
    rw [List.take_of_length_le (l := List.map It.c (List.take i z)) (by simp; omega)]
    exact ⟨id, so_snoc (l := z.take i) (t := z[i]) (List.take_succ_eq_append_getElem h1)⟩
  · have h1 : i = z.length := by simp at h1; omega
    subst h1
    (simp -implicitDefEqProofs only [go_sem, List.take_length]; repeat (refine GO ?_; simp -implicitDefEqProofs only [go_sem, List.take_length]))
    refine FINmk [(0, some 1000)] [(2, .rf 0 0 z.length)] [(0, so z)] [0] rfl ?_ ?_
    · (simp -implicitDefEqProofs only [go_sem, so]; repeat (refine GO ?_; simp -implicitDefEqProofs only [go_sem, so]))
      exact .same (so z) _ _ (so_leafy z) rfl
    · exact ⟨so z, ⟨⟨rfl, rfl⟩, rfl⟩, so_leafy z, rfl⟩
/-- Of weight above 0, each once. -/
def posL (z : List It) : List It := (z.filter fun t => decide (0 < t.w)).map fun t => oneI t.row
theorem c36 (z : List It) (hl : z.length ≤ 1048576) (hr : ∀ t ∈ z, t.row.length < 1073741824) :
    Spec1 Try.prog 36 [setA z] (fun r o => ∃ out : List It, r = .rf 0 0 out.length ∧ o = so out ∧ out = posL z) := by
  refine spec1_of_vc tabOk elems ord36 Try.func36 rfl (rl := [.tmp 2]) rfl (by kernel_rfl) rfl ?_
  (simp -implicitDefEqProofs only [go_sem, setA]; repeat (refine GO ?_; simp -implicitDefEqProofs only [go_sem, setA]))
  refine LOOP.mk (ι := { i : Nat // i ≤ z.length }) (fun p => mkS [(0, setA z), (3, .rf 1000 0 (posL (z.take p.1)).length), (4, iA p.1)] [(1000, so (posL (z.take p.1)))] [1000]) (fun p => z.length - p.1) ⟨0, Nat.zero_le _⟩ [(1000, none)] rfl rfl ?_ (fun p => ?_)
  · (simp -implicitDefEqProofs only [go_sem, setA, iA, so]; repeat (refine GO ?_; simp -implicitDefEqProofs only [go_sem, setA, iA, so]))
    simp [posL]
  obtain ⟨i, hi⟩ := p
  (simp -implicitDefEqProofs only [go_sem, setA, iA, so]; repeat (refine GO ?_; simp -implicitDefEqProofs only [go_sem, setA, iA, so]))
  refine VIF.split (fun h1 => ?_) (fun h1 => ?_)
  · have h1 : i < z.length := by simpa using h1
    have w1 := wrap_add1 (show i < 4611686018427387904 by omega)
    (simp -implicitDefEqProofs only [go_sem]; repeat (refine GO ?_; simp -implicitDefEqProofs only [go_sem]))
    refine EL.map h1 ?_
    (simp -implicitDefEqProofs only [go_sem, It.c, iA]; repeat (refine GO ?_; simp -implicitDefEqProofs only [go_sem, It.c, iA]))
    refine VIF.split (fun h2 => ?_) (fun h2 => ?_)
    · have h2 : 0 < z[i].w := by simpa using h2
      have hp : posL (z.take (i + 1)) = posL (z.take i) ++ [oneI z[i].row] := by
        rw [posL, List.take_succ_eq_append_getElem h1, List.filter_append, List.map_append]; simp [posL, h2]
      (simp -implicitDefEqProofs only [go_sem]; repeat (refine GO ?_; simp -implicitDefEqProofs only [go_sem]))
      refine EL.map h1 ?_
      (simp -implicitDefEqProofs only [go_sem, It.c, iA, rowA]; repeat (refine GO ?_; simp -implicitDefEqProofs only [go_sem, It.c, iA, rowA]))
      refine .pure _ (show Spec0 Try.prog 45 [.im 3 (List.map V.c z[i].row)] _ from Spec1.rowC (s52 z[i].row (by have := hr _ (List.getElem_mem h1); omega))) rfl fun r hq _ => ?_
      subst hq
      (simp -implicitDefEqProofs only [go_sem, rowA, w1]; repeat (refine GO ?_; simp -implicitDefEqProofs only [go_sem, rowA, w1]))
      have hpl : (posL (z.take i)).length ≤ z.length := by
        rw [posL, List.length_map]; exact Nat.le_trans (List.length_filter_le _ _) (by rw [List.length_take]; omega)
      refine ⟨by omega, ?_⟩
      (simp -implicitDefEqProofs only [go_sem, w1]; repeat (refine GO ?_; simp -implicitDefEqProofs only [go_sem, w1]))
      refine BACK.mk ⟨i + 1, by omega⟩ [(1000, some 26)] rfl rfl (by show z.length - (i + 1) < z.length - i; omega) ?_
      (simp -implicitDefEqProofs only [go_sem, setA, iA, so, w1]; repeat (refine GO ?_; simp -implicitDefEqProofs only [go_sem, setA, iA, so, w1]))
      have hl1 : (posL (z.take (i + 1))).length = (posL (z.take i)).length + 1 := by rw [hp]; simp
      refine ⟨id, by rw [hl1], so_snoc (l := posL (z.take i)) (t := oneI z[i].row) hp⟩
    · have h2 : ¬ 0 < z[i].w := by simpa using h2
      have hp : posL (z.take (i + 1)) = posL (z.take i) := by
        rw [posL, List.take_succ_eq_append_getElem h1, List.filter_append, List.map_append]; simp [posL, h2]
      (simp -implicitDefEqProofs only [go_sem, w1]; repeat (refine GO ?_; simp -implicitDefEqProofs only [go_sem, w1]))
      refine BACK.mk ⟨i + 1, by omega⟩ [(1000, some 1000)] rfl rfl (by show z.length - (i + 1) < z.length - i; omega) ?_
      (simp -implicitDefEqProofs only [go_sem, setA, iA, so, w1, hp]; repeat (refine GO ?_; simp -implicitDefEqProofs only [go_sem, setA, iA, so, w1, hp]))
      exact ⟨id, .same (so (posL (z.take i))) _ _ (so_leafy _) rfl⟩
  · have h1 : i = z.length := by simp at h1; omega
    subst h1
    (simp -implicitDefEqProofs only [go_sem, List.take_length]; repeat (refine GO ?_; simp -implicitDefEqProofs only [go_sem, List.take_length]))
    refine FINmk [(0, some 1000)] [(2, .rf 0 0 (posL z).length)] [(0, so (posL z))] [0] rfl ?_ ?_
    · (simp -implicitDefEqProofs only [go_sem, so]; repeat (refine GO ?_; simp -implicitDefEqProofs only [go_sem, so]))
      exact .same (so (posL z)) _ _ (so_leafy (posL z)) rfl
    · exact ⟨so (posL z), ⟨⟨posL z, rfl, rfl, rfl⟩, rfl⟩, so_leafy (posL z), rfl⟩
theorem c38 (a b : List It) (hl : a.length + b.length ≤ 1048576) (ha : ∀ t ∈ a, t.row.length < 1073741824) (hb : ∀ t ∈ b, t.row.length < 1073741824) :
    Spec0 Try.prog 38 [setA a, setA b] (fun r => ∃ (out : List It) (err : Int), r = .tu [setA out, iA err] ∧ MakeR (a ++ b) out err) := by
  refine spec0_of_vc tabOk elems ord38 Try.func38 rfl (rl := [.tmp 4, .tmp 5]) rfl (by kernel_rfl) rfl ?_
  (simp -implicitDefEqProofs only [go_sem, setA]; repeat (refine GO ?_; simp -implicitDefEqProofs only [go_sem, setA]))
  refine ⟨by omega, by omega, ?_⟩
  simp -implicitDefEqProofs only [go_sem]
  refine TO [] [(11, setA (a ++ b))] [] [] rfl ?_ ?_
  · (simp -implicitDefEqProofs only [go_sem, setA]; repeat (refine GO ?_; simp -implicitDefEqProofs only [go_sem, setA]))
    exact ⟨id, by simp [olds], _, rfl, by have := so_leafy (a ++ b); rwa [so, List.map_append] at this, rfl, by rw [List.map_append, List.take_of_length_le (by simp)]⟩
  (simp -implicitDefEqProofs only [go_sem, setA]; repeat (refine GO ?_; simp -implicitDefEqProofs only [go_sem, setA]))
  refine .pure _ (show Spec0 Try.prog 79 [.im 2 (List.map It.c (a ++ b))] _ from Spec1.setE (s26 (a ++ b) (by simpa using hl) (fun t ht => by rcases List.mem_append.1 ht with h | h; exact ha t h; exact hb t h))) rfl fun q hq _ => ?_
  obtain ⟨out, err, rfl, hm⟩ := hq
  (simp -implicitDefEqProofs only [go_sem, iA, setA]; repeat (refine GO ?_; simp -implicitDefEqProofs only [go_sem, iA, setA]))
  exact ⟨rfl, out, err, rfl, hm⟩
theorem c90 (z : List It) (hl : z.length ≤ 1048576) (hr : ∀ t ∈ z, t.row.length < 1073741824) (hw : ∀ t ∈ z, -72057594037927936 ≤ t.w ∧ t.w ≤ 72057594037927936) :
    Spec1 Try.prog 90 [setA z] (fun r o => ∃ out : List It, r = .rf 0 0 out.length ∧ o = so out ∧ out = z.map negI) := by
  refine spec1_of_vc tabOk elems ord90 Try.func90 rfl (rl := [.tmp 2]) rfl (by kernel_rfl) rfl ?_
  (simp -implicitDefEqProofs only [go_sem, setA]; repeat (refine GO ?_; simp -implicitDefEqProofs only [go_sem, setA]))
  refine .make 6 _ (show Spec1 Try.prog 31 [.im 2 (List.map It.c z)] _ from c31 z hl hr) rfl (by simp) rfl fun q o hq _ => ?_
  obtain ⟨rfl, rfl⟩ := hq
  (simp -implicitDefEqProofs only [go_sem]; repeat (refine GO ?_; simp -implicitDefEqProofs only [go_sem]))
  refine LOOP.mk (ι := { p : Nat × List It // p.1 ≤ z.length ∧ p.2.length = z.length ∧ ∀ j (h1 : j < p.2.length) (h2 : j < z.length), p.2[j] = if j < p.1 then negI z[j] else z[j] }) (fun p => mkS [(3, .rf 1000 0 z.length), (4, iA p.1.1)] [(1000, so p.1.2)] [1000])
    (fun p => z.length - p.1.1) ⟨(0, z), Nat.zero_le _, rfl, fun j h1 h2 => by rw [if_neg (Nat.not_lt_zero _)]⟩ [(1000, some 6)] rfl rfl ?_ (fun p => ?_)
  · (simp -implicitDefEqProofs only [go_sem, iA, so]; repeat (refine GO ?_; simp -implicitDefEqProofs only [go_sem, iA, so]))
    exact ⟨id, rfl, .same (so z) _ _ (so_leafy z) rfl⟩
  · obtain ⟨⟨i, o⟩, hi, hol, hos⟩ := p
    simp only at hi hol hos
    (simp -implicitDefEqProofs only [go_sem, iA, so]; repeat (refine GO ?_; simp -implicitDefEqProofs only [go_sem, iA, so]))
    refine VIF.split (fun h => ?_) (fun h => ?_)
    · have h : i < z.length := by simpa using h
      have ho : i < o.length := by omega
      have hoi : o[i] = z[i] := by rw [hos i ho h, if_neg (Nat.lt_irrefl _)]
      have w1 := wrap_add1 (show i < 4611686018427387904 by omega)
      have hw1 := hw _ (List.getElem_mem h)
      have w2 : IntKind.i64.wrap (0 - z[i].w) = -z[i].w := by rw [wrap_i64] <;> omega
      have w3 : IntKind.i64.wrap (0 - o[i].w) = -z[i].w := by rw [hoi]; exact w2
      (simp -implicitDefEqProofs only [go_sem]; repeat (refine GO ?_; simp -implicitDefEqProofs only [go_sem]))
      refine ⟨by omega, EL.map ho ?_⟩
      (simp -implicitDefEqProofs only [go_sem, It.c, iA, w1, w2, w3]; repeat (refine GO ?_; simp -implicitDefEqProofs only [go_sem, It.c, iA, w1, w2, w3]))
      refine ⟨by omega, EL.map ho ?_⟩
      (simp -implicitDefEqProofs only [go_sem, It.c, iA, w1]; repeat (refine GO ?_; simp -implicitDefEqProofs only [go_sem, It.c, iA, w1]))
      refine BACK.mk ⟨(i + 1, o.set i (negI z[i])), by omega, by simp [hol], fun j h1 h2 => ?_⟩ [(1000, some 1000)] rfl rfl (by show z.length - (i + 1) < z.length - i; omega) ?_
      · show (o.set i (negI z[i]))[j] = _
        rw [List.getElem_set]
        by_cases e1 : i = j
        · subst e1; rw [if_pos rfl, if_pos (by omega)]
        · rw [if_neg e1, hos j (by omega) h2]
          by_cases e2 : j < i
          · rw [if_pos e2, if_pos (by omega)]
          · rw [if_neg e2, if_neg (by omega)]
      (simp -implicitDefEqProofs only [go_sem, iA, so, w1]; repeat (refine GO ?_; simp -implicitDefEqProofs only [go_sem, iA, so, w1]))
      have e1 : (List.map It.c o).set i [rowA o[i].row, iA (-z[i].w)] = List.map It.c (o.set i (negI z[i])) := by
        rw [List.map_set, hoi]; rfl
      exact ⟨id, .same (so []) _ _ (fun x hx => so_leafy (o.set i (negI z[i])) x (by rw [so]; exact e1 ▸ hx)) e1⟩
    · have h : i = z.length := by simp at h; omega
      have ho : o = z.map negI := List.ext_getElem (by simp [hol]) fun j h1 h2 => by
        rw [hos j h1 (by omega), if_pos (by omega), List.getElem_map]
      (simp -implicitDefEqProofs only [go_sem]; repeat (refine GO ?_; simp -implicitDefEqProofs only [go_sem]))
      refine FINmk [(0, some 1000)] [(2, .rf 0 0 z.length)] [(0, so (z.map negI))] [0] rfl ?_ ?_
      · (simp -implicitDefEqProofs only [go_sem, so, iA]; repeat (refine GO ?_; simp -implicitDefEqProofs only [go_sem, so, iA]))
        rw [ho]
        exact .same (so (z.map negI)) _ _ (so_leafy (z.map negI)) rfl
      · exact ⟨so (z.map negI), ⟨⟨z.map negI, by rw [List.length_map]; rfl, rfl, rfl⟩, rfl⟩, so_leafy (z.map negI), rfl⟩
theorem c39 (a b : List It) (hl : a.length + b.length ≤ 1048576) (ha : ∀ t ∈ a, t.row.length < 1073741824) (hb : ∀ t ∈ b, t.row.length < 1073741824) (hw : ∀ t ∈ b, -72057594037927936 ≤ t.w ∧ t.w ≤ 72057594037927936) :
    Spec0 Try.prog 39 [setA a, setA b] (fun r => ∃ (out : List It) (err : Int), r = .tu [setA out, iA err] ∧ MakeR (a ++ b.map negI) out err) := by
  refine spec0_of_vc tabOk elems ord39 Try.func39 rfl (rl := [.tmp 4, .tmp 5]) rfl (by kernel_rfl) rfl ?_
  (simp -implicitDefEqProofs only [go_sem, setA]; repeat (refine GO ?_; simp -implicitDefEqProofs only [go_sem, setA]))
  refine .pure _ (show Spec0 Try.prog 90 [.im 2 (List.map It.c b)] _ from Spec1.set1 (c90 b (by omega) hb hw)) rfl fun q hq _ => ?_
  obtain ⟨_, rfl, rfl⟩ := hq
  (simp -implicitDefEqProofs only [go_sem, setA]; repeat (refine GO ?_; simp -implicitDefEqProofs only [go_sem, setA]))
  refine .pure _ (show Spec0 Try.prog 38 [setA a, setA (b.map negI)] _ from c38 a (b.map negI) (by simpa using hl) ha (fun t ht => by obtain ⟨u, hu, rfl⟩ := List.mem_map.1 ht; exact hb u hu)) rfl fun q hq _ => ?_
  obtain ⟨out, err, rfl, hm⟩ := hq
  (simp -implicitDefEqProofs only [go_sem, iA, setA]; repeat (refine GO ?_; simp -implicitDefEqProofs only [go_sem, iA, setA]))
  exact ⟨rfl, out, err, rfl, hm⟩
end Yt
namespace Yt
open Go Go.Vc Go.Proofs
set_option maxRecDepth 10000
set_option maxHeartbeats 8000000
set_option linter.unusedSimpArgs false
set_option linter.unusedVariables false
theorem posL_dist {z : List It} (h : Good z) : posL z = distL z := by
  rw [posL, distL]
  congr 1
  refine List.filter_congr fun t ht => ?_
  have := ((good_made.1 h).1.nz t ht).1
  by_cases h1 : t.w < 0
  · have : ¬ 0 < t.w := by omega
    simp [h1, this]
  · have : 0 < t.w := by omega
    simp [h1, this]
theorem good_distL {z : List It} (h : Good z) : Good (distL z) := good_made.2 ⟨made_dist (good_made.1 h).1, fun t ht => by
  obtain ⟨u, hu, rfl⟩ := List.mem_map.1 ht
  exact (good_made.1 h).2 u (List.mem_filter.1 hu).1⟩
theorem good_anyI {z : List It} (h : Good z) : (z.any fun t => !okI t) = false := by
  rw [List.any_eq_false]
  intro t ht
  have h1 := (good_made.1 h).2 t ht
  have h2 := ((good_made.1 h).1.nz t ht).2
  simp [okI, h1, h2]
theorem any_app {a b : List It} (ha : (a.any fun t => !okI t) = false) (hb : (b.any fun t => !okI t) = false) : ((a ++ b).any fun t => !okI t) = false := by
  rw [List.any_append, ha, hb]; rfl
theorem dist_minus {s z b : List It} {f : Int} (hs : Good s) (hz : Good z) (h : MakeR (distL s ++ (distL z).map negI) b f) : f = 0 ∧ b.length ≤ s.length + z.length := by
  obtain ⟨h1, _, _, _, h2⟩ := makeR_fine h (any_app (good_anyI (good_distL hs)) (good_anyI (good_neg (good_distL hz)))) fun r => by
    rw [tot_append, tot_neg, tot_dist (good_made.1 hs).1, tot_dist (good_made.1 hz).1]
    rcases sg_cases (tot r s) with ⟨_, e1⟩ | ⟨_, e1⟩ <;> rcases sg_cases (tot r z) with ⟨_, e2⟩ | ⟨_, e2⟩ <;> rw [e1, e2] <;> decide
  have h3 := distL_len s
  have h4 := distL_len z
  rw [List.length_append, List.length_map] at h2
  exact ⟨h1, by omega⟩
theorem c4 (z dz : List It) (hl : ∀ l ∈ [z, dz], l.length < 4611686018427387904) (hr : ∀ l ∈ [z, dz], ∀ t ∈ l, t.row.length < 4611686018427387904) :
    Spec0 Try.prog 4 [setA z, setA dz] (· = bA true) := by
  refine spec0_of_vc tabOk elems ord4 Try.func4 rfl (rl := [.tmp 4]) rfl (by kernel_rfl) rfl ?_
  (simp -implicitDefEqProofs only [go_sem, setA]; repeat (refine GO ?_; simp -implicitDefEqProofs only [go_sem, setA]))
  refine .lendTo (s10 [z, dz] (by simp) hl hr) ?_ (by rintro _ rfl; rfl) fun r hq => ?_
  · (simp -implicitDefEqProofs only [go_sem, setsA, setA]; repeat (refine GO ?_; simp -implicitDefEqProofs only [go_sem, setsA, setA]))
    rfl
  subst hq
  (simp -implicitDefEqProofs only [go_sem, bA]; repeat (refine GO ?_; simp -implicitDefEqProofs only [go_sem, bA]))
  refine VIF.split (fun hb => ?_) (fun hb => ?_)
  · (simp -implicitDefEqProofs only [go_sem, bA]; repeat (refine GO ?_; simp -implicitDefEqProofs only [go_sem, bA]))
  have hb : heavyS z = false ∧ heavyS dz = false := by simpa [List.any_cons] using hb
  obtain ⟨hl0, hr0⟩ := not_heavyS hb.1
  obtain ⟨hl1, hr1⟩ := not_heavyS hb.2
  have hz : ∀ t ∈ z, t.row.length < 1073741824 := fun t ht => by have := hr0 t ht; omega
  have hd : ∀ t ∈ dz, t.row.length < 1073741824 := fun t ht => by have := hr1 t ht; omega
  simp -implicitDefEqProofs only [go_sem]
  refine TO [] [(0, setA z), (1, setA dz)] [] [] rfl ?_ ?_
  · (simp -implicitDefEqProofs only [go_sem, setA]; repeat (refine GO ?_; simp -implicitDefEqProofs only [go_sem, setA]))
    exact id
  (simp -implicitDefEqProofs only [go_sem, setA]; repeat (refine GO ?_; simp -implicitDefEqProofs only [go_sem, setA]))
  refine .pure _ (show Spec0 Try.prog 31 [setA z] _ from Spec1.setC (c31 z (by omega) hz)) rfl fun r hq _ => ?_
  subst hq
  (simp -implicitDefEqProofs only [go_sem, setA]; repeat (refine GO ?_; simp -implicitDefEqProofs only [go_sem, setA]))
  refine .pure _ (show Spec0 Try.prog 31 [setA dz] _ from Spec1.setC (c31 dz (by omega) hd)) rfl fun r hq _ => ?_
  subst hq
  (simp -implicitDefEqProofs only [go_sem, setA]; repeat (refine GO ?_; simp -implicitDefEqProofs only [go_sem, setA]))
  refine CALL.fam (show SpecF Try.prog 32 [setA z] _ from f32 z (by omega) hz) rfl 10000 (by simp) fun q a hq => ?_
  obtain ⟨e, rfl, ha⟩ := hq
  have hal : a.length ≤ z.length := by
    rcases ha with ⟨_, rfl, _⟩ | ⟨_, rfl, _⟩
    · simp
    · exact distL_len z
  (simp -implicitDefEqProofs only [go_sem, AV.rn, rns, Nat.add_zero, iA, setA]; repeat (refine GO ?_; simp -implicitDefEqProofs only [go_sem, AV.rn, rns, Nat.add_zero, iA, setA]))
  refine .pure _ (show Spec0 Try.prog 33 [setA z, setA dz] _ from c33 z dz (by omega) hz hd) rfl fun q hq _ => ?_
  obtain ⟨b, f, rfl, hbb⟩ := hq
  (simp -implicitDefEqProofs only [go_sem, iA, setA]; repeat (refine GO ?_; simp -implicitDefEqProofs only [go_sem, iA, setA]))
  refine .pure _ (show Spec0 Try.prog 28 [setA z, setA z] _ from s18 z z (by omega) (by omega) (fun t ht => by have := hz t ht; omega)) rfl fun r hq _ => ?_
  obtain ⟨t1, rfl, ht1⟩ := hq
  rw [ht1.2 rfl]
  (simp -implicitDefEqProofs only [go_sem, bA, setA]; repeat (refine GO ?_; simp -implicitDefEqProofs only [go_sem, bA, setA]))
  refine .pure _ (show Spec0 Try.prog 28 [setA dz, setA dz] _ from s18 dz dz (by omega) (by omega) (fun t ht => by have := hd t ht; omega)) rfl fun r hq _ => ?_
  obtain ⟨t2, rfl, ht2⟩ := hq
  rw [ht2.2 rfl]
  (simp -implicitDefEqProofs only [go_sem, bA, setA]; repeat (refine GO ?_; simp -implicitDefEqProofs only [go_sem, bA, setA]))
  refine .pure _ (show Spec0 Try.prog 34 [setA z] _ from s30 z (by omega) (fun t ht => by have := hz t ht; omega)) rfl fun r hq _ => ?_
  obtain ⟨g1, rfl, hg1⟩ := hq
  (simp -implicitDefEqProofs only [go_sem, bA, setA]; repeat (refine GO ?_; simp -implicitDefEqProofs only [go_sem, bA, setA]))
  refine VIF.split (fun h => ?_) (fun h => ?_)
  · have hn : ¬ Good z := fun g => by rw [hg1.2 g] at h; simp at h
    obtain ⟨rfl, rfl⟩ : a = [] ∧ e = 1 := by
      rcases ha with ⟨_, h1, h2⟩ | ⟨h1, _⟩
      · exact ⟨h1, h2⟩
      · exact absurd h1 hn
    obtain ⟨rfl, rfl⟩ : b = [] ∧ f = 1 := by
      obtain ⟨now, e', h1, h2⟩ := hbb
      rcases h1 with ⟨_, _, rfl⟩ | ⟨h1, _⟩
      · rcases h2 with ⟨_, h3, h4⟩ | ⟨h3, _⟩
        · exact ⟨h3, h4⟩
        · cases h3
      · exact absurd h1 hn
    (simp -implicitDefEqProofs only [go_sem]; repeat (refine GO ?_; simp -implicitDefEqProofs only [go_sem]))
    (first | (refine VIF.tt ?_ ?_; (· first | rfl | (simp; done) | (simp; omega))) | (refine VIF.ff ?_ ?_; (· first | rfl | (simp; done) | (simp; omega))))
    (simp -implicitDefEqProofs only [go_sem]; repeat (refine GO ?_; simp -implicitDefEqProofs only [go_sem]))
    (first | (refine VIF.tt ?_ ?_; (· first | rfl | (simp; done) | (simp; omega))) | (refine VIF.ff ?_ ?_; (· first | rfl | (simp; done) | (simp; omega))))
    (simp -implicitDefEqProofs only [go_sem]; repeat (refine GO ?_; simp -implicitDefEqProofs only [go_sem]))
    (first | (refine VIF.tt ?_ ?_; (· first | rfl | (simp; done) | (simp; omega))) | (refine VIF.ff ?_ ?_; (· first | rfl | (simp; done) | (simp; omega))))
    (simp -implicitDefEqProofs only [go_sem]; repeat (refine GO ?_; simp -implicitDefEqProofs only [go_sem]))
    refine .pure _ c35 rfl fun r hq _ => ?_
    subst hq
    (simp -implicitDefEqProofs only [go_sem, bA]; repeat (refine GO ?_; simp -implicitDefEqProofs only [go_sem, bA]))
  · have hz2 : Good z := hg1.1 (by simpa using h)
    obtain ⟨rfl, rfl⟩ := dist_ok hz2 ha
    (simp -implicitDefEqProofs only [go_sem]; repeat (refine GO ?_; simp -implicitDefEqProofs only [go_sem]))
    (first | (refine VIF.tt ?_ ?_; (· first | rfl | (simp; done) | (simp; omega))) | (refine VIF.ff ?_ ?_; (· first | rfl | (simp; done) | (simp; omega))))
    (simp -implicitDefEqProofs only [go_sem]; repeat (refine GO ?_; simp -implicitDefEqProofs only [go_sem]))
    refine .pure _ (show Spec0 Try.prog 36 [setA z] _ from Spec1.set1 (c36 z (by omega) hz)) rfl fun r hq _ => ?_
    obtain ⟨_, rfl, rfl⟩ := hq
    rw [posL_dist hz2]
    (simp -implicitDefEqProofs only [go_sem, setA]; repeat (refine GO ?_; simp -implicitDefEqProofs only [go_sem, setA]))
    refine .lendR (args' := [setA (distL z), setA (distL z)]) (s18 (distL z) (distL z) (by omega) (by omega) (fun t ht => by have := distL_rows (P := fun r => r.length < 1073741824) hz t ht; omega)) ⟨lent_fam (es := famC 10000 (distL z)) (ν := fun i => 10000 + (i + 1)) (tail := []) (by (simp -implicitDefEqProofs only [go_sem]; repeat (refine GO ?_; simp -implicitDefEqProofs only [go_sem]))) (by simp [famC_cells]) (fun i hi => by (simp -implicitDefEqProofs only [go_sem]; repeat (refine GO ?_; simp -implicitDefEqProofs only [go_sem])); exact famO_row hi), .same rfl, trivial⟩ (by rintro _ ⟨t, rfl, _⟩; rfl) fun r hq => ?_
    obtain ⟨t3, rfl, ht3⟩ := hq
    rw [ht3.2 rfl]
    (simp -implicitDefEqProofs only [go_sem, bA, setA]; repeat (refine GO ?_; simp -implicitDefEqProofs only [go_sem, bA, setA]))
    refine CALL.takeI (f37 (distL z) (by omega) (fun t ht => Nat.le_of_lt (distL_rows (P := fun r => r.length < 1073741824) hz t ht))) 10000 (fun i => 10000 + (i + 1)) (fam_nd (l := [10000]) (by decide) (by decide)) (es := famC 10000 (distL z)) (by (simp -implicitDefEqProofs only [go_sem]; repeat (refine GO ?_; simp -implicitDefEqProofs only [go_sem]))) rfl (fun i hi => famO_row hi) ⟨famU_mem.2 (by omega), fun i hi => famU_mem.2 (by omega)⟩ ⟨rfl, famW_mem.2 (.inl rfl), trivial⟩ 20000000 ?_ fun r O hq _ => ?_
    · simp [famU_mem]; omega
    subst hq
    simp -implicitDefEqProofs only [go_sem]
    refine TO [] [(0, setA z), (1, setA dz), (5, setA z), (6, setA dz), (9, setA b), (10, iA f), (75, setA dz)] [] [] rfl ?_ ?_
    · (simp -implicitDefEqProofs only [go_sem, setA, iA]; repeat (refine GO ?_; simp -implicitDefEqProofs only [go_sem, setA, iA]))
      exact id
    (simp -implicitDefEqProofs only [go_sem, setA, iA]; repeat (refine GO ?_; simp -implicitDefEqProofs only [go_sem, setA, iA]))
    refine .pure _ (show Spec0 Try.prog 34 [setA dz] _ from s30 dz (by omega) (fun t ht => by have := hd t ht; omega)) rfl fun r hq _ => ?_
    obtain ⟨g2, rfl, hg2⟩ := hq
    (simp -implicitDefEqProofs only [go_sem, bA, setA]; repeat (refine GO ?_; simp -implicitDefEqProofs only [go_sem, bA, setA]))
    refine VIF.split (fun h2 => ?_) (fun h2 => ?_)
    · have hn : ¬ Good dz := fun g => by rw [hg2.2 g] at h2; simp at h2
      obtain ⟨rfl, rfl⟩ : b = [] ∧ f = 1 := by
        obtain ⟨now, e', h1, h2⟩ := hbb
        rcases h1 with ⟨_, _, rfl⟩ | ⟨_, h1, _⟩
        · rcases h2 with ⟨_, h3, h4⟩ | ⟨h3, _⟩
          · exact ⟨h3, h4⟩
          · cases h3
        · exact absurd h1 hn
      (simp -implicitDefEqProofs only [go_sem]; repeat (refine GO ?_; simp -implicitDefEqProofs only [go_sem]))
      (first | (refine VIF.tt ?_ ?_; (· first | rfl | (simp; done) | (simp; omega))) | (refine VIF.ff ?_ ?_; (· first | rfl | (simp; done) | (simp; omega))))
      (simp -implicitDefEqProofs only [go_sem]; repeat (refine GO ?_; simp -implicitDefEqProofs only [go_sem]))
      (first | (refine VIF.tt ?_ ?_; (· first | rfl | (simp; done) | (simp; omega))) | (refine VIF.ff ?_ ?_; (· first | rfl | (simp; done) | (simp; omega))))
      (simp -implicitDefEqProofs only [go_sem]; repeat (refine GO ?_; simp -implicitDefEqProofs only [go_sem]))
      refine .pure _ (show Spec0 Try.prog 28 [setA z, setA z] _ from s18 z z (by omega) (by omega) (fun t ht => by have := hz t ht; omega)) rfl fun r hq _ => ?_
      obtain ⟨t1, rfl, ht1⟩ := hq
      rw [ht1.2 rfl]
      (simp -implicitDefEqProofs only [go_sem, bA, setA]; repeat (refine GO ?_; simp -implicitDefEqProofs only [go_sem, bA, setA]))
      refine .pure _ c35 rfl fun r hq _ => ?_
      subst hq
      (simp -implicitDefEqProofs only [go_sem, bA]; repeat (refine GO ?_; simp -implicitDefEqProofs only [go_sem, bA]))
    · have hd2 : Good dz := hg2.1 (by simpa using h2)
      (simp -implicitDefEqProofs only [go_sem]; repeat (refine GO ?_; simp -implicitDefEqProofs only [go_sem]))
      refine .pure _ (show Spec0 Try.prog 38 [setA z, setA dz] _ from c38 z dz (by omega) hz hd) rfl fun r hq _ => ?_
      obtain ⟨s, g, rfl, hs⟩ := hq
      have hsl := makeR_rows hs
      rw [List.length_append] at hsl
      have hsr : ∀ t ∈ s, t.row.length < 1073741824 := fun t ht => by
        obtain ⟨u, hu, e⟩ := hsl.2 t ht
        rw [← e]
        rcases List.mem_append.1 hu with h | h
        · exact hz u h
        · exact hd u h
      obtain ⟨now, e', h1, h3⟩ := hbb
      rcases h1 with ⟨h4, _⟩ | ⟨_, _, h1⟩
      · exact absurd ⟨hz2, hd2⟩ h4
      obtain ⟨rfl, rfl⟩ := makeR_same hs h1
      (simp -implicitDefEqProofs only [go_sem, setA, iA]; repeat (refine GO ?_; simp -implicitDefEqProofs only [go_sem, setA, iA]))
      refine VIF.split (fun h4 => ?_) (fun h4 => ?_)
      · have h4 : g ≠ 0 := by simpa using h4
        obtain ⟨rfl, rfl⟩ : b = [] ∧ f = g := by
          rcases h3 with ⟨_, h5, h6⟩ | ⟨h5, _⟩
          · exact ⟨h5, h6⟩
          · exact absurd h5 h4
        (simp -implicitDefEqProofs only [go_sem]; repeat (refine GO ?_; simp -implicitDefEqProofs only [go_sem]))
        (first | (refine VIF.tt ?_ ?_; (· first | rfl | (simp; done) | (simp; omega))) | (refine VIF.ff ?_ ?_; (· first | rfl | (simp; done) | (simp; omega))))
        (simp -implicitDefEqProofs only [go_sem]; repeat (refine GO ?_; simp -implicitDefEqProofs only [go_sem]))
        (first | (refine VIF.tt ?_ ?_; (· first | rfl | (simp; done) | (simp; omega))) | (refine VIF.ff ?_ ?_; (· first | rfl | (simp; done) | (simp; omega))))
        (simp -implicitDefEqProofs only [go_sem]; repeat (refine GO ?_; simp -implicitDefEqProofs only [go_sem]))
        refine .pure _ c35 rfl fun r hq _ => ?_
        subst hq
        (simp -implicitDefEqProofs only [go_sem, bA]; repeat (refine GO ?_; simp -implicitDefEqProofs only [go_sem, bA]))
      · have h4 : g = 0 := by simpa using h4
        subst h4
        obtain ⟨_, _, ms, gs, _⟩ := addR_good (.inr ⟨hz2, hd2, hs⟩) rfl
        have hm : MakeR (distL s ++ (distL z).map negI) b f := by
          rcases h3 with ⟨h5, _⟩ | ⟨_, h5⟩
          · exact absurd rfl h5
          · rcases h5 with ⟨h6, _⟩ | ⟨_, _, h6⟩
            · exact absurd ⟨good_distL gs, good_distL hz2⟩ h6
            · exact h6
        obtain ⟨rfl, hbl⟩ := dist_minus gs hz2 hm
        have lds := distL_len s
        have ldz := distL_len z
        have hbr := makeR_rows hm
        (simp -implicitDefEqProofs only [go_sem]; repeat (refine GO ?_; simp -implicitDefEqProofs only [go_sem]))
        refine .pure _ (show Spec0 Try.prog 36 [setA s] _ from Spec1.set1 (c36 s (by omega) hsr)) rfl fun r hq _ => ?_
        obtain ⟨_, rfl, rfl⟩ := hq
        rw [posL_dist gs]
        (simp -implicitDefEqProofs only [go_sem, setA]; repeat (refine GO ?_; simp -implicitDefEqProofs only [go_sem, setA]))
        refine .pure _ (show Spec0 Try.prog 36 [setA z] _ from Spec1.set1 (c36 z (by omega) hz)) rfl fun r hq _ => ?_
        obtain ⟨_, rfl, rfl⟩ := hq
        rw [posL_dist hz2]
        (simp -implicitDefEqProofs only [go_sem, setA]; repeat (refine GO ?_; simp -implicitDefEqProofs only [go_sem, setA]))
        refine .pure _ (show Spec0 Try.prog 39 [setA (distL s), setA (distL z)] _ from c39 (distL s) (distL z) (by omega) (distL_rows (P := fun r => r.length < 1073741824) hsr) (distL_rows (P := fun r => r.length < 1073741824) hz) (fun t ht => good_w (good_distL hz2) ht)) rfl fun r hq _ => ?_
        obtain ⟨w, h, rfl, hw⟩ := hq
        obtain ⟨rfl, rfl⟩ := makeR_same hm hw
        (simp -implicitDefEqProofs only [go_sem, setA, iA]; repeat (refine GO ?_; simp -implicitDefEqProofs only [go_sem, setA, iA]))
        (first | (refine VIF.tt ?_ ?_; (· first | rfl | (simp; done) | (simp; omega))) | (refine VIF.ff ?_ ?_; (· first | rfl | (simp; done) | (simp; omega))))
        (simp -implicitDefEqProofs only [go_sem]; repeat (refine GO ?_; simp -implicitDefEqProofs only [go_sem]))
        have hb3 : ∀ t ∈ b, t.row.length < 4611686018427387904 := fun t ht => by
          obtain ⟨u, hu, e⟩ := hbr.2 t ht
          rw [← e]
          rcases List.mem_append.1 hu with h | h
          · have := distL_rows (P := fun r => r.length < 1073741824) hsr u h; omega
          · obtain ⟨v, hv, rfl⟩ := List.mem_map.1 h
            have := distL_rows (P := fun r => r.length < 1073741824) hz v hv
            show v.row.length < _
            omega
        refine .pure _ (show Spec0 Try.prog 28 [setA b, setA b] _ from s18 b b (by omega) (by omega) hb3) rfl fun r hq _ => ?_
        obtain ⟨t5, rfl, ht5⟩ := hq
        rw [ht5.2 rfl]
        (simp -implicitDefEqProofs only [go_sem, bA, setA]; repeat (refine GO ?_; simp -implicitDefEqProofs only [go_sem, bA, setA]))
        refine .pure _ (show Spec0 Try.prog 28 [setA z, setA z] _ from s18 z z (by omega) (by omega) (fun t ht => by have := hz t ht; omega)) rfl fun r hq _ => ?_
        obtain ⟨t1, rfl, ht1⟩ := hq
        rw [ht1.2 rfl]
        (simp -implicitDefEqProofs only [go_sem, bA, setA]; repeat (refine GO ?_; simp -implicitDefEqProofs only [go_sem, bA, setA]))
        refine .pure _ c35 rfl fun r hq _ => ?_
        subst hq
        (simp -implicitDefEqProofs only [go_sem, bA]; repeat (refine GO ?_; simp -implicitDefEqProofs only [go_sem, bA]))
end Yt
namespace Yt
open Go Go.Vc Go.Proofs Go.Proofs.Ytbnbngkbngmndaa
set_option linter.unusedSimpArgs false
set_option linter.unusedVariables false
mutual
theorem bulk_le {H : Type} {B : Nat} : ∀ d : DataW H, Rows.uptoBulk d ≤ B → bulkLe B d
  | .lit l, h => by
    cases l with
    | string bs => simp only [Rows.uptoBulk] at h; simp only [bulkLe]; omega
    | _ => simp only [bulkLe]
  | .nil, _ => by simp only [bulkLe]
  | .ptr d, _ => by simp only [bulkLe]
  | .slice elems spare, h => by
    simp only [Rows.uptoBulk] at h
    have h2 := bulks_len elems
    simp only [bulkLe]
    exact ⟨by omega, bulks_le elems (by omega)⟩
  | .agg ds, h => by
    simp only [Rows.uptoBulk] at h
    simp only [bulkLe]
    exact bulks_le ds (by omega)
  | .iface _ _, _ => by simp only [bulkLe]
  | .map _, _ => by simp only [bulkLe]
  | .held _, _ => by simp only [bulkLe]
theorem bulks_le {H : Type} {B : Nat} : ∀ ds : List (DataW H), Rows.uptoBulkAll ds ≤ B → bulkLe.bulkLes B ds
  | [], _ => trivial
  | d :: r, h => by
    simp only [Rows.uptoBulkAll] at h
    exact ⟨bulk_le d (by omega), bulks_le r (by omega)⟩
theorem bulk_pos {H : Type} : ∀ d : DataW H, 1 ≤ Rows.uptoBulk d
  | .lit l => by cases l <;> simp [Rows.uptoBulk]
  | .nil => by simp [Rows.uptoBulk]
  | .ptr d => by simp [Rows.uptoBulk]
  | .slice elems spare => by simp [Rows.uptoBulk]
  | .agg ds => by simp [Rows.uptoBulk]
  | .iface _ _ => by simp [Rows.uptoBulk]
  | .map _ => by simp [Rows.uptoBulk]
  | .held _ => by simp [Rows.uptoBulk]
theorem bulks_len {H : Type} : ∀ ds : List (DataW H), ds.length ≤ Rows.uptoBulkAll ds
  | [] => by simp
  | d :: r => by
    have := bulk_pos d
    have := bulks_len r
    simp only [Rows.uptoBulkAll, List.length_cons]; omega
end
theorem bound {H : Type} {l : List (DataW H)} (hk : Rows.uptoSmall H l = true) : bulkLe.bulkLes 1048576 l := bulks_le l (of_decide_eq_true hk)
theorem kids : Kids Try.prog (· < Try.prog.types.size) := kids_rows (by kernel_rfl) (by kernel_rfl)
def szOk (P : Program) : Bool := (List.range P.types.size).all fun t => match P.underlying t with | some (.slice e) => decide (0 < P.cellsOf e) | _ => true
theorem szOk_to {P : Program} (h : szOk P = true) {t e : TypeId} (ht : t < P.types.size) (hu : P.underlying t = some (.slice e)) : 0 < P.cellsOf e := by
  have := List.all_eq_true.1 h t (by simpa using ht)
  rw [hu] at this
  simpa using this
theorem sizes {t e : TypeId} (ht : t < Try.prog.types.size) (hu : Try.prog.underlying t = some (.slice e)) : 0 < Try.prog.cellsOf e := szOk_to (by kernel_rfl) ht hu
def i64 (n : Int) : Prop := -9223372036854775808 ≤ n ∧ n ≤ 9223372036854775807
theorem i64_of {n : Int} (h : (Lit.int .i64 n).wf = true) : i64 n := by
  simp [Lit.wf, IntKind.min, IntKind.max, IntKind.signed, IntKind.bits] at h
  exact h
def V.fit (v : V) : Prop := i64 v.k ∧ i64 v.i ∧ v.s.size ≤ 1048576
def It.fit (t : It) : Prop := t.row.length ≤ 1048576 ∧ i64 t.w
theorem cellsV : Try.prog.cellsOf 25 = 3 := by kernel_rfl
theorem cellsI : Try.prog.cellsOf 27 = 2 := by kernel_rfl
theorem shVal {avs : List AV} (h : Sh Try.prog 1048576 25 avs) : ∃ v : V, avs = v.c ∧ v.fit := by
  obtain ⟨xs, rfl, hl, hf⟩ := sh_struct Try.underlying25 h
  match xs, hl with
  | [a, b, c], _ =>
    obtain ⟨k, rfl, hk⟩ := sh_int Try.underlying3 (hf 0 _ a rfl rfl)
    obtain ⟨i, rfl, hi⟩ := sh_int Try.underlying3 (hf 1 _ b rfl rfl)
    obtain ⟨s, rfl, hs⟩ := sh_str Try.underlying9 (hf 2 _ c rfl rfl)
    exact ⟨⟨k, i, s⟩, rfl, i64_of hk, i64_of hi, hs⟩
theorem shRow {avs : List AV} (h : Sh Try.prog 1048576 23 avs) : ∃ r : List V, avs = [rowA r] ∧ r.length ≤ 1048576 := by
  obtain ⟨es, rfl, hl, he⟩ := sh_slice Try.underlying23 h
  obtain ⟨l, rfl, _⟩ := map_choose fun x hx => shVal (he x hx)
  rw [cellsV]
  exact ⟨l, rfl, by simpa using hl⟩
theorem shItem {avs : List AV} (h : Sh Try.prog 1048576 27 avs) : ∃ t : It, avs = t.c ∧ t.fit := by
  obtain ⟨xs, rfl, hl, hf⟩ := sh_struct Try.underlying27 h
  match xs, hl with
  | [a, b], _ =>
    obtain ⟨r, rfl, hr⟩ := shRow (hf 0 _ a rfl rfl)
    obtain ⟨w, rfl, hw⟩ := sh_int Try.underlying3 (hf 1 _ b rfl rfl)
    exact ⟨⟨r, w⟩, rfl, hr, i64_of hw⟩
theorem shSet {avs : List AV} (h : Sh Try.prog 1048576 28 avs) : ∃ l : List It, avs = [setA l] ∧ l.length ≤ 1048576 ∧ ∀ t ∈ l, t.fit := by
  obtain ⟨es, rfl, hl, he⟩ := sh_slice Try.underlying28 h
  obtain ⟨l, rfl, h2⟩ := map_choose fun x hx => shItem (he x hx)
  rw [cellsI]
  exact ⟨l, rfl, by simpa using hl, h2⟩
theorem own : ownKnob Try.prog.godebug = none := by kernel_rfl
def signs : List Char := [Char.ofNat 104, Char.ofNat 97, Char.ofNat 114, Char.ofNat 110, Char.ofNat 101, Char.ofNat 115, Char.ofNat 115, Char.ofNat 32, Char.ofNat 55, Char.ofNat 97, Char.ofNat 99, Char.ofNat 53, Char.ofNat 53, Char.ofNat 101, Char.ofNat 99, Char.ofNat 99, Char.ofNat 52, Char.ofNat 56, Char.ofNat 55, Char.ofNat 54, Char.ofNat 48, Char.ofNat 52, Char.ofNat 56, Char.ofNat 56, Char.ofNat 97, Char.ofNat 54, Char.ofNat 55, Char.ofNat 57, Char.ofNat 100, Char.ofNat 49, Char.ofNat 99, Char.ofNat 56, Char.ofNat 101, Char.ofNat 97, Char.ofNat 56, Char.ofNat 55, Char.ofNat 56, Char.ofNat 54, Char.ofNat 98, Char.ofNat 101, Char.ofNat 100, Char.ofNat 52, Char.ofNat 56, Char.ofNat 56, Char.ofNat 100, Char.ofNat 100, Char.ofNat 48, Char.ofNat 100, Char.ofNat 54, Char.ofNat 51, Char.ofNat 99, Char.ofNat 51, Char.ofNat 53, Char.ofNat 48, Char.ofNat 57, Char.ofNat 102, Char.ofNat 54, Char.ofNat 55, Char.ofNat 48, Char.ofNat 51, Char.ofNat 102, Char.ofNat 55, Char.ofNat 101, Char.ofNat 55, Char.ofNat 98, Char.ofNat 53, Char.ofNat 102, Char.ofNat 52, Char.ofNat 53, Char.ofNat 99, Char.ofNat 100, Char.ofNat 100, Char.ofNat 32, Char.ofNat 99, Char.ofNat 117, Char.ofNat 116, Char.ofNat 32, Char.ofNat 97, Char.ofNat 116, Char.ofNat 32, Char.ofNat 114, Char.ofNat 97, Char.ofNat 100, Char.ofNat 100, Char.ofNat 108, Char.ofNat 101, Char.ofNat 47, Char.ofNat 114, Char.ofNat 97, Char.ofNat 100, Char.ofNat 100, Char.ofNat 108, Char.ofNat 101, Char.ofNat 108, Char.ofNat 97, Char.ofNat 119, Char.ofNat 49, Char.ofNat 55, Char.ofNat 46, Char.ofNat 74, Char.ofNat 111, Char.ofNat 105, Char.ofNat 110, Char.ofNat 87, Char.ofNat 105, Char.ofNat 100, Char.ofNat 101, Char.ofNat 32, Char.ofNat 114, Char.ofNat 97, Char.ofNat 100, Char.ofNat 100, Char.ofNat 108, Char.ofNat 101, Char.ofNat 47, Char.ofNat 114, Char.ofNat 97, Char.ofNat 100, Char.ofNat 100, Char.ofNat 108, Char.ofNat 101, Char.ofNat 108, Char.ofNat 97, Char.ofNat 119, Char.ofNat 49, Char.ofNat 56, Char.ofNat 46, Char.ofNat 68, Char.ofNat 105, Char.ofNat 115, Char.ofNat 116, Char.ofNat 69, Char.ofNat 120, Char.ofNat 97, Char.ofNat 99, Char.ofNat 116, Char.ofNat 32, Char.ofNat 114, Char.ofNat 97, Char.ofNat 100, Char.ofNat 100, Char.ofNat 108, Char.ofNat 101, Char.ofNat 47, Char.ofNat 114, Char.ofNat 97, Char.ofNat 100, Char.ofNat 100, Char.ofNat 108, Char.ofNat 101, Char.ofNat 108, Char.ofNat 97, Char.ofNat 119, Char.ofNat 49, Char.ofNat 56, Char.ofNat 46, Char.ofNat 68, Char.ofNat 105, Char.ofNat 115, Char.ofNat 116, Char.ofNat 83, Char.ofNat 116, Char.ofNat 101, Char.ofNat 112, Char.ofNat 115, Char.ofNat 32, Char.ofNat 114, Char.ofNat 97, Char.ofNat 100, Char.ofNat 100, Char.ofNat 108, Char.ofNat 101, Char.ofNat 47, Char.ofNat 114, Char.ofNat 97, Char.ofNat 100, Char.ofNat 100, Char.ofNat 108, Char.ofNat 101, Char.ofNat 108, Char.ofNat 97, Char.ofNat 119, Char.ofNat 49, Char.ofNat 55, Char.ofNat 46, Char.ofNat 74, Char.ofNat 111, Char.ofNat 105, Char.ofNat 110, Char.ofNat 82, Char.ofNat 111, Char.ofNat 119, Char.ofNat 115, Char.ofNat 32, Char.ofNat 114, Char.ofNat 97, Char.ofNat 100, Char.ofNat 100, Char.ofNat 108, Char.ofNat 101, Char.ofNat 47, Char.ofNat 114, Char.ofNat 97, Char.ofNat 100, Char.ofNat 100, Char.ofNat 108, Char.ofNat 101, Char.ofNat 108, Char.ofNat 97, Char.ofNat 119, Char.ofNat 49, Char.ofNat 56, Char.ofNat 46, Char.ofNat 68, Char.ofNat 105, Char.ofNat 115, Char.ofNat 116, Char.ofNat 65, Char.ofNat 100, Char.ofNat 100, Char.ofNat 115, Char.ofNat 32, Char.ofNat 114, Char.ofNat 97, Char.ofNat 100, Char.ofNat 100, Char.ofNat 108, Char.ofNat 101, Char.ofNat 47, Char.ofNat 114, Char.ofNat 97, Char.ofNat 100, Char.ofNat 100, Char.ofNat 108, Char.ofNat 101, Char.ofNat 108, Char.ofNat 97, Char.ofNat 119, Char.ofNat 49, Char.ofNat 55, Char.ofNat 46, Char.ofNat 74, Char.ofNat 111, Char.ofNat 105, Char.ofNat 110, Char.ofNat 83, Char.ofNat 119, Char.ofNat 97, Char.ofNat 112, Char.ofNat 115, Char.ofNat 32, Char.ofNat 114, Char.ofNat 97, Char.ofNat 100, Char.ofNat 100, Char.ofNat 108, Char.ofNat 101, Char.ofNat 47, Char.ofNat 114, Char.ofNat 97, Char.ofNat 100, Char.ofNat 100, Char.ofNat 108, Char.ofNat 101, Char.ofNat 108, Char.ofNat 97, Char.ofNat 119, Char.ofNat 49, Char.ofNat 56, Char.ofNat 46, Char.ofNat 68, Char.ofNat 105, Char.ofNat 115, Char.ofNat 116, Char.ofNat 70, Char.ofNat 105, Char.ofNat 108, Char.ofNat 116, Char.ofNat 101, Char.ofNat 114, Char.ofNat 115, Char.ofNat 32, Char.ofNat 114, Char.ofNat 97, Char.ofNat 100, Char.ofNat 100, Char.ofNat 108, Char.ofNat 101, Char.ofNat 47, Char.ofNat 114, Char.ofNat 97, Char.ofNat 100, Char.ofNat 100, Char.ofNat 108, Char.ofNat 101, Char.ofNat 108, Char.ofNat 97, Char.ofNat 119, Char.ofNat 49, Char.ofNat 54, Char.ofNat 46, Char.ofNat 76, Char.ofNat 105, Char.ofNat 110, Char.ofNat 84, Char.ofNat 119, Char.ofNat 105, Char.ofNat 99, Char.ofNat 101, Char.ofNat 32, Char.ofNat 114, Char.ofNat 97, Char.ofNat 100, Char.ofNat 100, Char.ofNat 108, Char.ofNat 101, Char.ofNat 47, Char.ofNat 114, Char.ofNat 97, Char.ofNat 100, Char.ofNat 100, Char.ofNat 108, Char.ofNat 101, Char.ofNat 108, Char.ofNat 97, Char.ofNat 119, Char.ofNat 49, Char.ofNat 54, Char.ofNat 46, Char.ofNat 76, Char.ofNat 105, Char.ofNat 110, Char.ofNat 87, Char.ofNat 114, Char.ofNat 97, Char.ofNat 112, Char.ofNat 115, Char.ofNat 32, Char.ofNat 114, Char.ofNat 97, Char.ofNat 100, Char.ofNat 100, Char.ofNat 108, Char.ofNat 101, Char.ofNat 47, Char.ofNat 114, Char.ofNat 97, Char.ofNat 100, Char.ofNat 100, Char.ofNat 108, Char.ofNat 101, Char.ofNat 108, Char.ofNat 97, Char.ofNat 119, Char.ofNat 49, Char.ofNat 54, Char.ofNat 46, Char.ofNat 76, Char.ofNat 105, Char.ofNat 110, Char.ofNat 69, Char.ofNat 120, Char.ofNat 97, Char.ofNat 99, Char.ofNat 116, Char.ofNat 32, Char.ofNat 114, Char.ofNat 97, Char.ofNat 100, Char.ofNat 100, Char.ofNat 108, Char.ofNat 101, Char.ofNat 47, Char.ofNat 114, Char.ofNat 97, Char.ofNat 100, Char.ofNat 100, Char.ofNat 108, Char.ofNat 101, Char.ofNat 108, Char.ofNat 97, Char.ofNat 119, Char.ofNat 49, Char.ofNat 54, Char.ofNat 46, Char.ofNat 76, Char.ofNat 105, Char.ofNat 110, Char.ofNat 83, Char.ofNat 117, Char.ofNat 109, Char.ofNat 115, Char.ofNat 32, Char.ofNat 114, Char.ofNat 97, Char.ofNat 100, Char.ofNat 100, Char.ofNat 108, Char.ofNat 101, Char.ofNat 47, Char.ofNat 114, Char.ofNat 97, Char.ofNat 100, Char.ofNat 100, Char.ofNat 108, Char.ofNat 101, Char.ofNat 108, Char.ofNat 97, Char.ofNat 119, Char.ofNat 49, Char.ofNat 54, Char.ofNat 46, Char.ofNat 76, Char.ofNat 105, Char.ofNat 110, Char.ofNat 79, Char.ofNat 102, Char.ofNat 102, Char.ofNat 32, Char.ofNat 114, Char.ofNat 97, Char.ofNat 100, Char.ofNat 100, Char.ofNat 108, Char.ofNat 101, Char.ofNat 47, Char.ofNat 114, Char.ofNat 97, Char.ofNat 100, Char.ofNat 100, Char.ofNat 108, Char.ofNat 101, Char.ofNat 108, Char.ofNat 97, Char.ofNat 119, Char.ofNat 49, Char.ofNat 54, Char.ofNat 46, Char.ofNat 76, Char.ofNat 105, Char.ofNat 110, Char.ofNat 82, Char.ofNat 111, Char.ofNat 119, Char.ofNat 115, Char.ofNat 32, Char.ofNat 114, Char.ofNat 97, Char.ofNat 100, Char.ofNat 100, Char.ofNat 108, Char.ofNat 101, Char.ofNat 47, Char.ofNat 114, Char.ofNat 97, Char.ofNat 100, Char.ofNat 100, Char.ofNat 108, Char.ofNat 101, Char.ofNat 108, Char.ofNat 97, Char.ofNat 119, Char.ofNat 49, Char.ofNat 55, Char.ofNat 46, Char.ofNat 74, Char.ofNat 111, Char.ofNat 105, Char.ofNat 110, Char.ofNat 70, Char.ofNat 105, Char.ofNat 108, Char.ofNat 116, Char.ofNat 101, Char.ofNat 114, Char.ofNat 115, Char.ofNat 32, Char.ofNat 114, Char.ofNat 97, Char.ofNat 100, Char.ofNat 100, Char.ofNat 108, Char.ofNat 101, Char.ofNat 47, Char.ofNat 114, Char.ofNat 97, Char.ofNat 100, Char.ofNat 100, Char.ofNat 108, Char.ofNat 101, Char.ofNat 108, Char.ofNat 97, Char.ofNat 119, Char.ofNat 49, Char.ofNat 55, Char.ofNat 46, Char.ofNat 74, Char.ofNat 111, Char.ofNat 105, Char.ofNat 110, Char.ofNat 69, Char.ofNat 120, Char.ofNat 97, Char.ofNat 99, Char.ofNat 116, Char.ofNat 32, Char.ofNat 114, Char.ofNat 97, Char.ofNat 100, Char.ofNat 100, Char.ofNat 108, Char.ofNat 101, Char.ofNat 47, Char.ofNat 114, Char.ofNat 97, Char.ofNat 100, Char.ofNat 100, Char.ofNat 108, Char.ofNat 101, Char.ofNat 108, Char.ofNat 97, Char.ofNat 119, Char.ofNat 49, Char.ofNat 55, Char.ofNat 46, Char.ofNat 74, Char.ofNat 111, Char.ofNat 105, Char.ofNat 110, Char.ofNat 80, Char.ofNat 97, Char.ofNat 114, Char.ofNat 116, Char.ofNat 115, Char.ofNat 32, Char.ofNat 114, Char.ofNat 97, Char.ofNat 100, Char.ofNat 100, Char.ofNat 108, Char.ofNat 101, Char.ofNat 47, Char.ofNat 114, Char.ofNat 97, Char.ofNat 100, Char.ofNat 100, Char.ofNat 108, Char.ofNat 101, Char.ofNat 108, Char.ofNat 97, Char.ofNat 119, Char.ofNat 49, Char.ofNat 57, Char.ofNat 46, Char.ofNat 65, Char.ofNat 103, Char.ofNat 103, Char.ofNat 84, Char.ofNat 101, Char.ofNat 108, Char.ofNat 108, Char.ofNat 115, Char.ofNat 32, Char.ofNat 114, Char.ofNat 97, Char.ofNat 100, Char.ofNat 100, Char.ofNat 108, Char.ofNat 101, Char.ofNat 47, Char.ofNat 114, Char.ofNat 97, Char.ofNat 100, Char.ofNat 100, Char.ofNat 108, Char.ofNat 101, Char.ofNat 108, Char.ofNat 97, Char.ofNat 119, Char.ofNat 49, Char.ofNat 57, Char.ofNat 46, Char.ofNat 65, Char.ofNat 103, Char.ofNat 103, Char.ofNat 84, Char.ofNat 111, Char.ofNat 116, Char.ofNat 97, Char.ofNat 108, Char.ofNat 32, Char.ofNat 114, Char.ofNat 97, Char.ofNat 100, Char.ofNat 100, Char.ofNat 108, Char.ofNat 101, Char.ofNat 47, Char.ofNat 114, Char.ofNat 97, Char.ofNat 100, Char.ofNat 100, Char.ofNat 108, Char.ofNat 101, Char.ofNat 108, Char.ofNat 97, Char.ofNat 119, Char.ofNat 49, Char.ofNat 57, Char.ofNat 46, Char.ofNat 65, Char.ofNat 103, Char.ofNat 103, Char.ofNat 79, Char.ofNat 118, Char.ofNat 101, Char.ofNat 114, Char.ofNat 32, Char.ofNat 114, Char.ofNat 97, Char.ofNat 100, Char.ofNat 100, Char.ofNat 108, Char.ofNat 101, Char.ofNat 47, Char.ofNat 114, Char.ofNat 97, Char.ofNat 100, Char.ofNat 100, Char.ofNat 108, Char.ofNat 101, Char.ofNat 108, Char.ofNat 97, Char.ofNat 119, Char.ofNat 49, Char.ofNat 57, Char.ofNat 46, Char.ofNat 65, Char.ofNat 103, Char.ofNat 103, Char.ofNat 83, Char.ofNat 111, Char.ofNat 109, Char.ofNat 101, Char.ofNat 32, Char.ofNat 114, Char.ofNat 97, Char.ofNat 100, Char.ofNat 100, Char.ofNat 108, Char.ofNat 101, Char.ofNat 47, Char.ofNat 114, Char.ofNat 97, Char.ofNat 100, Char.ofNat 100, Char.ofNat 108, Char.ofNat 101, Char.ofNat 108, Char.ofNat 97, Char.ofNat 119, Char.ofNat 49, Char.ofNat 57, Char.ofNat 46, Char.ofNat 65, Char.ofNat 103, Char.ofNat 103, Char.ofNat 75, Char.ofNat 101, Char.ofNat 121, Char.ofNat 115, Char.ofNat 32, Char.ofNat 114, Char.ofNat 97, Char.ofNat 100, Char.ofNat 100, Char.ofNat 108, Char.ofNat 101, Char.ofNat 47, Char.ofNat 114, Char.ofNat 97, Char.ofNat 100, Char.ofNat 100, Char.ofNat 108, Char.ofNat 101, Char.ofNat 108, Char.ofNat 97, Char.ofNat 119, Char.ofNat 49, Char.ofNat 57, Char.ofNat 46, Char.ofNat 65, Char.ofNat 103, Char.ofNat 103, Char.ofNat 69, Char.ofNat 120, Char.ofNat 97, Char.ofNat 99, Char.ofNat 116, Char.ofNat 32, Char.ofNat 114, Char.ofNat 97, Char.ofNat 100, Char.ofNat 100, Char.ofNat 108, Char.ofNat 101, Char.ofNat 47, Char.ofNat 114, Char.ofNat 97, Char.ofNat 100, Char.ofNat 100, Char.ofNat 108, Char.ofNat 101, Char.ofNat 108, Char.ofNat 97, Char.ofNat 119, Char.ofNat 49, Char.ofNat 57, Char.ofNat 46, Char.ofNat 65, Char.ofNat 103, Char.ofNat 103, Char.ofNat 65, Char.ofNat 100, Char.ofNat 100, Char.ofNat 115]
theorem words_eq : headIs Try.prog ([Char.ofNat 99, Char.ofNat 117, Char.ofNat 116] :: [[Char.ofNat 97, Char.ofNat 116], [Char.ofNat 114, Char.ofNat 97, Char.ofNat 100, Char.ofNat 100, Char.ofNat 108, Char.ofNat 101, Char.ofNat 47, Char.ofNat 114, Char.ofNat 97, Char.ofNat 100, Char.ofNat 100, Char.ofNat 108, Char.ofNat 101, Char.ofNat 108, Char.ofNat 97, Char.ofNat 119, Char.ofNat 49, Char.ofNat 55, Char.ofNat 46, Char.ofNat 74, Char.ofNat 111, Char.ofNat 105, Char.ofNat 110, Char.ofNat 87, Char.ofNat 105, Char.ofNat 100, Char.ofNat 101], [Char.ofNat 114, Char.ofNat 97, Char.ofNat 100, Char.ofNat 100, Char.ofNat 108, Char.ofNat 101, Char.ofNat 47, Char.ofNat 114, Char.ofNat 97, Char.ofNat 100, Char.ofNat 100, Char.ofNat 108, Char.ofNat 101, Char.ofNat 108, Char.ofNat 97, Char.ofNat 119, Char.ofNat 49, Char.ofNat 56, Char.ofNat 46, Char.ofNat 68, Char.ofNat 105, Char.ofNat 115, Char.ofNat 116, Char.ofNat 69, Char.ofNat 120, Char.ofNat 97, Char.ofNat 99, Char.ofNat 116], [Char.ofNat 114, Char.ofNat 97, Char.ofNat 100, Char.ofNat 100, Char.ofNat 108, Char.ofNat 101, Char.ofNat 47, Char.ofNat 114, Char.ofNat 97, Char.ofNat 100, Char.ofNat 100, Char.ofNat 108, Char.ofNat 101, Char.ofNat 108, Char.ofNat 97, Char.ofNat 119, Char.ofNat 49, Char.ofNat 56, Char.ofNat 46, Char.ofNat 68, Char.ofNat 105, Char.ofNat 115, Char.ofNat 116, Char.ofNat 83, Char.ofNat 116, Char.ofNat 101, Char.ofNat 112, Char.ofNat 115], [Char.ofNat 114, Char.ofNat 97, Char.ofNat 100, Char.ofNat 100, Char.ofNat 108, Char.ofNat 101, Char.ofNat 47, Char.ofNat 114, Char.ofNat 97, Char.ofNat 100, Char.ofNat 100, Char.ofNat 108, Char.ofNat 101, Char.ofNat 108, Char.ofNat 97, Char.ofNat 119, Char.ofNat 49, Char.ofNat 55, Char.ofNat 46, Char.ofNat 74, Char.ofNat 111, Char.ofNat 105, Char.ofNat 110, Char.ofNat 82, Char.ofNat 111, Char.ofNat 119, Char.ofNat 115], [Char.ofNat 114, Char.ofNat 97, Char.ofNat 100, Char.ofNat 100, Char.ofNat 108, Char.ofNat 101, Char.ofNat 47, Char.ofNat 114, Char.ofNat 97, Char.ofNat 100, Char.ofNat 100, Char.ofNat 108, Char.ofNat 101, Char.ofNat 108, Char.ofNat 97, Char.ofNat 119, Char.ofNat 49, Char.ofNat 56, Char.ofNat 46, Char.ofNat 68, Char.ofNat 105, Char.ofNat 115, Char.ofNat 116, Char.ofNat 65, Char.ofNat 100, Char.ofNat 100, Char.ofNat 115], [Char.ofNat 114, Char.ofNat 97, Char.ofNat 100, Char.ofNat 100, Char.ofNat 108, Char.ofNat 101, Char.ofNat 47, Char.ofNat 114, Char.ofNat 97, Char.ofNat 100, Char.ofNat 100, Char.ofNat 108, Char.ofNat 101, Char.ofNat 108, Char.ofNat 97, Char.ofNat 119, Char.ofNat 49, Char.ofNat 55, Char.ofNat 46, Char.ofNat 74, Char.ofNat 111, Char.ofNat 105, Char.ofNat 110, Char.ofNat 83, Char.ofNat 119, Char.ofNat 97, Char.ofNat 112, Char.ofNat 115], [Char.ofNat 114, Char.ofNat 97, Char.ofNat 100, Char.ofNat 100, Char.ofNat 108, Char.ofNat 101, Char.ofNat 47, Char.ofNat 114, Char.ofNat 97, Char.ofNat 100, Char.ofNat 100, Char.ofNat 108, Char.ofNat 101, Char.ofNat 108, Char.ofNat 97, Char.ofNat 119, Char.ofNat 49, Char.ofNat 56, Char.ofNat 46, Char.ofNat 68, Char.ofNat 105, Char.ofNat 115, Char.ofNat 116, Char.ofNat 70, Char.ofNat 105, Char.ofNat 108, Char.ofNat 116, Char.ofNat 101, Char.ofNat 114, Char.ofNat 115], [Char.ofNat 114, Char.ofNat 97, Char.ofNat 100, Char.ofNat 100, Char.ofNat 108, Char.ofNat 101, Char.ofNat 47, Char.ofNat 114, Char.ofNat 97, Char.ofNat 100, Char.ofNat 100, Char.ofNat 108, Char.ofNat 101, Char.ofNat 108, Char.ofNat 97, Char.ofNat 119, Char.ofNat 49, Char.ofNat 54, Char.ofNat 46, Char.ofNat 76, Char.ofNat 105, Char.ofNat 110, Char.ofNat 84, Char.ofNat 119, Char.ofNat 105, Char.ofNat 99, Char.ofNat 101], [Char.ofNat 114, Char.ofNat 97, Char.ofNat 100, Char.ofNat 100, Char.ofNat 108, Char.ofNat 101, Char.ofNat 47, Char.ofNat 114, Char.ofNat 97, Char.ofNat 100, Char.ofNat 100, Char.ofNat 108, Char.ofNat 101, Char.ofNat 108, Char.ofNat 97, Char.ofNat 119, Char.ofNat 49, Char.ofNat 54, Char.ofNat 46, Char.ofNat 76, Char.ofNat 105, Char.ofNat 110, Char.ofNat 87, Char.ofNat 114, Char.ofNat 97, Char.ofNat 112, Char.ofNat 115], [Char.ofNat 114, Char.ofNat 97, Char.ofNat 100, Char.ofNat 100, Char.ofNat 108, Char.ofNat 101, Char.ofNat 47, Char.ofNat 114, Char.ofNat 97, Char.ofNat 100, Char.ofNat 100, Char.ofNat 108, Char.ofNat 101, Char.ofNat 108, Char.ofNat 97, Char.ofNat 119, Char.ofNat 49, Char.ofNat 54, Char.ofNat 46, Char.ofNat 76, Char.ofNat 105, Char.ofNat 110, Char.ofNat 69, Char.ofNat 120, Char.ofNat 97, Char.ofNat 99, Char.ofNat 116], [Char.ofNat 114, Char.ofNat 97, Char.ofNat 100, Char.ofNat 100, Char.ofNat 108, Char.ofNat 101, Char.ofNat 47, Char.ofNat 114, Char.ofNat 97, Char.ofNat 100, Char.ofNat 100, Char.ofNat 108, Char.ofNat 101, Char.ofNat 108, Char.ofNat 97, Char.ofNat 119, Char.ofNat 49, Char.ofNat 54, Char.ofNat 46, Char.ofNat 76, Char.ofNat 105, Char.ofNat 110, Char.ofNat 83, Char.ofNat 117, Char.ofNat 109, Char.ofNat 115], [Char.ofNat 114, Char.ofNat 97, Char.ofNat 100, Char.ofNat 100, Char.ofNat 108, Char.ofNat 101, Char.ofNat 47, Char.ofNat 114, Char.ofNat 97, Char.ofNat 100, Char.ofNat 100, Char.ofNat 108, Char.ofNat 101, Char.ofNat 108, Char.ofNat 97, Char.ofNat 119, Char.ofNat 49, Char.ofNat 54, Char.ofNat 46, Char.ofNat 76, Char.ofNat 105, Char.ofNat 110, Char.ofNat 79, Char.ofNat 102, Char.ofNat 102], [Char.ofNat 114, Char.ofNat 97, Char.ofNat 100, Char.ofNat 100, Char.ofNat 108, Char.ofNat 101, Char.ofNat 47, Char.ofNat 114, Char.ofNat 97, Char.ofNat 100, Char.ofNat 100, Char.ofNat 108, Char.ofNat 101, Char.ofNat 108, Char.ofNat 97, Char.ofNat 119, Char.ofNat 49, Char.ofNat 54, Char.ofNat 46, Char.ofNat 76, Char.ofNat 105, Char.ofNat 110, Char.ofNat 82, Char.ofNat 111, Char.ofNat 119, Char.ofNat 115], [Char.ofNat 114, Char.ofNat 97, Char.ofNat 100, Char.ofNat 100, Char.ofNat 108, Char.ofNat 101, Char.ofNat 47, Char.ofNat 114, Char.ofNat 97, Char.ofNat 100, Char.ofNat 100, Char.ofNat 108, Char.ofNat 101, Char.ofNat 108, Char.ofNat 97, Char.ofNat 119, Char.ofNat 49, Char.ofNat 55, Char.ofNat 46, Char.ofNat 74, Char.ofNat 111, Char.ofNat 105, Char.ofNat 110, Char.ofNat 70, Char.ofNat 105, Char.ofNat 108, Char.ofNat 116, Char.ofNat 101, Char.ofNat 114, Char.ofNat 115], [Char.ofNat 114, Char.ofNat 97, Char.ofNat 100, Char.ofNat 100, Char.ofNat 108, Char.ofNat 101, Char.ofNat 47, Char.ofNat 114, Char.ofNat 97, Char.ofNat 100, Char.ofNat 100, Char.ofNat 108, Char.ofNat 101, Char.ofNat 108, Char.ofNat 97, Char.ofNat 119, Char.ofNat 49, Char.ofNat 55, Char.ofNat 46, Char.ofNat 74, Char.ofNat 111, Char.ofNat 105, Char.ofNat 110, Char.ofNat 69, Char.ofNat 120, Char.ofNat 97, Char.ofNat 99, Char.ofNat 116], [Char.ofNat 114, Char.ofNat 97, Char.ofNat 100, Char.ofNat 100, Char.ofNat 108, Char.ofNat 101, Char.ofNat 47, Char.ofNat 114, Char.ofNat 97, Char.ofNat 100, Char.ofNat 100, Char.ofNat 108, Char.ofNat 101, Char.ofNat 108, Char.ofNat 97, Char.ofNat 119, Char.ofNat 49, Char.ofNat 55, Char.ofNat 46, Char.ofNat 74, Char.ofNat 111, Char.ofNat 105, Char.ofNat 110, Char.ofNat 80, Char.ofNat 97, Char.ofNat 114, Char.ofNat 116, Char.ofNat 115], [Char.ofNat 114, Char.ofNat 97, Char.ofNat 100, Char.ofNat 100, Char.ofNat 108, Char.ofNat 101, Char.ofNat 47, Char.ofNat 114, Char.ofNat 97, Char.ofNat 100, Char.ofNat 100, Char.ofNat 108, Char.ofNat 101, Char.ofNat 108, Char.ofNat 97, Char.ofNat 119, Char.ofNat 49, Char.ofNat 57, Char.ofNat 46, Char.ofNat 65, Char.ofNat 103, Char.ofNat 103, Char.ofNat 84, Char.ofNat 101, Char.ofNat 108, Char.ofNat 108, Char.ofNat 115], [Char.ofNat 114, Char.ofNat 97, Char.ofNat 100, Char.ofNat 100, Char.ofNat 108, Char.ofNat 101, Char.ofNat 47, Char.ofNat 114, Char.ofNat 97, Char.ofNat 100, Char.ofNat 100, Char.ofNat 108, Char.ofNat 101, Char.ofNat 108, Char.ofNat 97, Char.ofNat 119, Char.ofNat 49, Char.ofNat 57, Char.ofNat 46, Char.ofNat 65, Char.ofNat 103, Char.ofNat 103, Char.ofNat 84, Char.ofNat 111, Char.ofNat 116, Char.ofNat 97, Char.ofNat 108], [Char.ofNat 114, Char.ofNat 97, Char.ofNat 100, Char.ofNat 100, Char.ofNat 108, Char.ofNat 101, Char.ofNat 47, Char.ofNat 114, Char.ofNat 97, Char.ofNat 100, Char.ofNat 100, Char.ofNat 108, Char.ofNat 101, Char.ofNat 108, Char.ofNat 97, Char.ofNat 119, Char.ofNat 49, Char.ofNat 57, Char.ofNat 46, Char.ofNat 65, Char.ofNat 103, Char.ofNat 103, Char.ofNat 79, Char.ofNat 118, Char.ofNat 101, Char.ofNat 114], [Char.ofNat 114, Char.ofNat 97, Char.ofNat 100, Char.ofNat 100, Char.ofNat 108, Char.ofNat 101, Char.ofNat 47, Char.ofNat 114, Char.ofNat 97, Char.ofNat 100, Char.ofNat 100, Char.ofNat 108, Char.ofNat 101, Char.ofNat 108, Char.ofNat 97, Char.ofNat 119, Char.ofNat 49, Char.ofNat 57, Char.ofNat 46, Char.ofNat 65, Char.ofNat 103, Char.ofNat 103, Char.ofNat 83, Char.ofNat 111, Char.ofNat 109, Char.ofNat 101], [Char.ofNat 114, Char.ofNat 97, Char.ofNat 100, Char.ofNat 100, Char.ofNat 108, Char.ofNat 101, Char.ofNat 47, Char.ofNat 114, Char.ofNat 97, Char.ofNat 100, Char.ofNat 100, Char.ofNat 108, Char.ofNat 101, Char.ofNat 108, Char.ofNat 97, Char.ofNat 119, Char.ofNat 49, Char.ofNat 57, Char.ofNat 46, Char.ofNat 65, Char.ofNat 103, Char.ofNat 103, Char.ofNat 75, Char.ofNat 101, Char.ofNat 121, Char.ofNat 115], [Char.ofNat 114, Char.ofNat 97, Char.ofNat 100, Char.ofNat 100, Char.ofNat 108, Char.ofNat 101, Char.ofNat 47, Char.ofNat 114, Char.ofNat 97, Char.ofNat 100, Char.ofNat 100, Char.ofNat 108, Char.ofNat 101, Char.ofNat 108, Char.ofNat 97, Char.ofNat 119, Char.ofNat 49, Char.ofNat 57, Char.ofNat 46, Char.ofNat 65, Char.ofNat 103, Char.ofNat 103, Char.ofNat 69, Char.ofNat 120, Char.ofNat 97, Char.ofNat 99, Char.ofNat 116], [Char.ofNat 114, Char.ofNat 97, Char.ofNat 100, Char.ofNat 100, Char.ofNat 108, Char.ofNat 101, Char.ofNat 47, Char.ofNat 114, Char.ofNat 97, Char.ofNat 100, Char.ofNat 100, Char.ofNat 108, Char.ofNat 101, Char.ofNat 108, Char.ofNat 97, Char.ofNat 119, Char.ofNat 49, Char.ofNat 57, Char.ofNat 46, Char.ofNat 65, Char.ofNat 103, Char.ofNat 103, Char.ofNat 65, Char.ofNat 100, Char.ofNat 100, Char.ofNat 115]]) := head_of (l := signs) (by kernel_rfl) (by kernel_rfl)
theorem laid : laidOutB Try.prog = true := by kernel_rfl
theorem rowed : mapsRowed Try.prog = true := by kernel_rfl
theorem heard : Try.prog.stopsHeard = true := by kernel_rfl
theorem plain : Try.prog.plainKeys = true := by kernel_rfl
theorem doorRows : Try.prog.doorRows = [] := by kernel_rfl
theorem laysLater : Try.prog.laysLater = false := by kernel_rfl
theorem bearsReflect : Try.prog.bearsReflect = false := by kernel_rfl
theorem cutMade : Try.prog.make = some .cut := make_of words_eq (by kernel_rfl) (by kernel_rfl)
theorem cutLifts : Try.prog.liftsFinal = false := lifts_of words_eq (by kernel_rfl) (by kernel_rfl) (by kernel_rfl)
theorem cutEnter : Try.prog.mayEnter = true := enter_of words_eq (by kernel_rfl) (by kernel_rfl) (by kernel_rfl) (by kernel_rfl) doorRows laysLater bearsReflect
end Yt
