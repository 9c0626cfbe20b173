/- Contracts of the program's functions over abstract values and states, plain facts on which these lean, and the framework of these values over the model: Plain facts of what is projected. Distinct rows; sets as what their makers answer, let go. Plain facts of distinct rows; the wake of chapter 18. The law DistFilters. The law DistAdds. The law DistSteps. From the statement's arguments to those of the walks. The conditions stand in each theorem. -/
import Derived.Test.YtbnbngkbngmndaaBd
import Derived.Test.YtbnbngkbngmndaaBb
import Derived.JoinedCond
import Derived.WalkKit
import Derived.ProofKit
import Derived.Test.YtbnbngkbngmndaaRows
set_option linter.all false
namespace Yt
open Go Go.Vc Go.Proofs
set_option maxRecDepth 10000
set_option maxHeartbeats 8000000
set_option linter.unusedSimpArgs false
set_option linter.unusedVariables false
theorem pick_in {r : List V} {cols : List Int} (h : pickE r cols = 0) : cols.length ≤ 12 ∧ ∀ c ∈ cols, 0 ≤ c ∧ c < r.length := by
  simp only [pickE] at h
  split at h
  · cases h
  · rename_i h1
    split at h
    · cases h
    · refine ⟨by omega, fun c hc => ?_⟩
      have h1 : cols.any (outC r.length) = false := by simpa using h1
      rw [List.any_eq_false] at h1
      have := h1 c hc
      simp [outC] at this
      omega
theorem pick_row {r : List V} {cols : List Int} (h : pickE r cols = 0) (hr : okR r = 0) : okR (pickR r cols) = 0 ∧ (pickR r cols).length ≤ 12 := by
  obtain ⟨h1, h2⟩ := pick_in h
  have hl : (pickR r cols).length = cols.length := by simp [pickR]
  have ha : (pickR r cols).all okV = true := by
    rw [List.all_eq_true]
    intro v hv
    obtain ⟨c, hc, rfl⟩ := List.mem_map.1 hv
    obtain ⟨g1, g2⟩ := h2 c hc
    have hlt : c.toNat < r.length := by omega
    have e : getV r c = r[c.toNat] := by simp [getV, hlt]
    rw [e]
    simp only [okR] at hr
    split at hr
    · cases hr
    · split at hr
      · rename_i h3
        exact List.all_eq_true.1 h3 _ (List.getElem_mem _)
      · cases hr
  refine ⟨?_, by omega⟩
  rw [okR, if_neg (by omega), if_pos ha]
theorem tot_proj (cols : List Int) (z : List It) (r : List V) : tot r (z.map (projI cols)) = sumW (z.filter fun t => decide (cmpR (pickR t.row cols) r = 0)) := by
  induction z with
  | nil => simp [tot, sumW]
  | cons t z ih =>
    simp only [List.map_cons, tot, ih]
    have e : (projI cols t).row = pickR t.row cols := rfl
    have e2 : (projI cols t).w = t.w := rfl
    rw [e, e2]
    by_cases h : cmpR (pickR t.row cols) r = 0
    · rw [List.filter_cons_of_pos (by simpa using h)]
      simp [sumW, h]
    · rw [List.filter_cons_of_neg (by simpa using h)]
      simp [h]
theorem proj_tot {x y : List It} (h : ∀ r, tot r x = tot r y) (cols : List Int) (r : List V) : tot r (x.map (projI cols)) = tot r (y.map (projI cols)) := by
  rw [tot_proj, tot_proj]
  exact sum_tot _ _ _ (Nat.le_refl _) fun q => by
    rw [tot_filter (fun q => decide (cmpR (pickR q cols) r = 0)), tot_filter (fun q => decide (cmpR (pickR q cols) r = 0)), h]
theorem ProjR.ok {z out : List It} {k j : Nat} {cols : List Int} {err : Int} (h : Sm z k) (hb : ∀ r, -(356400 * (j : Int)) ≤ Yt.tot r (z.map (projI cols)) ∧ Yt.tot r (z.map (projI cols)) ≤ 356400 * j) (hk : k ≤ j) (hj : j ≤ 1000)
    (hp : ProjR z cols out err) : (err = 0 ∧ (∀ t ∈ z, pickE t.row cols = 0) ∧ Sm out j ∧ ∀ r, Yt.tot r out = Yt.tot r (z.map (projI cols))) ∨ (err ≠ 0 ∧ out = [] ∧ ∃ t ∈ z, pickE t.row cols = err) := by
  rcases hp with ⟨hn, _⟩ | ⟨_, ht, he, ho⟩ | ⟨_, ht, hm⟩
  · exact absurd h.good hn
  · exact .inr ⟨he, ho, ht⟩
  · refine .inl ?_
    obtain ⟨h1, h2, h3, h4, h5⟩ := makeR_fine hm (by
      rw [List.any_eq_false]; intro t hv
      obtain ⟨u, hu, rfl⟩ := List.mem_map.1 hv
      have e1 := (pick_row (ht u hu) (h.rows u hu).1).1
      have e2 := (h.made.nz u hu).2
      simp [okI, projI, e1, e2]) fun r => by
        have := hb r
        simp only [okW, inB, Bool.and_eq_true, decide_eq_true_eq]; omega
    refine ⟨h1, ht, ⟨h2, fun t hu => ?_, ?_, fun r => by rw [h3]; exact hb r⟩, h3⟩
    · obtain ⟨g1, u, hu, e⟩ := h4 t hu
      obtain ⟨v, hv, rfl⟩ := List.mem_map.1 hu
      refine ⟨g1, ?_⟩
      rw [← e]
      have := (pick_row (ht v hv) (h.rows v hv).1).2
      have e3 : (projI cols v).row = pickR v.row cols := rfl
      rw [e3]; omega
    · have := h.len
      rw [List.length_map] at h5; omega
theorem proj_bound {z : List It} {j k : Nat} (h : ∀ t ∈ z, -(5940 * (j : Int)) ≤ t.w ∧ t.w ≤ 5940 * j) (hl : z.length ≤ 60 * k) (cols : List Int) (r : List V) :
    -(356400 * ((j * k : Nat) : Int)) ≤ tot r (z.map (projI cols)) ∧ tot r (z.map (projI cols)) ≤ 356400 * ((j * k : Nat) : Int) := by
  have h1 := tot_bound (z := z.map (projI cols)) (k := 5940 * (j : Int)) (by omega) (fun t ht => by obtain ⟨u, hu, rfl⟩ := List.mem_map.1 ht; exact h u hu) r
  rw [List.length_map] at h1
  have h2 : 5940 * (j : Int) * (z.length : Int) ≤ 5940 * (j : Int) * ((60 * k : Nat) : Int) := Int.mul_le_mul_of_nonneg_left (by omega) (by omega)
  have e : 5940 * (j : Int) * ((60 * k : Nat) : Int) = 356400 * ((j * k : Nat) : Int) := by
    rw [Int.natCast_mul, Int.natCast_mul, Int.mul_assoc, Int.mul_left_comm (j : Int), ← Int.mul_assoc]; rfl
  rw [e] at h2
  omega
theorem u64_nat {n : Nat} (h : n < 4611686018427387904) : IntKind.u64.wrap (n : Int) = n := by simp [IntKind.wrap, IntKind.signed, IntKind.bits]; omega
theorem u64_rem (x k : Int) (hk : 0 < k) (hk' : k ≤ 4611686018427387904) : ∃ o : Nat, (IntKind.u64.wrap x).tmod k = o ∧ (o : Int) < k ∧ IntKind.i64.wrap (o : Int) = o := by
  have h0 : 0 ≤ IntKind.u64.wrap x := by simp [IntKind.wrap, IntKind.signed, IntKind.bits]; omega
  have h5 := Int.tmod_eq_emod_of_nonneg (b := k) h0
  have h6 := Int.emod_nonneg (IntKind.u64.wrap x) (show k ≠ 0 by omega)
  have h7 := Int.emod_lt_of_pos (IntKind.u64.wrap x) hk
  refine ⟨((IntKind.u64.wrap x).tmod k).toNat, by omega, by omega, by rw [wrap_i64] <;> omega⟩
/-- What of the first k leads to r. -/
def sumP (cols : List Int) (r : List V) (a : List It) (k : Nat) : Int := sumW ((a.take k).filter fun t => decide (cmpR (pickR t.row cols) r = 0))
theorem sumP_in {cols : List Int} {r : List V} {a : List It} {k : Nat} (h : k < a.length) (e : pickR a[k].row cols = r) : sumP cols r a (k + 1) = sumP cols r a k + a[k].w := by
  simp only [sumP]
  rw [List.take_succ_eq_append_getElem h, List.filter_append, sumW_append]
  congr 1
  rw [List.filter_cons_of_pos (by simp [e, lin_cmpR.self])]
  simp [sumW]
theorem sumP_out {cols : List Int} {r : List V} {a : List It} {k : Nat} (h : k < a.length) (e : pickR a[k].row cols ≠ r) : sumP cols r a (k + 1) = sumP cols r a k := by
  simp only [sumP]
  rw [List.take_succ_eq_append_getElem h, List.filter_append]
  have e2 : ¬ cmpR (pickR a[k].row cols) r = 0 := fun h => e (lin_cmpR.eq _ _ h)
  rw [List.filter_cons_of_neg (by simp [e2])]
  simp
theorem sumP_bound {cols : List Int} {r : List V} {a : List It} {k : Nat} (h : ∀ t ∈ a, -5940 ≤ t.w ∧ t.w ≤ 5940) (hl : a.length ≤ 60) : -356400 ≤ sumP cols r a k ∧ sumP cols r a k ≤ 356400 := by
  have h1 := sumW_bound (k := 5940) (by decide) (z := (a.take k).filter fun t => decide (cmpR (pickR t.row cols) r = 0)) fun t ht => h t (List.mem_of_mem_take (List.mem_filter.1 ht).1)
  have h2 : ((a.take k).filter fun t => decide (cmpR (pickR t.row cols) r = 0)).length ≤ 60 := Nat.le_trans (List.length_filter_le _ _) (by simp; omega)
  simp only [sumP]
  omega
theorem sumP_all (cols : List Int) (r : List V) (a : List It) : sumP cols r a a.length = tot r (a.map (projI cols)) := by
  rw [sumP, List.take_length, tot_proj]
theorem ProjR.len {z out : List It} {cols : List Int} {err : Int} (h : ProjR z cols out err) : out.length ≤ z.length := by
  rcases h with ⟨_, rfl, _⟩ | ⟨_, _, _, rfl⟩ | ⟨_, _, h⟩
  · simp
  · simp
  · rcases h with ⟨_, rfl, _⟩ | ⟨_, rfl, _⟩ | ⟨_, _, _, _, _, h⟩
    · simp
    · simp
    · simpa using h
theorem sumW_proj (cols : List Int) (z : List It) : sumW (z.map (projI cols)) = sumW z := by
  induction z with
  | nil => rfl
  | cons t z ih => simp only [List.map_cons, sumW, ih]; rfl
end Yt
namespace Yt
open Go Go.Vc Go.Proofs
set_option maxRecDepth 10000
set_option maxHeartbeats 8000000
set_option linter.unusedSimpArgs false
set_option linter.unusedVariables false
theorem fz_so (z : List It) : (AV.rf 0 0 z.length).fz 0 (so z) = setA z := by
  rw [fz_rf, if_pos rfl, List.drop_zero, List.take_of_length_le (by simp [so])]; rfl
theorem fz_ro3 (r : List V) : (AV.rf 0 0 r.length).fz 0 (ro3 r) = rowA r := by
  rw [fz_rf, if_pos rfl, List.drop_zero, List.take_of_length_le (by simp [ro3])]; rfl
theorem Spec1.setE {f : Nat} {args : List AV} {Q : List It → Int → Prop} (h : Spec1 Try.prog f args (fun r o => ∃ (out : List It) (err : Int), r = .tu [.rf 0 0 out.length, iA err] ∧ o = so out ∧ Q out err)) :
    Spec0 Try.prog f args fun r => ∃ (out : List It) (err : Int), r = .tu [setA out, iA err] ∧ Q out err :=
  (Spec1.fz h).mono fun r O' ⟨⟨⟨r0, o, ⟨out, err, e1, e2, hq⟩, _, _, e3⟩, hn⟩, hO⟩ => by
    subst e1; subst e2; subst e3
    refine ⟨⟨⟨out, err, ?_, hq⟩, hn⟩, hO⟩
    rw [fz_tu, fzs_cons, fzs_cons, fzs_nil, fz_so, iA, fz_pr]
theorem Spec1.set1 {f : Nat} {args : List AV} {Q : List It → Prop} (h : Spec1 Try.prog f args (fun r o => ∃ (out : List It), r = .rf 0 0 out.length ∧ o = so out ∧ Q out)) :
    Spec0 Try.prog f args fun r => ∃ (out : List It), r = setA out ∧ Q out :=
  (Spec1.fz h).mono fun r O' ⟨⟨⟨r0, o, ⟨out, e1, e2, hq⟩, _, _, e3⟩, hn⟩, hO⟩ => by
    subst e1; subst e2; subst e3
    exact ⟨⟨⟨out, fz_so out, hq⟩, hn⟩, hO⟩
theorem Spec1.setC {f : Nat} {args : List AV} {z : List It} (h : Spec1 Try.prog f args (fun r o => r = .rf 0 0 z.length ∧ o = so z)) : Spec0 Try.prog f args (· = setA z) :=
  (Spec1.fz h).mono fun r O' ⟨⟨⟨r0, o, ⟨e1, e2⟩, _, _, e3⟩, hn⟩, hO⟩ => by
    subst e1; subst e2; subst e3
    exact ⟨⟨fz_so z, hn⟩, hO⟩
theorem EL.mapL {α : Type} {f : α → List AV} {l : List α} {tail : List (List AV)} {i : Nat} {K : List AV → Prop} (h : i < l.length) (k : K (f l[i])) : EL (l.map f ++ tail) i K :=
  ⟨f l[i], by rw [List.getElem?_append_left (by simpa using h)]; simp [h], k⟩
theorem setL {α : Type} {f : α → List AV} {l : List α} {tail : List (List AV)} {i : Nat} {x : α} (h : i < l.length) : (l.map f ++ tail).set i (f x) = (l.set i x).map f ++ tail := by
  rw [List.set_append_left _ _ (by simpa using h), List.map_set]
theorem Spec1.row1 {f : Nat} {args : List AV} {Q : List V → Prop} (h : Spec1 Try.prog f args (fun r o => ∃ (out : List V), r = .rf 0 0 out.length ∧ o = ro3 out ∧ Q out)) :
    Spec0 Try.prog f args fun r => ∃ (out : List V), r = rowA out ∧ Q out :=
  (Spec1.fz h).mono fun r O' ⟨⟨⟨r0, o, ⟨out, e1, e2, hq⟩, _, _, e3⟩, hn⟩, hO⟩ => by
    subst e1; subst e2; subst e3
    exact ⟨⟨⟨out, fz_ro3 out, hq⟩, hn⟩, hO⟩
theorem Spec1.rowE {f : Nat} {args : List AV} {Q : List V → Int → Prop} (h : Spec1 Try.prog f args (fun r o => ∃ (out : List V) (err : Int), r = .tu [.rf 0 0 out.length, iA err] ∧ o = ro3 out ∧ Q out err)) :
    Spec0 Try.prog f args fun r => ∃ (out : List V) (err : Int), r = .tu [rowA out, iA err] ∧ Q out err :=
  (Spec1.fz h).mono fun r O' ⟨⟨⟨r0, o, ⟨out, err, e1, e2, hq⟩, _, _, e3⟩, hn⟩, hO⟩ => by
    subst e1; subst e2; subst e3
    refine ⟨⟨⟨out, err, ?_, hq⟩, hn⟩, hO⟩
    rw [fz_tu, fzs_cons, fzs_cons, fzs_nil, fz_ro3, iA, fz_pr]
theorem spec0_nls {P : Program} {f : Nat} {l l' : List AV} {R : AV → Prop} (h : Spec0 P f l R) (hn : nlOk l l') : Spec0 P f l' R := spec_nl h hn
theorem c84 (t : It) : Spec0 Try.prog 84 [.ag t.c] (· = bA (decide (t.w < 0))) := by
  refine spec0_of_vc tabOk elems ord84 Try.func84 rfl (rl := [.tmp 2]) rfl (by kernel_rfl) rfl ?_
  (simp -implicitDefEqProofs only [go_sem, It.c, iA, rowA]; repeat (refine GO ?_; simp -implicitDefEqProofs only [go_sem, It.c, iA, rowA]))
  simp [bA]
def distL (z : List It) : List It := (z.filter fun t => !decide (t.w < 0)).map fun t => oneI t.row
/-- The first so many with weight 1. -/
def upto1 (y : List It) (i : Nat) : List It := (y.take i).map (fun t => oneI t.row) ++ y.drop i
theorem upto1_len {y : List It} {i : Nat} (h : i ≤ y.length) : (upto1 y i).length = y.length := by simp [upto1]; omega
theorem upto1_get {y : List It} {i : Nat} (h : i < y.length) (h2 : i < (upto1 y i).length) : (upto1 y i)[i] = y[i] := by
  simp only [upto1]
  rw [List.getElem_append_right (by simp; omega)]
  simp [Nat.min_eq_left (Nat.le_of_lt h)]
theorem upto1_set {y : List It} {i : Nat} (h : i < y.length) : (upto1 y i).set i (oneI y[i].row) = upto1 y (i + 1) := by
  simp only [upto1]
  rw [List.set_append_right _ _ (by simp; omega), List.take_succ_eq_append_getElem h, List.map_append, List.length_map, List.length_take, Nat.min_eq_left (Nat.le_of_lt h), Nat.sub_self, List.drop_eq_getElem_cons h, List.set_cons_zero]
  simp only [List.map_cons, List.map_nil, List.append_assoc, List.cons_append, List.nil_append]
theorem c32 (z : List It) (hl : z.length ≤ 1048576) (hr : ∀ t ∈ z, t.row.length < 1073741824) :
    Spec0 Try.prog 32 [setA z] (fun r => ∃ (out : List It) (err : Int), r = .tu [setA out, iA err] ∧ ((¬ Good z ∧ out = [] ∧ err = 1) ∨ (Good z ∧ out = distL z ∧ err = 0))) := by
  refine spec0_of_vc tabOk elems ord32 Try.func32 rfl (rl := [.tmp 2, .tmp 3]) rfl (by kernel_rfl) rfl ?_
  (simp -implicitDefEqProofs only [go_sem, setA]; repeat (refine GO ?_; simp -implicitDefEqProofs only [go_sem, setA]))
  refine .pure _ (s16 z (by omega) (fun t ht => by have := hr t ht; omega)) rfl fun q hq _ => ?_
  obtain ⟨e, rfl, he, hg⟩ := hq
  (simp -implicitDefEqProofs only [go_sem, iA]; repeat (refine GO ?_; simp -implicitDefEqProofs only [go_sem, iA]))
  refine VIF.split (fun h => ?_) (fun h => ?_)
  · have h : e ≠ 0 := by simpa using h
    have h1 : e = 1 := by omega
    subst h1
    simp -implicitDefEqProofs only [go_sem]
    refine TO [] [(2, setA []), (3, iA 1)] [] [] rfl ?_ ?_
    · (simp -implicitDefEqProofs only [go_sem, setA, iA]; repeat (refine GO ?_; simp -implicitDefEqProofs only [go_sem, setA, iA]))
      exact ⟨id, rfl⟩
    (simp -implicitDefEqProofs only [go_sem]; repeat (refine GO ?_; simp -implicitDefEqProofs only [go_sem]))
    exact ⟨rfl, [], 1, rfl, .inl ⟨fun g => h (hg.2 g), rfl, rfl⟩⟩
  · have h : e = 0 := by simpa using h
    have hg := hg.1 h
    (simp -implicitDefEqProofs only [go_sem]; repeat (refine GO ?_; simp -implicitDefEqProofs only [go_sem]))
    refine .make 13 _ (s57 z hl hr) rfl (by simp) rfl fun q o hq _ => ?_
    obtain ⟨rfl, rfl⟩ := hq
    simp -implicitDefEqProofs only [go_sem, so]
    refine GO ?_
    simp -implicitDefEqProofs only [go_sem, so]
    refine .both 13 (so z) _ [.rf 0 0 z.length, .fn 84 []] (c82 84 [] rfl (fun t => decide (t.w < 0)) (fun t => True) (fun t ht => c84 t) z (fun t ht => trivial) hl) rfl (so_leafy z) rfl rfl fun q o' hq hlf => ?_
    obtain ⟨y, hy, rfl, hsz, hes⟩ := hq
    have hyl : y.length ≤ z.length := by rw [hy]; exact List.length_filter_le _ _
    obtain ⟨tail, rfl, htl⟩ : ∃ tail, o' = ⟨2, y.map It.c ++ tail⟩ ∧ ∀ x ∈ tail, ∀ a ∈ x, a.leaf = true := by
      refine ⟨o'.es.drop y.length, ?_, fun x hx => hlf x (List.mem_of_mem_drop hx)⟩
      rw [← hes, List.take_append_drop, ← hsz]
    (simp -implicitDefEqProofs only [go_sem]; repeat (refine GO ?_; simp -implicitDefEqProofs only [go_sem]))
    have hlf2 : ∀ i, (Ob.mk 2 ((upto1 y i).map It.c ++ tail)).leafy := fun i x hx => by
      rcases List.mem_append.1 hx with hx | hx
      · exact so_leafy (upto1 y i) x hx
      · exact htl x hx
    refine LOOP.mk (ι := { i : Nat // i ≤ y.length }) (fun p => mkS [(5, .rf 1000 0 y.length), (16, iA y.length), (17, iA p.1)] [(1000, ⟨2, (upto1 y p.1).map It.c ++ tail⟩)] [1000])
      (fun p => y.length - p.1) ⟨0, Nat.zero_le _⟩ [(1000, some 13)] rfl rfl ?_ (fun p => ?_)
    · (simp -implicitDefEqProofs only [go_sem, iA]; repeat (refine GO ?_; simp -implicitDefEqProofs only [go_sem, iA]))
      exact ⟨id, rfl, .same ⟨2, y.map It.c ++ tail⟩ _ _ (hlf2 0) rfl⟩
    · obtain ⟨i, hi⟩ := p
      (simp -implicitDefEqProofs only [go_sem, iA]; repeat (refine GO ?_; simp -implicitDefEqProofs only [go_sem, iA]))
      refine VIF.split (fun h1 => ?_) (fun h1 => ?_)
      · have h1 : i < y.length := by simpa using h1
        have w1 := wrap_add1 (show i < 4611686018427387904 by omega)
        have hi2 : i < (upto1 y i).length := by rw [upto1_len hi]; exact h1
        have e1 : (List.map It.c (upto1 y i) ++ tail).set i [rowA y[i].row, iA 1] = List.map It.c (upto1 y (i + 1)) ++ tail := by
          rw [← upto1_set h1]; exact setL (f := It.c) (x := oneI y[i].row) hi2
        (simp -implicitDefEqProofs only [go_sem]; repeat (refine GO ?_; simp -implicitDefEqProofs only [go_sem]))
        refine ⟨by omega, EL.mapL hi2 ?_⟩
        rw [upto1_get h1]
        (simp -implicitDefEqProofs only [go_sem, It.c, w1]; repeat (refine GO ?_; simp -implicitDefEqProofs only [go_sem, It.c, w1]))
        refine BACK.mk ⟨i + 1, by omega⟩ [(1000, some 1000)] rfl rfl (by show y.length - (i + 1) < y.length - i; omega) ?_
        (simp -implicitDefEqProofs only [go_sem, iA, w1]; repeat (refine GO ?_; simp -implicitDefEqProofs only [go_sem, iA, w1]))
        exact ⟨id, .same (so []) _ _ (fun x hx => hlf2 (i + 1) x (e1 ▸ hx)) e1⟩
      · have h1 : i = y.length := by simp at h1; omega
        subst h1
        have hd : upto1 y y.length = distL z := by
          simp only [upto1, List.take_length, List.drop_length, List.append_nil, distL, hy]
        rw [hd]
        have hdl : (distL z).length = y.length := by rw [← hd, upto1_len (Nat.le_refl _)]
        simp -implicitDefEqProofs only [go_sem]
        refine GO ?_
        simp -implicitDefEqProofs only [go_sem]
        refine TO [] [(25, setA (distL z))] [] [] rfl ?_ ?_
        · (simp -implicitDefEqProofs only [go_sem, setA]; repeat (refine GO ?_; simp -implicitDefEqProofs only [go_sem, setA]))
          refine ⟨id, by decide, _, rfl, ?_, rfl, ?_⟩
          · rw [← hd]; exact hlf2 _
          · rw [← hdl]; show List.take _ (List.map It.c (distL z) ++ tail) = _
            rw [List.take_append_of_le_length (by simp), take_so]
        (simp -implicitDefEqProofs only [go_sem, setA]; repeat (refine GO ?_; simp -implicitDefEqProofs only [go_sem, setA]))
        refine .pure _ (Spec1.setC (s38 (distL z) (by omega))) rfl fun q hq _ => ?_
        subst hq
        (simp -implicitDefEqProofs only [go_sem, setA]; repeat (refine GO ?_; simp -implicitDefEqProofs only [go_sem, setA]))
        exact ⟨rfl, distL z, 0, rfl, .inr ⟨hg, rfl, rfl⟩⟩
/-- What of the distinct rows is more. -/
def DDel (z dz out : List It) (err : Int) : Prop := ∃ now e, AddR z dz now e ∧ ((e ≠ 0 ∧ out = [] ∧ err = e) ∨ (e = 0 ∧ MinR (distL now) (distL z) out err))
theorem makeR_rows {z out : List It} {err : Int} (h : MakeR z out err) : out.length ≤ z.length ∧ ∀ t ∈ out, ∃ u ∈ z, u.row = t.row := by
  rcases h with ⟨_, rfl, _⟩ | ⟨_, rfl, _⟩ | ⟨_, _, _, _, h, hl⟩
  · simp
  · simp
  · exact ⟨hl, fun t ht => (h t ht).2⟩
theorem addR_rows {a b out : List It} {err : Int} (h : AddR a b out err) : out.length ≤ a.length + b.length ∧ ∀ t ∈ out, ∃ u ∈ a ++ b, u.row = t.row := by
  rcases h with ⟨_, rfl, _⟩ | ⟨_, _, h⟩
  · simp
  · have := makeR_rows h
    rw [List.length_append] at this; exact this
theorem distL_len (z : List It) : (distL z).length ≤ z.length := by
  rw [distL, List.length_map]; exact List.length_filter_le _ _
theorem distL_rows {z : List It} {P : List V → Prop} (h : ∀ t ∈ z, P t.row) : ∀ t ∈ distL z, P t.row := fun t ht => by
  obtain ⟨u, hu, rfl⟩ := List.mem_map.1 ht
  exact h u (List.mem_filter.1 hu).1
theorem addR_good {a b out : List It} {err : Int} (h : AddR a b out err) (he : err = 0) : Good a ∧ Good b ∧ Made out ∧ Good out ∧ ∀ r, tot r out = tot r a + tot r b := by
  rcases h with ⟨_, _, h⟩ | ⟨ha, hb, h⟩
  · omega
  · rcases h with ⟨_, _, h⟩ | ⟨_, _, h, _⟩ | ⟨_, _, hm, ht, hr, _⟩
    · omega
    · omega
    · exact ⟨ha, hb, hm, good_made.2 ⟨hm, fun t h => (hr t h).1⟩, fun r => by rw [ht, tot_append]⟩
theorem dist_ok {z out : List It} {err : Int} (hg : Good z) (h : (¬ Good z ∧ out = [] ∧ err = 1) ∨ (Good z ∧ out = distL z ∧ err = 0)) : err = 0 ∧ out = distL z := by
  rcases h with ⟨h, _⟩ | ⟨_, h1, h2⟩
  · exact absurd hg h
  · exact ⟨h2, h1⟩
theorem c33 (z dz : List It) (hl : z.length + dz.length ≤ 300000) (hz : ∀ t ∈ z, t.row.length < 1073741824) (hd : ∀ t ∈ dz, t.row.length < 1073741824) :
    Spec0 Try.prog 33 [setA z, setA dz] (fun r => ∃ (out : List It) (err : Int), r = .tu [setA out, iA err] ∧ DDel z dz out err) := by
  refine spec0_of_vc tabOk elems ord33 Try.func33 rfl (rl := [.tmp 4, .tmp 5]) rfl (by kernel_rfl) rfl ?_
  (simp -implicitDefEqProofs only [go_sem, setA]; repeat (refine GO ?_; simp -implicitDefEqProofs only [go_sem, setA]))
  refine .pure _ (Spec1.setE (s23 z dz (by omega) hz hd)) rfl fun q hq _ => ?_
  obtain ⟨now, e, rfl, hm⟩ := hq
  obtain ⟨nl, nr⟩ := addR_rows hm
  have nr : ∀ t ∈ now, t.row.length < 1073741824 := fun t ht => by
    obtain ⟨u, hu, e⟩ := nr t ht
    rw [← e]
    rcases List.mem_append.1 hu with hu | hu
    · exact hz u hu
    · exact hd u hu
  (simp -implicitDefEqProofs only [go_sem, iA, setA]; repeat (refine GO ?_; simp -implicitDefEqProofs only [go_sem, iA, setA]))
  refine VIF.split (fun h => ?_) (fun h => ?_)
  · have h : e ≠ 0 := by simpa using h
    simp -implicitDefEqProofs only [go_sem]
    refine TO [] [(4, setA []), (5, iA e)] [] [] rfl ?_ ?_
    · (simp -implicitDefEqProofs only [go_sem, setA, iA]; repeat (refine GO ?_; simp -implicitDefEqProofs only [go_sem, setA, iA]))
      exact ⟨id, rfl⟩
    (simp -implicitDefEqProofs only [go_sem]; repeat (refine GO ?_; simp -implicitDefEqProofs only [go_sem]))
    exact ⟨rfl, [], e, rfl, now, e, hm, .inl ⟨h, rfl, rfl⟩⟩
  · have h : e = 0 := by simpa using h
    subst h
    obtain ⟨gz, gd, mn, gn, tn⟩ := addR_good hm rfl
    (simp -implicitDefEqProofs only [go_sem]; repeat (refine GO ?_; simp -implicitDefEqProofs only [go_sem]))
    refine .pure _ (c32 now (by omega) nr) rfl fun q hq _ => ?_
    obtain ⟨a, e1, rfl, ha⟩ := hq
    obtain ⟨rfl, rfl⟩ := dist_ok gn ha
    have la := distL_len now
    (simp -implicitDefEqProofs only [go_sem, iA, setA]; repeat (refine GO ?_; simp -implicitDefEqProofs only [go_sem, iA, setA]))
    refine .pure _ (c32 z (by omega) hz) rfl fun q hq _ => ?_
    obtain ⟨b, e2, rfl, hb⟩ := hq
    obtain ⟨rfl, rfl⟩ := dist_ok gz hb
    have lb := distL_len z
    (simp -implicitDefEqProofs only [go_sem, iA, setA]; repeat (refine GO ?_; simp -implicitDefEqProofs only [go_sem, iA, setA]))
    refine .pure _ (Spec1.setE (c55 (distL now) (distL z) (by omega) (distL_rows (P := fun r => r.length < 1073741824) nr) (distL_rows (P := fun r => r.length < 1073741824) hz))) rfl fun q hq _ => ?_
    obtain ⟨out, err, rfl, ho⟩ := hq
    (simp -implicitDefEqProofs only [go_sem, iA, setA]; repeat (refine GO ?_; simp -implicitDefEqProofs only [go_sem, iA, setA]))
    exact ⟨rfl, out, err, rfl, now, 0, hm, .inr ⟨rfl, ho⟩⟩
end Yt
namespace Yt
open Go Go.Vc Go.Proofs
set_option maxRecDepth 10000
set_option maxHeartbeats 8000000
set_option linter.unusedSimpArgs false
set_option linter.unusedVariables false
theorem made_dist {z : List It} (h : Made z) : Made (distL z) := by
  refine ⟨?_, fun t ht => ?_⟩
  · rw [distL, List.pairwise_map]
    exact h.pw.filter _
  · obtain ⟨u, hu, rfl⟩ := List.mem_map.1 ht
    exact ⟨by simp [oneI], by simp [oneI, okW, inB]⟩
def sg (n : Int) : Int := if 0 < n then 1 else 0
theorem sg_cases (n : Int) : (0 < n ∧ sg n = 1) ∨ (n ≤ 0 ∧ sg n = 0) := by
  by_cases h : 0 < n
  · exact .inl ⟨h, if_pos h⟩
  · exact .inr ⟨by omega, if_neg h⟩
theorem tot_dist {z : List It} (h : Made z) (r : List V) : tot r (distL z) = sg (tot r z) := by
  by_cases hr : ∃ t ∈ z, t.row = r
  · obtain ⟨t, ht, rfl⟩ := hr
    rw [tot_made h ht]
    have h0 := (h.nz t ht).1
    by_cases hw : t.w < 0
    · have : sg t.w = 0 := if_neg (by omega)
      rw [this]
      refine tot_none fun u hu e => ?_
      obtain ⟨v, hv, rfl⟩ := List.mem_map.1 hu
      obtain ⟨hv1, hv2⟩ := List.mem_filter.1 hv
      have e : v.row = t.row := lin_cmpR.eq _ _ e
      have h1 := tot_made h hv1
      rw [e, tot_made h ht] at h1
      simp at hv2
      omega
    · have : sg t.w = 1 := if_pos (by omega)
      rw [this]
      exact tot_made (made_dist h) (t := oneI t.row) (List.mem_map.2 ⟨t, List.mem_filter.2 ⟨ht, by simpa using hw⟩, rfl⟩)
  · have hz : tot r z = 0 := tot_none fun u hu e => hr ⟨u, hu, lin_cmpR.eq _ _ e⟩
    rw [hz, tot_none fun u hu e => ?_]
    · rfl
    · obtain ⟨v, hv, rfl⟩ := List.mem_map.1 hu
      exact hr ⟨v, (List.mem_filter.1 hv).1, lin_cmpR.eq _ _ e⟩
theorem Sm.dist {z : List It} {k : Nat} (h : Sm z k) : Sm (distL z) (k + 1) :=
  ⟨made_dist h.made, fun t ht => distL_rows (P := fun r => okR r = 0 ∧ r.length ≤ 40) h.rows t ht, by have := distL_len z; have := h.len; omega, fun r => by
    rw [tot_dist h.made]
    have := sg_cases (Yt.tot r z)
    omega⟩
theorem Sm.ddel {z dz out : List It} {i j : Nat} {err : Int} (hz : Sm z i) (hd : Sm dz j) (hij : i + j + 1 + (i + 1) ≤ 100) (h : DDel z dz out err) :
    err = 0 ∧ Sm out (i + j + 1 + (i + 1)) ∧ ∀ r, Yt.tot r out = sg (Yt.tot r z + Yt.tot r dz) - sg (Yt.tot r z) := by
  obtain ⟨now, e, ha, h⟩ := h
  obtain ⟨rfl, sn, tn⟩ := hz.add hd (by omega) ha
  rcases h with ⟨h, _⟩ | ⟨_, h⟩
  · exact absurd rfl h
  · obtain ⟨a, b, c⟩ := sn.dist.min hz.dist hij h
    exact ⟨a, b, fun r => by rw [c, tot_dist sn.made, tot_dist hz.made, tn]⟩
theorem c40 (n : Int) : Spec0 Try.prog 40 [iA n] (· = rowA (wl n)) := by
  have h : Spec1 Try.prog 40 [iA n] (fun r o => ∃ (out : List V), r = .rf 0 0 out.length ∧ o = ro3 out ∧ out = wl n) := by
    refine spec1_of_vc tabOk elems ord40 Try.func40 rfl (rl := [.tmp 2]) rfl (by kernel_rfl) rfl ?_
    (simp -implicitDefEqProofs only [go_sem, iA]; repeat (refine GO ?_; simp -implicitDefEqProofs only [go_sem, iA]))
    refine FINmk [(0, some 5)] [(2, .rf 0 0 1)] [(0, ro3 (wl n))] [0] rfl ?_ ?_
    · (simp -implicitDefEqProofs only [go_sem, ro3, wl]; repeat (refine GO ?_; simp -implicitDefEqProofs only [go_sem, ro3, wl]))
      exact .same (ro3 (wl n)) _ _ (ro3_leafy (wl n)) rfl
    · exact ⟨ro3 _, ⟨⟨wl n, rfl, rfl, rfl⟩, rfl⟩, ro3_leafy _, rfl⟩
  refine (Spec1.row1 h).mono ?_
  rintro r O' ⟨⟨⟨out, rfl, rfl⟩, hn⟩, hO⟩
  exact ⟨⟨rfl, hn⟩, hO⟩
def wd : List It := [⟨wl 1, -2⟩, ⟨wl 3, 4⟩]
theorem wl_cmp (a b : Int) : cmpR (wl a) (wl b) = cmpI a b := by
  have : cmpS ByteArray.empty ByteArray.empty = 0 := by
    have := lin_cmpV.self ⟨0, 0, ByteArray.empty⟩
    simp [cmpV, nz, cmpI] at this
    exact Classical.byContradiction fun h => h (this h)
  simp only [wl, cmpR, cmpV, nz, cmpI, this]
  split <;> simp_all
theorem wl_sm {n w : Int} (hn : -1152921504606846976 ≤ n ∧ n ≤ 1152921504606846976) (h0 : w ≠ 0) (hw : -356400 ≤ w ∧ w ≤ 356400) : Sm [⟨wl n, w⟩] 1 :=
  ⟨⟨List.pairwise_singleton _ _, by simpa [okW, inB, h0] using by omega⟩, by simpa using ⟨wl_ok n hn, by simp [wl]⟩, by simp, fun r => by
    simp only [Yt.tot]; split <;> omega⟩
theorem wd_good : Good wd := good_made.2 ⟨⟨by simp [wd, cI, wl_cmp, cmpI], by simp [wd, okW, inB]⟩, fun t ht => by
  simp only [wd, List.mem_cons, List.not_mem_nil, or_false] at ht
  rcases ht with rfl | rfl <;> exact wl_ok _ (by decide)⟩
theorem wd_dist : distL wd = [⟨wl 3, 1⟩] := by simp [distL, wd, oneI]
theorem c35 : Spec0 Try.prog 35 [] (· = bA true) := by
  refine spec0_of_vc tabOk elems ord35 Try.func35 rfl (rl := [.tmp 0]) rfl (by kernel_rfl) rfl ?_
  (simp -implicitDefEqProofs only [go_sem]; repeat (refine GO ?_; simp -implicitDefEqProofs only [go_sem]))
  refine .pure _ (c40 1) rfl fun r hq _ => ?_
  subst hq
  (simp -implicitDefEqProofs only [go_sem]; repeat (refine GO ?_; simp -implicitDefEqProofs only [go_sem]))
  refine .pure _ (c40 3) rfl fun r hq _ => ?_
  subst hq
  simp -implicitDefEqProofs only [go_sem]
  refine FRZ 10 (so wd) rfl (so_leafy wd) ?_
  simp -implicitDefEqProofs only [go_sem, so]
  refine .pure _ (show Spec0 Try.prog 32 [setA wd] _ from c32 wd (by decide) (by simp [wd, wl])) rfl fun r hq _ => ?_
  obtain ⟨a, e, rfl, ha⟩ := hq
  obtain ⟨rfl, rfl⟩ := dist_ok wd_good ha
  rw [wd_dist]
  (simp -implicitDefEqProofs only [go_sem, iA]; repeat (refine GO ?_; simp -implicitDefEqProofs only [go_sem, iA]))
  refine .pure _ (c40 3) rfl fun r hq _ => ?_
  subst hq
  simp -implicitDefEqProofs only [go_sem]
  refine FRZ 18 (so [⟨wl 3, -1⟩]) rfl (so_leafy [⟨wl 3, -1⟩]) ?_
  simp -implicitDefEqProofs only [go_sem, so]
  refine .pure _ (show Spec0 Try.prog 33 [setA [⟨wl 3, 1⟩], setA [⟨wl 3, -1⟩]] _ from c33 _ _ (by decide) (by simp [wl]) (by simp [wl])) rfl fun r hq _ => ?_
  obtain ⟨b, e, rfl, hb⟩ := hq
  obtain ⟨rfl, sb, tb⟩ := (wl_sm (n := 3) (w := 1) (by decide) (by decide) (by decide)).ddel (wl_sm (n := 3) (w := -1) (by decide) (by decide) (by decide)) (by decide) hb
  obtain rfl : b = [⟨wl 3, -1⟩] := made_eq sb.made (wl_sm (n := 3) (w := -1) (by decide) (by decide) (by decide)).made fun r => by
    rw [tb]
    simp only [tot]
    split <;> simp [sg]
  (simp -implicitDefEqProofs only [go_sem, setA, iA]; repeat (refine GO ?_; simp -implicitDefEqProofs only [go_sem, setA, iA]))
  repeat (refine VIF.split (fun _ => ?_) (fun h => absurd h (by decide)); (simp -implicitDefEqProofs only [go_sem]; repeat (refine GO ?_; simp -implicitDefEqProofs only [go_sem])))
  refine ⟨by decide, EL.map (l := [(⟨wl 3, 1⟩ : It)]) (i := 0) (by decide) ?_⟩
  (simp -implicitDefEqProofs only [go_sem, It.c, iA, rowA]; repeat (refine GO ?_; simp -implicitDefEqProofs only [go_sem, It.c, iA, rowA]))
  repeat (refine VIF.split (fun _ => ?_) (fun h => absurd h (by decide)); (simp -implicitDefEqProofs only [go_sem]; repeat (refine GO ?_; simp -implicitDefEqProofs only [go_sem])))
  refine ⟨by decide, EL.map (l := [(⟨wl 3, 1⟩ : It)]) (i := 0) (by decide) ?_⟩
  (simp -implicitDefEqProofs only [go_sem, It.c, iA, rowA]; repeat (refine GO ?_; simp -implicitDefEqProofs only [go_sem, It.c, iA, rowA]))
  repeat (refine VIF.split (fun _ => ?_) (fun h => absurd h (by decide)); (simp -implicitDefEqProofs only [go_sem]; repeat (refine GO ?_; simp -implicitDefEqProofs only [go_sem])))
  refine ⟨by decide, EL.map (l := [(⟨wl 3, 1⟩ : It)]) (i := 0) (by decide) ?_⟩
  (simp -implicitDefEqProofs only [go_sem, It.c, iA, rowA]; repeat (refine GO ?_; simp -implicitDefEqProofs only [go_sem, It.c, iA, rowA]))
  refine ⟨by decide, EL.map (l := wl 3) (i := 0) (by decide) ?_⟩
  (simp -implicitDefEqProofs only [go_sem, V.c]; repeat (refine GO ?_; simp -implicitDefEqProofs only [go_sem, V.c]))
  repeat (refine VIF.split (fun _ => ?_) (fun h => absurd h (by decide)); (simp -implicitDefEqProofs only [go_sem]; repeat (refine GO ?_; simp -implicitDefEqProofs only [go_sem])))
  refine ⟨by decide, EL.map (l := [(⟨wl 3, -1⟩ : It)]) (i := 0) (by decide) ?_⟩
  (simp -implicitDefEqProofs only [go_sem, It.c, iA]; repeat (refine GO ?_; simp -implicitDefEqProofs only [go_sem, It.c, iA]))
  simp [bA]
end Yt
namespace Yt
open Go Go.Vc Go.Proofs
set_option maxRecDepth 10000
set_option maxHeartbeats 8000000
set_option linter.unusedSimpArgs false
set_option linter.unusedVariables false
theorem dist_filter (p : List V → Bool) (z : List It) : distL (z.filter fun t => p t.row) = (distL z).filter fun t => p t.row := by
  simp only [distL, List.filter_map, List.filter_filter]
  congr 1
  exact List.filter_congr fun t ht => by simp [oneI, Bool.and_comm]
theorem c9 (l : List It) (p : Pr) (hl : l.length < 4611686018427387904) (hr : ∀ t ∈ l, t.row.length < 4611686018427387904) :
    Spec0 Try.prog 9 [setA l, .ag p.c] (· = bA true) := by
  refine spec0_of_vc tabOk elems ord9 Try.func9 rfl (rl := [.tmp 4]) rfl (by kernel_rfl) rfl ?_
  simp -implicitDefEqProofs only [go_sem, setA, Pr.c]
  refine .lendTo (s10 [l] (by simp) (by simpa using hl) (by simpa using hr)) ?_ (by rintro _ rfl; rfl) fun r hq => ?_
  · (simp -implicitDefEqProofs only [go_sem, setsA, setA]; repeat (refine GO ?_; simp -implicitDefEqProofs only [go_sem, setsA, setA]))
    rfl
  subst hq
  (simp -implicitDefEqProofs only [go_sem, bA]; repeat (refine GO ?_; simp -implicitDefEqProofs only [go_sem, bA]))
  refine VIF.split (fun hb => ?_) (fun hb => ?_)
  · (simp -implicitDefEqProofs only [go_sem, bA]; repeat (refine GO ?_; simp -implicitDefEqProofs only [go_sem, bA]))
  have hb : heavyS l = false := by simpa [List.any_cons] using hb
  obtain ⟨hl0, hr0⟩ := not_heavyS hb
  simp -implicitDefEqProofs only [go_sem]
  refine .lendTo (s50 [p.val] (by simp)) ?_ (by rintro _ rfl; rfl) fun r hq => ?_
  · (simp -implicitDefEqProofs only [go_sem, rowA, V.c]; repeat (refine GO ?_; simp -implicitDefEqProofs only [go_sem, rowA, V.c]))
    rfl
  subst hq
  simp -implicitDefEqProofs only [go_sem, bA]
  refine VIF.split (fun _ => ?_) (fun _ => ?_)
  · (simp -implicitDefEqProofs only [go_sem, bA]; repeat (refine GO ?_; simp -implicitDefEqProofs only [go_sem, bA]))
  simp -implicitDefEqProofs only [go_sem]
  refine TO [] [(0, setA l), (3, .ro p.c 0)] [] [] rfl ?_ ?_
  · (simp -implicitDefEqProofs only [go_sem, setA, bA]; repeat (refine GO ?_; simp -implicitDefEqProofs only [go_sem, setA, bA]))
    exact ⟨id, by decide, _, rfl, pr_leafy p, rfl⟩
  (simp -implicitDefEqProofs only [go_sem, setA]; repeat (refine GO ?_; simp -implicitDefEqProofs only [go_sem, setA]))
  refine .pure _ (Spec1.set1 (s24 l (by omega) (fun t ht => by have := hr0 t ht; omega))) rfl fun r hq _ => ?_
  obtain ⟨a, rfl, ta⟩ := hq
  have sa := ta.sm hr0
  have la := sa.len
  simp -implicitDefEqProofs only [go_sem, Pr.c, iA]
  refine GO ?_
  simp -implicitDefEqProofs only [go_sem, setA]
  refine .pure _ (show Spec0 Try.prog 51 [setA a, .ag p.c] _ from Spec1.setE (c51 a p (by omega) sa.r40)) rfl fun r hq _ => ?_
  obtain ⟨x, e, rfl, hx⟩ := hq
  obtain ⟨rfl, rfl⟩ := filt_ok sa.good hx
  have sx := sa.filt (holdsP p)
  have dx := dist_filter (holdsP p) a
  generalize hx' : (a.filter fun t => holdsP p t.row) = x at *
  have lx := sx.len
  (simp -implicitDefEqProofs only [go_sem, iA, setA]; repeat (refine GO ?_; simp -implicitDefEqProofs only [go_sem, iA, setA]))
  refine .pure _ (c32 x (by omega) sx.r40) rfl fun r hq _ => ?_
  obtain ⟨y, e, rfl, hy⟩ := hq
  obtain ⟨rfl, rfl⟩ := dist_ok sx.good hy
  (simp -implicitDefEqProofs only [go_sem, iA, setA]; repeat (refine GO ?_; simp -implicitDefEqProofs only [go_sem, iA, setA]))
  refine .pure _ (c32 a (by omega) sa.r40) rfl fun r hq _ => ?_
  obtain ⟨u, e, rfl, hu⟩ := hq
  obtain ⟨rfl, rfl⟩ := dist_ok sa.good hu
  have su := sa.dist
  have tu := tot_dist sa.made
  generalize hu' : distL a = u at *
  have lu := su.len
  simp -implicitDefEqProofs only [go_sem, iA, Pr.c]
  refine GO ?_
  simp -implicitDefEqProofs only [go_sem, setA]
  refine .pure _ (show Spec0 Try.prog 51 [setA u, .ag p.c] _ from Spec1.setE (c51 u p (by omega) su.r40)) rfl fun r hq _ => ?_
  obtain ⟨v, e, rfl, hv⟩ := hq
  obtain ⟨rfl, rfl⟩ := filt_ok su.good hv
  rw [← dx]
  (simp -implicitDefEqProofs only [go_sem, iA, setA]; repeat (refine GO ?_; simp -implicitDefEqProofs only [go_sem, iA, setA]))
  refine .pure _ (Spec1.setE (s23 a a (by omega) sa.r40 sa.r40)) rfl fun r hq _ => ?_
  obtain ⟨s, e, rfl, hs⟩ := hq
  obtain ⟨rfl, ss, ts⟩ := sa.add sa (by omega) hs
  have ls := ss.len
  (simp -implicitDefEqProofs only [go_sem, iA, setA]; repeat (refine GO ?_; simp -implicitDefEqProofs only [go_sem, iA, setA]))
  refine .pure _ (c32 s (by omega) ss.r40) rfl fun r hq _ => ?_
  obtain ⟨w, e, rfl, hw⟩ := hq
  obtain ⟨rfl, rfl⟩ := dist_ok ss.good hw
  obtain hw' : distL s = u := made_eq (made_dist ss.made) su.made fun r => by
    rw [tot_dist ss.made, tu, ts]
    simp only [sg]; split <;> split <;> omega
  rw [hw']
  have sy := sx.dist
  have ly := sy.len
  (simp -implicitDefEqProofs only [go_sem, iA, setA]; repeat (refine GO ?_; simp -implicitDefEqProofs only [go_sem, iA, setA]))
  repeat (refine VIF.split (fun _ => ?_) (fun h => absurd h (by decide)); (simp -implicitDefEqProofs only [go_sem]; repeat (refine GO ?_; simp -implicitDefEqProofs only [go_sem])))
  refine .pure _ (s18 (distL x) (distL x) (by omega) (by omega) sy.r62) rfl fun r hq _ => ?_
  obtain ⟨e2, rfl, h2⟩ := hq
  have h2 := h2.2 rfl
  subst h2
  (simp -implicitDefEqProofs only [go_sem, bA, setA]; repeat (refine GO ?_; simp -implicitDefEqProofs only [go_sem, bA, setA]))
  refine .pure _ (s18 u u (by omega) (by omega) su.r62) rfl fun r hq _ => ?_
  obtain ⟨e2, rfl, h2⟩ := hq
  have h2 := h2.2 rfl
  subst h2
  (simp -implicitDefEqProofs only [go_sem, bA]; repeat (refine GO ?_; simp -implicitDefEqProofs only [go_sem, bA]))
  refine .pure _ c35 rfl fun r hq _ => ?_
  subst hq
  (simp -implicitDefEqProofs only [go_sem, bA]; repeat (refine GO ?_; simp -implicitDefEqProofs only [go_sem, bA]))
end Yt
namespace Yt
open Go Go.Vc Go.Proofs
set_option maxRecDepth 10000
set_option maxHeartbeats 8000000
set_option linter.unusedSimpArgs false
set_option linter.unusedVariables false
theorem c7 (l : List (List It)) (hl : l.length < 4611686018427387904) (hz : ∀ z ∈ l, z.length < 4611686018427387904) (hr : ∀ z ∈ l, ∀ t ∈ z, t.row.length < 4611686018427387904) :
    Spec0 Try.prog 7 [setsA l] (· = bA true) := by
  refine spec0_of_vc tabOk elems ord7 Try.func7 rfl (rl := [.tmp 2]) rfl (by kernel_rfl) rfl ?_
  (simp -implicitDefEqProofs only [go_sem, setsA]; repeat (refine GO ?_; simp -implicitDefEqProofs only [go_sem, setsA]))
  refine VIF.split (fun h => ?_) (fun h => ?_)
  · (simp -implicitDefEqProofs only [go_sem, bA]; repeat (refine GO ?_; simp -implicitDefEqProofs only [go_sem, bA]))
  have h : l.length ≤ 12 := by simp at h; omega
  (simp -implicitDefEqProofs only [go_sem]; repeat (refine GO ?_; simp -implicitDefEqProofs only [go_sem]))
  refine .pure _ (s10 l hl hz hr) rfl fun r hq _ => ?_
  subst hq
  (simp -implicitDefEqProofs only [go_sem, bA]; repeat (refine GO ?_; simp -implicitDefEqProofs only [go_sem, bA]))
  refine VIF.split (fun hb => ?_) (fun hb => ?_)
  · (simp -implicitDefEqProofs only [go_sem, bA]; repeat (refine GO ?_; simp -implicitDefEqProofs only [go_sem, bA]))
  have hb : ∀ z ∈ l, heavyS z = false := by
    rw [List.any_eq_false] at hb
    exact fun z hz => by simpa using hb z hz
  (simp -implicitDefEqProofs only [go_sem]; repeat (refine GO ?_; simp -implicitDefEqProofs only [go_sem]))
  refine LOOP.mk (ι := { p : Nat × List It // p.1 ≤ l.length ∧ Sm p.2 p.1 }) (fun p => mkS [(0, setsA l), (3, setA p.1.2), (4, setA (distL p.1.2)), (5, iA p.1.1)] [] []) (fun p => l.length - p.1.1) ⟨(0, []), Nat.zero_le _, Sm.nil 0⟩ [] rfl rfl ?_ (fun p => ?_)
  · (simp -implicitDefEqProofs only [go_sem, setA, setsA, iA]; repeat (refine GO ?_; simp -implicitDefEqProofs only [go_sem, setA, setsA, iA]))
    exact ⟨id, rfl, rfl, rfl⟩
  · obtain ⟨⟨i, z⟩, hi, sz⟩ := p
    simp only at hi sz
    have lz := sz.len
    (simp -implicitDefEqProofs only [go_sem, setA, setsA, iA]; repeat (refine GO ?_; simp -implicitDefEqProofs only [go_sem, setA, setsA, iA]))
    refine VIF.split (fun h1 => ?_) (fun h1 => ?_)
    · have h1 : i < l.length := by simpa using h1
      have w1 := wrap_add1 (show i < 4611686018427387904 by omega)
      obtain ⟨hl0, hr0⟩ := not_heavyS (hb l[i] (List.getElem_mem h1))
      (simp -implicitDefEqProofs only [go_sem]; repeat (refine GO ?_; simp -implicitDefEqProofs only [go_sem]))
      refine EL.map h1 ?_
      (simp -implicitDefEqProofs only [go_sem, setA]; repeat (refine GO ?_; simp -implicitDefEqProofs only [go_sem, setA]))
      refine .pure _ (Spec1.set1 (s24 l[i] (by omega) (fun t ht => by have := hr0 t ht; omega))) rfl fun r hq _ => ?_
      obtain ⟨dz, rfl, td⟩ := hq
      have sd := td.sm hr0
      have ld := sd.len
      (simp -implicitDefEqProofs only [go_sem, setA]; repeat (refine GO ?_; simp -implicitDefEqProofs only [go_sem, setA]))
      refine .pure _ (c33 z dz (by omega) sz.r40 sd.r40) rfl fun r hq _ => ?_
      obtain ⟨d, e, rfl, hd⟩ := hq
      obtain ⟨rfl, sdd, tdd⟩ := sz.ddel sd (by omega) hd
      have ldd := sdd.len
      (simp -implicitDefEqProofs only [go_sem, iA, setA]; repeat (refine GO ?_; simp -implicitDefEqProofs only [go_sem, iA, setA]))
      refine .pure _ (Spec1.setE (s23 z dz (by omega) sz.r40 sd.r40)) rfl fun r hq _ => ?_
      obtain ⟨s, e, rfl, hs⟩ := hq
      obtain ⟨rfl, ss, ts⟩ := sz.add sd (by omega) hs
      have ls := ss.len
      have sq := sz.dist
      have lq := sq.len
      (simp -implicitDefEqProofs only [go_sem, iA, setA]; repeat (refine GO ?_; simp -implicitDefEqProofs only [go_sem, iA, setA]))
      refine .pure _ (Spec1.setE (s23 (distL z) d (by omega) sq.r40 sdd.r40)) rfl fun r hq _ => ?_
      obtain ⟨o, e, rfl, ho⟩ := hq
      obtain ⟨rfl, so2, to2⟩ := sq.add sdd (by omega) ho
      have sw := ss.dist
      have tw := tot_dist ss.made
      obtain rfl : o = distL s := made_eq so2.made sw.made fun r => by
        rw [to2, tdd, tot_dist sz.made, tw, ts]; omega
      (simp -implicitDefEqProofs only [go_sem, iA, setA]; repeat (refine GO ?_; simp -implicitDefEqProofs only [go_sem, iA, setA]))
      refine .pure _ (c32 s (by omega) ss.r40) rfl fun r hq _ => ?_
      obtain ⟨w, e, rfl, hw⟩ := hq
      obtain ⟨rfl, rfl⟩ := dist_ok ss.good hw
      have hdw : distL (distL s) = distL s := made_eq (made_dist sw.made) sw.made fun r => by
        rw [tot_dist sw.made, tw]
        simp only [sg]; split <;> rfl
      generalize hw' : distL s = w at *
      have lw := sw.len
      (simp -implicitDefEqProofs only [go_sem, iA, setA]; repeat (refine GO ?_; simp -implicitDefEqProofs only [go_sem, iA, setA]))
      refine .pure _ (c32 w (by omega) sw.r40) rfl fun r hq _ => ?_
      obtain ⟨v, e, rfl, hv⟩ := hq
      obtain ⟨rfl, rfl⟩ := dist_ok sw.good hv
      rw [hdw]
      (simp -implicitDefEqProofs only [go_sem, iA, setA]; repeat (refine GO ?_; simp -implicitDefEqProofs only [go_sem, iA, setA]))
      repeat (refine VIF.split (fun h => absurd h (by decide)) (fun _ => ?_); (simp -implicitDefEqProofs only [go_sem]; repeat (refine GO ?_; simp -implicitDefEqProofs only [go_sem])))
      refine .pure _ (s18 w w (by omega) (by omega) sw.r62) rfl fun r hq _ => ?_
      obtain ⟨e2, rfl, h2⟩ := hq
      have h2 := h2.2 rfl
      subst h2
      (simp -implicitDefEqProofs only [go_sem, bA, setA]; repeat (refine GO ?_; simp -implicitDefEqProofs only [go_sem, bA, setA]))
      refine .pure _ (s18 w w (by omega) (by omega) sw.r62) rfl fun r hq _ => ?_
      obtain ⟨e2, rfl, h2⟩ := hq
      have h2 := h2.2 rfl
      subst h2
      (simp -implicitDefEqProofs only [go_sem, bA, setA]; repeat (refine GO ?_; simp -implicitDefEqProofs only [go_sem, bA, setA]))
      refine LOOP.mk (ι := { j : Nat // j ≤ d.length }) (fun q => mkS [(0, setsA l), (5, iA i), (6, setA dz), (7, setA d), (9, setA s), (11, setA w), (13, setA w), (17, iA q.1)] [] []) (fun q => d.length - q.1) ⟨0, Nat.zero_le _⟩ [] rfl rfl ?_ (fun q => ?_)
      · (simp -implicitDefEqProofs only [go_sem, setA, setsA, iA]; repeat (refine GO ?_; simp -implicitDefEqProofs only [go_sem, setA, setsA, iA]))
        exact ⟨id, rfl⟩
      · obtain ⟨j, hj⟩ := q
        (simp -implicitDefEqProofs only [go_sem, setA, setsA, iA]; repeat (refine GO ?_; simp -implicitDefEqProofs only [go_sem, setA, setsA, iA]))
        refine VIF.split (fun h2 => ?_) (fun h2 => ?_)
        · have h2 : j < d.length := by simpa using h2
          have w2 := wrap_add1 (show j < 4611686018427387904 by omega)
          have hm := List.getElem_mem h2
          have t1 := tdd d[j].row
          rw [tot_made sdd.made hm] at t1
          have t2 := (sdd.made.nz _ hm).1
          have t3 := sg_cases (tot d[j].row z)
          have t4 := sg_cases (tot d[j].row z + tot d[j].row dz)
          have t5 : tot d[j].row dz ≠ 0 := fun h => by rw [h, Int.add_zero] at t1; omega
          have wd : wt d[j].row dz = tot d[j].row dz := wt_tot sd.made _
          (simp -implicitDefEqProofs only [go_sem]; repeat (refine GO ?_; simp -implicitDefEqProofs only [go_sem]))
          refine EL.map h2 ?_
          (simp -implicitDefEqProofs only [go_sem, It.c, iA]; repeat (refine GO ?_; simp -implicitDefEqProofs only [go_sem, It.c, iA]))
          have fin : ∀ b : Bool, b = false → ∀ {A B : Prop}, B → VIF b A B := fun b hb A B h => ⟨fun h' => absurd (hb.symm.trans h') (by decide), fun _ => h⟩
          refine VIF.split (fun h3 => ?_) (fun h3 => ?_)
          · have h3 : d[j].w ≠ 1 := by simpa using h3
            have h4 : d[j].w = -1 := by omega
            (simp -implicitDefEqProofs only [go_sem]; repeat (refine GO ?_; simp -implicitDefEqProofs only [go_sem]))
            refine EL.map h2 ?_
            (simp -implicitDefEqProofs only [go_sem, It.c, iA]; repeat (refine GO ?_; simp -implicitDefEqProofs only [go_sem, It.c, iA]))
            refine fin _ (by simp [h4]) ?_
            (simp -implicitDefEqProofs only [go_sem]; repeat (refine GO ?_; simp -implicitDefEqProofs only [go_sem]))
            refine EL.map h2 ?_
            (simp -implicitDefEqProofs only [go_sem, It.c]; repeat (refine GO ?_; simp -implicitDefEqProofs only [go_sem, It.c]))
            refine .pure _ (s15 dz d[j].row sd.r62 (by omega)) rfl fun r hq _ => ?_
            subst hq
            (simp -implicitDefEqProofs only [go_sem, iA, wd]; repeat (refine GO ?_; simp -implicitDefEqProofs only [go_sem, iA, wd]))
            refine fin _ (by simp [t5]) ?_
            (simp -implicitDefEqProofs only [go_sem, w2]; repeat (refine GO ?_; simp -implicitDefEqProofs only [go_sem, w2]))
            refine BACK.mk ⟨j + 1, by omega⟩ [] rfl rfl (by show d.length - (j + 1) < d.length - j; omega) ?_
            (simp -implicitDefEqProofs only [go_sem, setA, setsA, iA]; repeat (refine GO ?_; simp -implicitDefEqProofs only [go_sem, setA, setsA, iA]))
            exact id
          · (simp -implicitDefEqProofs only [go_sem]; repeat (refine GO ?_; simp -implicitDefEqProofs only [go_sem]))
            refine EL.map h2 ?_
            (simp -implicitDefEqProofs only [go_sem, It.c]; repeat (refine GO ?_; simp -implicitDefEqProofs only [go_sem, It.c]))
            refine .pure _ (s15 dz d[j].row sd.r62 (by omega)) rfl fun r hq _ => ?_
            subst hq
            (simp -implicitDefEqProofs only [go_sem, iA, wd]; repeat (refine GO ?_; simp -implicitDefEqProofs only [go_sem, iA, wd]))
            refine fin _ (by simp [t5]) ?_
            (simp -implicitDefEqProofs only [go_sem, w2]; repeat (refine GO ?_; simp -implicitDefEqProofs only [go_sem, w2]))
            refine BACK.mk ⟨j + 1, by omega⟩ [] rfl rfl (by show d.length - (j + 1) < d.length - j; omega) ?_
            (simp -implicitDefEqProofs only [go_sem, setA, setsA, iA]; repeat (refine GO ?_; simp -implicitDefEqProofs only [go_sem, setA, setsA, iA]))
            exact id
        · (simp -implicitDefEqProofs only [go_sem]; repeat (refine GO ?_; simp -implicitDefEqProofs only [go_sem]))
          refine LOOP.mk (ι := { j : Nat // j ≤ s.length }) (fun q => mkS [(0, setsA l), (5, iA i), (9, setA s), (11, setA w), (13, setA w), (18, iA q.1)] [] []) (fun q => s.length - q.1) ⟨0, Nat.zero_le _⟩ [] rfl rfl ?_ (fun q => ?_)
          · (simp -implicitDefEqProofs only [go_sem, setA, setsA, iA]; repeat (refine GO ?_; simp -implicitDefEqProofs only [go_sem, setA, setsA, iA]))
            exact ⟨id, rfl⟩
          · obtain ⟨j, hj⟩ := q
            (simp -implicitDefEqProofs only [go_sem, setA, setsA, iA]; repeat (refine GO ?_; simp -implicitDefEqProofs only [go_sem, setA, setsA, iA]))
            refine VIF.split (fun h3 => ?_) (fun h3 => ?_)
            · have h3 : j < s.length := by simpa using h3
              have w2 := wrap_add1 (show j < 4611686018427387904 by omega)
              have hm := List.getElem_mem h3
              have t1 := tw s[j].row
              rw [tot_made ss.made hm] at t1
              have t2 := sg_cases s[j].w
              have wd : wt s[j].row w = sg s[j].w := by rw [wt_tot sw.made, t1]
              (simp -implicitDefEqProofs only [go_sem]; repeat (refine GO ?_; simp -implicitDefEqProofs only [go_sem]))
              refine EL.map h3 ?_
              (simp -implicitDefEqProofs only [go_sem, It.c, iA]; repeat (refine GO ?_; simp -implicitDefEqProofs only [go_sem, It.c, iA]))
              refine VIF.split (fun h4 => ?_) (fun h4 => ?_)
              · have h4 : 0 < s[j].w := by simpa using h4
                (simp -implicitDefEqProofs only [go_sem]; repeat (refine GO ?_; simp -implicitDefEqProofs only [go_sem]))
                refine EL.map h3 ?_
                (simp -implicitDefEqProofs only [go_sem, It.c]; repeat (refine GO ?_; simp -implicitDefEqProofs only [go_sem, It.c]))
                refine .pure _ (s15 w s[j].row sw.r62 (by omega)) rfl fun r hq _ => ?_
                subst hq
                have k1 : sg s[j].w = 1 := if_pos h4
                (simp -implicitDefEqProofs only [go_sem, iA, wd, k1]; repeat (refine GO ?_; simp -implicitDefEqProofs only [go_sem, iA, wd, k1]))
                refine VIF.split (fun h => absurd h (by simp)) (fun _ => ?_)
                (simp -implicitDefEqProofs only [go_sem, w2]; repeat (refine GO ?_; simp -implicitDefEqProofs only [go_sem, w2]))
                refine BACK.mk ⟨j + 1, by omega⟩ [] rfl rfl (by show s.length - (j + 1) < s.length - j; omega) ?_
                (simp -implicitDefEqProofs only [go_sem, setA, setsA, iA]; repeat (refine GO ?_; simp -implicitDefEqProofs only [go_sem, setA, setsA, iA]))
                exact id
              · have h4 : ¬ 0 < s[j].w := by simpa using h4
                (simp -implicitDefEqProofs only [go_sem]; repeat (refine GO ?_; simp -implicitDefEqProofs only [go_sem]))
                refine EL.map h3 ?_
                (simp -implicitDefEqProofs only [go_sem, It.c]; repeat (refine GO ?_; simp -implicitDefEqProofs only [go_sem, It.c]))
                refine .pure _ (s15 w s[j].row sw.r62 (by omega)) rfl fun r hq _ => ?_
                subst hq
                have k1 : sg s[j].w = 0 := if_neg h4
                (simp -implicitDefEqProofs only [go_sem, iA, wd, k1]; repeat (refine GO ?_; simp -implicitDefEqProofs only [go_sem, iA, wd, k1]))
                refine VIF.split (fun h => absurd h (by simp)) (fun _ => ?_)
                (simp -implicitDefEqProofs only [go_sem, w2]; repeat (refine GO ?_; simp -implicitDefEqProofs only [go_sem, w2]))
                refine BACK.mk ⟨j + 1, by omega⟩ [] rfl rfl (by show s.length - (j + 1) < s.length - j; omega) ?_
                (simp -implicitDefEqProofs only [go_sem, setA, setsA, iA]; repeat (refine GO ?_; simp -implicitDefEqProofs only [go_sem, setA, setsA, iA]))
                exact id
            · (simp -implicitDefEqProofs only [go_sem, w1]; repeat (refine GO ?_; simp -implicitDefEqProofs only [go_sem, w1]))
              refine BACK.mk ⟨(i + 1, s), by simp only; omega, ss⟩ [] rfl rfl (by show l.length - (i + 1) < l.length - i; omega) ?_
              (simp -implicitDefEqProofs only [go_sem, setA, setsA, iA]; repeat (refine GO ?_; simp -implicitDefEqProofs only [go_sem, setA, setsA, iA]))
              simp [hw']
    · (simp -implicitDefEqProofs only [go_sem]; repeat (refine GO ?_; simp -implicitDefEqProofs only [go_sem]))
      refine .pure _ c35 rfl fun r hq _ => ?_
      subst hq
      (simp -implicitDefEqProofs only [go_sem, bA]; repeat (refine GO ?_; simp -implicitDefEqProofs only [go_sem, bA]))
end Yt
namespace Yt
open Go Go.Vc Go.Proofs
set_option maxRecDepth 10000
set_option maxHeartbeats 8000000
set_option linter.unusedSimpArgs false
set_option linter.unusedVariables false
def boolsL (l : List Bool) : AV := .im 1 (l.map fun b => [bA b])
def stepZ (n w : Int) : List It := if w = 0 then [] else [⟨wl n, w⟩]
theorem stepZ_sm {n w : Int} (hn : -1152921504606846976 ≤ n ∧ n ≤ 1152921504606846976) (hw : -100 ≤ w ∧ w ≤ 100) : Sm (stepZ n w) 1 := by
  unfold stepZ
  split
  · exact (Sm.nil 0).mono (by omega)
  · exact wl_sm hn (by assumption) (by omega)
theorem tot_stepZ (n w : Int) (r : List V) : tot r (stepZ n w) = if cmpR (wl n) r = 0 then w else 0 := by
  unfold stepZ
  split
  · subst_vars; simp [tot]
  · simp only [tot, Int.add_zero]
theorem steps_d {n w s e : Int} {d : List It} (hn : -1152921504606846976 ≤ n ∧ n ≤ 1152921504606846976) (hw : -100 ≤ w ∧ w ≤ 100) (hs : s = 1 ∨ s = -1) (h : DDel (stepZ n w) [⟨wl n, s⟩] d e) :
    e = 0 ∧ d = stepZ n (sg (w + s) - sg w) := by
  obtain ⟨h1, h2, h3⟩ := (stepZ_sm hn hw).ddel (wl_sm hn (by omega) (by omega)) (by decide) h
  have := sg_cases w
  have := sg_cases (w + s)
  refine ⟨h1, made_eq h2.made (stepZ_sm hn (by omega)).made fun r => ?_⟩
  rw [h3, tot_stepZ, tot_stepZ]
  simp only [tot, Int.add_zero]
  split
  · rfl
  · simp [sg]
theorem c5 (l : List Bool) (n : Int) (hl : l.length < 4611686018427387904) : Spec0 Try.prog 5 [boolsL l, iA n] (· = bA true) := by
  refine spec0_of_vc tabOk elems ord5 Try.func5 rfl (rl := [.tmp 4]) rfl (by kernel_rfl) rfl ?_
  (simp -implicitDefEqProofs only [go_sem, boolsL, iA]; repeat (refine GO ?_; simp -implicitDefEqProofs only [go_sem, boolsL, iA]))
  refine VIF.split (fun h => ?_) (fun h => ?_)
  · (simp -implicitDefEqProofs only [go_sem, bA]; repeat (refine GO ?_; simp -implicitDefEqProofs only [go_sem, bA]))
  have h : l.length ≤ 60 := by simp at h; omega
  obtain ⟨m, ho, ho1, ho2⟩ := u64_rem n 1000 (by decide) (by decide)
  (simp -implicitDefEqProofs only [go_sem, ho, ho2]; repeat (refine GO ?_; simp -implicitDefEqProofs only [go_sem, ho, ho2]))
  refine ⟨by decide, ?_⟩
  (simp -implicitDefEqProofs only [go_sem, ho, ho2]; repeat (refine GO ?_; simp -implicitDefEqProofs only [go_sem, ho, ho2]))
  refine .pure _ (c40 m) rfl fun r hq _ => ?_
  subst hq
  (simp -implicitDefEqProofs only [go_sem]; repeat (refine GO ?_; simp -implicitDefEqProofs only [go_sem]))
  have hm : -1152921504606846976 ≤ (m : Int) ∧ (m : Int) ≤ 1152921504606846976 := by omega
  refine LOOP.mk (ι := { p : Nat × Int // p.1 ≤ l.length ∧ -(p.1 : Int) ≤ p.2 ∧ p.2 ≤ p.1 }) (fun p => mkS [(0, boolsL l), (5, rowA (wl m)), (6, iA p.1.2), (7, iA p.1.1)] [] []) (fun p => l.length - p.1.1) ⟨(0, 0), Nat.zero_le _, by simp, by simp⟩ [] rfl rfl ?_ (fun p => ?_)
  · (simp -implicitDefEqProofs only [go_sem, boolsL, iA, rowA]; repeat (refine GO ?_; simp -implicitDefEqProofs only [go_sem, boolsL, iA, rowA]))
    exact ⟨id, rfl⟩
  · obtain ⟨⟨i, w⟩, hi, hw1, hw2⟩ := p
    simp only at hi hw1 hw2
    have fin : ∀ b : Bool, b = false → ∀ {A B : Prop}, B → VIF b A B := fun b hb A B h => ⟨fun h' => absurd (hb.symm.trans h') (by decide), fun _ => h⟩
    have fit : ∀ b : Bool, b = true → ∀ {A B : Prop}, A → VIF b A B := fun b hb A B h => ⟨fun _ => h, fun h' => absurd (hb.symm.trans h') (by decide)⟩
    have hw : -100 ≤ w ∧ w ≤ 100 := by omega
    (simp -implicitDefEqProofs only [go_sem, boolsL, iA]; repeat (refine GO ?_; simp -implicitDefEqProofs only [go_sem, boolsL, iA]))
    refine VIF.split (fun h1 => ?_) (fun h1 => ?_)
    · have h1 : i < l.length := by simpa using h1
      have w1 := wrap_add1 (show i < 4611686018427387904 by omega)
      (simp -implicitDefEqProofs only [go_sem]; repeat (refine GO ?_; simp -implicitDefEqProofs only [go_sem]))
      by_cases hz : w = 0
      · subst hz
        refine fin _ (by simp) ?_
        (simp -implicitDefEqProofs only [go_sem]; repeat (refine GO ?_; simp -implicitDefEqProofs only [go_sem]))
        refine EL.map h1 ?_
        (simp -implicitDefEqProofs only [go_sem, bA]; repeat (refine GO ?_; simp -implicitDefEqProofs only [go_sem, bA]))
        cases hb : l[i] with
        | true =>
          refine fit _ rfl ?_
          simp -implicitDefEqProofs only [go_sem, iA]
          refine GO ?_
          simp -implicitDefEqProofs only [go_sem, iA]
          refine FRZ 42 (so [⟨wl m, 1⟩]) rfl (so_leafy [⟨wl m, 1⟩]) ?_
          simp -implicitDefEqProofs only [go_sem, so]
          refine .pure _ (spec0_nls (c33 [] [⟨wl m, 1⟩] (by simp) (by simp) (by simp [wl])) (l' := [.nl, setA [⟨wl m, 1⟩]]) ⟨.inr ⟨rfl, 2, rfl⟩, .inl rfl, trivial⟩) rfl fun r hq _ => ?_
          obtain ⟨d, e, rfl, hd⟩ := hq
          obtain ⟨rfl, rfl⟩ := steps_d (w := 0) hm (by decide) (by decide) hd
          have hd2 : stepZ m (sg (0 + 1) - sg 0) = [⟨wl m, 1⟩] := by simp [stepZ, sg]
          rw [hd2]
          (simp -implicitDefEqProofs only [go_sem, setA, iA]; repeat (refine GO ?_; simp -implicitDefEqProofs only [go_sem, setA, iA]))
          repeat ((first | (refine VIF.tt ?_ ?_; (· first | rfl | (simp; done) | (simp; omega))) | (refine VIF.ff ?_ ?_; (· first | rfl | (simp; done) | (simp; omega)))); (simp -implicitDefEqProofs only [go_sem]; repeat (refine GO ?_; simp -implicitDefEqProofs only [go_sem])))
          refine ⟨by decide, EL.map (l := [(⟨wl m, 1⟩ : It)]) (i := 0) (by simp) ?_⟩
          (simp -implicitDefEqProofs only [go_sem, It.c, iA]; repeat (refine GO ?_; simp -implicitDefEqProofs only [go_sem, It.c, iA]))
          refine fin _ (by simp) ?_
          (simp -implicitDefEqProofs only [go_sem]; repeat (refine GO ?_; simp -implicitDefEqProofs only [go_sem]))
          refine ⟨by decide, EL.map (l := [(⟨wl m, 1⟩ : It)]) (i := 0) (by simp) ?_⟩
          (simp -implicitDefEqProofs only [go_sem, It.c, iA, rowA]; repeat (refine GO ?_; simp -implicitDefEqProofs only [go_sem, It.c, iA, rowA]))
          refine .pure _ (s14 (wl m) (wl m) (by simp [wl])) rfl fun r hq _ => ?_
          obtain ⟨e2, rfl, h2⟩ := hq
          have h2 := h2.2 rfl
          subst h2
          (simp -implicitDefEqProofs only [go_sem, bA, w1]; repeat (refine GO ?_; simp -implicitDefEqProofs only [go_sem, bA, w1]))
          have w2 : IntKind.i64.wrap (0 + 1) = 1 := by decide
          (simp -implicitDefEqProofs only [go_sem, w1, w2]; repeat (refine GO ?_; simp -implicitDefEqProofs only [go_sem, w1, w2]))
          refine BACK.mk ⟨(i + 1, 1), by simp only; omega, by simp only; omega, by simp only; omega⟩ [] rfl rfl (by show l.length - (i + 1) < l.length - i; omega) ?_
          (simp -implicitDefEqProofs only [go_sem, boolsL, iA, w2, bA, rowA]; repeat (refine GO ?_; simp -implicitDefEqProofs only [go_sem, boolsL, iA, w2, bA, rowA]))
          first | exact id | exact ⟨id, rfl⟩
        | false =>
          refine fin _ rfl ?_
          simp -implicitDefEqProofs only [go_sem, iA]
          refine GO ?_
          simp -implicitDefEqProofs only [go_sem, iA]
          refine FRZ 42 (so [⟨wl m, -1⟩]) rfl (so_leafy [⟨wl m, -1⟩]) ?_
          simp -implicitDefEqProofs only [go_sem, so]
          refine .pure _ (spec0_nls (c33 [] [⟨wl m, -1⟩] (by simp) (by simp) (by simp [wl])) (l' := [.nl, setA [⟨wl m, -1⟩]]) ⟨.inr ⟨rfl, 2, rfl⟩, .inl rfl, trivial⟩) rfl fun r hq _ => ?_
          obtain ⟨d, e, rfl, hd⟩ := hq
          obtain ⟨rfl, rfl⟩ := steps_d (w := 0) hm (by decide) (by decide) hd
          have hd2 : stepZ m (sg (0 + -1) - sg 0) = [] := by
            have := sg_cases 0
            have := sg_cases (0 + -1)
            have h0 : sg (0 + -1) - sg 0 = 0 := by omega
            rw [h0]; rfl
          rw [hd2]
          (simp -implicitDefEqProofs only [go_sem, setA, iA]; repeat (refine GO ?_; simp -implicitDefEqProofs only [go_sem, setA, iA]))
          repeat ((first | (refine VIF.tt ?_ ?_; (· first | rfl | (simp; done) | (simp; omega))) | (refine VIF.ff ?_ ?_; (· first | rfl | (simp; done) | (simp; omega)))); (simp -implicitDefEqProofs only [go_sem]; repeat (refine GO ?_; simp -implicitDefEqProofs only [go_sem])))
          have w2 : IntKind.i64.wrap (0 + -1) = -1 := by decide
          (simp -implicitDefEqProofs only [go_sem, w1, w2]; repeat (refine GO ?_; simp -implicitDefEqProofs only [go_sem, w1, w2]))
          refine BACK.mk ⟨(i + 1, -1), by simp only; omega, by simp only; omega, by simp only; omega⟩ [] rfl rfl (by show l.length - (i + 1) < l.length - i; omega) ?_
          (simp -implicitDefEqProofs only [go_sem, boolsL, iA, w2, bA, rowA]; repeat (refine GO ?_; simp -implicitDefEqProofs only [go_sem, boolsL, iA, w2, bA, rowA]))
          first | exact id | exact ⟨id, rfl⟩
      · refine fit _ (by simp [hz]) ?_
        (simp -implicitDefEqProofs only [go_sem]; repeat (refine GO ?_; simp -implicitDefEqProofs only [go_sem]))
        refine EL.map h1 ?_
        (simp -implicitDefEqProofs only [go_sem, bA]; repeat (refine GO ?_; simp -implicitDefEqProofs only [go_sem, bA]))
        cases hb : l[i] with
        | true =>
          refine fit _ rfl ?_
          simp -implicitDefEqProofs only [go_sem, iA]
          refine GO ?_
          simp -implicitDefEqProofs only [go_sem, iA]
          refine FRZG 32 (so [⟨wl m, w⟩]) rfl (so_leafy [⟨wl m, w⟩]) ?_
          simp -implicitDefEqProofs only [go_sem, so]
          refine FRZ 42 (so [⟨wl m, 1⟩]) rfl (so_leafy [⟨wl m, 1⟩]) ?_
          simp -implicitDefEqProofs only [go_sem, so]
          refine .pure _ (show Spec0 Try.prog 33 [setA [⟨wl m, w⟩], setA [⟨wl m, 1⟩]] _ from c33 _ _ (by simp) (by simp [wl]) (by simp [wl])) rfl fun r hq _ => ?_
          obtain ⟨d, e, rfl, hd⟩ := hq
          have hd : DDel (stepZ m w) [⟨wl m, 1⟩] d e := by rw [stepZ, if_neg hz]; exact hd
          obtain ⟨rfl, rfl⟩ := steps_d hm hw (by decide) hd
          by_cases hw3 : w = 1
          · subst hw3
            have hd2 : stepZ m (sg (1 + 1) - sg 1) = [] := by
              have := sg_cases 1
              have := sg_cases (1 + 1)
              have h0 : sg (1 + 1) - sg 1 = 0 := by omega
              rw [h0]; rfl
            rw [hd2]
            (simp -implicitDefEqProofs only [go_sem, setA, iA]; repeat (refine GO ?_; simp -implicitDefEqProofs only [go_sem, setA, iA]))
            repeat ((first | (refine VIF.tt ?_ ?_; (· first | rfl | (simp; done) | (simp; omega))) | (refine VIF.ff ?_ ?_; (· first | rfl | (simp; done) | (simp; omega)))); (simp -implicitDefEqProofs only [go_sem]; repeat (refine GO ?_; simp -implicitDefEqProofs only [go_sem])))
            have w2 : IntKind.i64.wrap (1 + 1) = 2 := by decide
            (simp -implicitDefEqProofs only [go_sem, w1, w2]; repeat (refine GO ?_; simp -implicitDefEqProofs only [go_sem, w1, w2]))
            refine BACK.mk ⟨(i + 1, 2), by simp only; omega, by simp only; omega, by simp only; omega⟩ [] rfl rfl (by show l.length - (i + 1) < l.length - i; omega) ?_
            (simp -implicitDefEqProofs only [go_sem, boolsL, iA, w2, bA, rowA]; repeat (refine GO ?_; simp -implicitDefEqProofs only [go_sem, boolsL, iA, w2, bA, rowA]))
            first | exact id | exact ⟨id, rfl⟩
          · have hd2 : stepZ m (sg (w + 1) - sg w) = [] := by
              have := sg_cases w
              have := sg_cases (w + 1)
              have h0 : sg (w + 1) - sg w = 0 := by omega
              rw [h0]; rfl
            rw [hd2]
            (simp -implicitDefEqProofs only [go_sem, setA, iA]; repeat (refine GO ?_; simp -implicitDefEqProofs only [go_sem, setA, iA]))
            repeat ((first | (refine VIF.tt ?_ ?_; (· first | rfl | (simp; done) | (simp; omega))) | (refine VIF.ff ?_ ?_; (· first | rfl | (simp; done) | (simp; omega)))); (simp -implicitDefEqProofs only [go_sem]; repeat (refine GO ?_; simp -implicitDefEqProofs only [go_sem])))
            have w2 : IntKind.i64.wrap (w + 1) = w + 1 := by rw [wrap_i64] <;> omega
            (simp -implicitDefEqProofs only [go_sem, w1, w2]; repeat (refine GO ?_; simp -implicitDefEqProofs only [go_sem, w1, w2]))
            refine BACK.mk ⟨(i + 1, w + 1), by simp only; omega, by simp only; omega, by simp only; omega⟩ [] rfl rfl (by show l.length - (i + 1) < l.length - i; omega) ?_
            (simp -implicitDefEqProofs only [go_sem, boolsL, iA, w2, bA, rowA]; repeat (refine GO ?_; simp -implicitDefEqProofs only [go_sem, boolsL, iA, w2, bA, rowA]))
            first | exact id | exact ⟨id, rfl⟩
        | false =>
          refine fin _ rfl ?_
          simp -implicitDefEqProofs only [go_sem, iA]
          refine GO ?_
          simp -implicitDefEqProofs only [go_sem, iA]
          refine FRZG 32 (so [⟨wl m, w⟩]) rfl (so_leafy [⟨wl m, w⟩]) ?_
          simp -implicitDefEqProofs only [go_sem, so]
          refine FRZ 42 (so [⟨wl m, -1⟩]) rfl (so_leafy [⟨wl m, -1⟩]) ?_
          simp -implicitDefEqProofs only [go_sem, so]
          refine .pure _ (show Spec0 Try.prog 33 [setA [⟨wl m, w⟩], setA [⟨wl m, -1⟩]] _ from c33 _ _ (by simp) (by simp [wl]) (by simp [wl])) rfl fun r hq _ => ?_
          obtain ⟨d, e, rfl, hd⟩ := hq
          have hd : DDel (stepZ m w) [⟨wl m, -1⟩] d e := by rw [stepZ, if_neg hz]; exact hd
          obtain ⟨rfl, rfl⟩ := steps_d hm hw (by decide) hd
          by_cases hw3 : w = 1
          · subst hw3
            have hd2 : stepZ m (sg (1 + -1) - sg 1) = [⟨wl m, -1⟩] := by simp [stepZ, sg]
            rw [hd2]
            (simp -implicitDefEqProofs only [go_sem, setA, iA]; repeat (refine GO ?_; simp -implicitDefEqProofs only [go_sem, setA, iA]))
            repeat ((first | (refine VIF.tt ?_ ?_; (· first | rfl | (simp; done) | (simp; omega))) | (refine VIF.ff ?_ ?_; (· first | rfl | (simp; done) | (simp; omega)))); (simp -implicitDefEqProofs only [go_sem]; repeat (refine GO ?_; simp -implicitDefEqProofs only [go_sem])))
            refine ⟨by decide, EL.map (l := [(⟨wl m, -1⟩ : It)]) (i := 0) (by simp) ?_⟩
            (simp -implicitDefEqProofs only [go_sem, It.c, iA]; repeat (refine GO ?_; simp -implicitDefEqProofs only [go_sem, It.c, iA]))
            refine fin _ (by simp) ?_
            (simp -implicitDefEqProofs only [go_sem]; repeat (refine GO ?_; simp -implicitDefEqProofs only [go_sem]))
            refine ⟨by decide, EL.map (l := [(⟨wl m, -1⟩ : It)]) (i := 0) (by simp) ?_⟩
            (simp -implicitDefEqProofs only [go_sem, It.c, iA, rowA]; repeat (refine GO ?_; simp -implicitDefEqProofs only [go_sem, It.c, iA, rowA]))
            refine .pure _ (s14 (wl m) (wl m) (by simp [wl])) rfl fun r hq _ => ?_
            obtain ⟨e2, rfl, h2⟩ := hq
            have h2 := h2.2 rfl
            subst h2
            (simp -implicitDefEqProofs only [go_sem, bA, w1]; repeat (refine GO ?_; simp -implicitDefEqProofs only [go_sem, bA, w1]))
            have w2 : IntKind.i64.wrap (1 + -1) = 0 := by decide
            (simp -implicitDefEqProofs only [go_sem, w1, w2]; repeat (refine GO ?_; simp -implicitDefEqProofs only [go_sem, w1, w2]))
            refine BACK.mk ⟨(i + 1, 0), by simp only; omega, by simp only; omega, by simp only; omega⟩ [] rfl rfl (by show l.length - (i + 1) < l.length - i; omega) ?_
            (simp -implicitDefEqProofs only [go_sem, boolsL, iA, w2, bA, rowA]; repeat (refine GO ?_; simp -implicitDefEqProofs only [go_sem, boolsL, iA, w2, bA, rowA]))
            first | exact id | exact ⟨id, rfl⟩
          · have hd2 : stepZ m (sg (w + -1) - sg w) = [] := by
              have := sg_cases w
              have := sg_cases (w + -1)
              have h0 : sg (w + -1) - sg w = 0 := by omega
              rw [h0]; rfl
            rw [hd2]
            (simp -implicitDefEqProofs only [go_sem, setA, iA]; repeat (refine GO ?_; simp -implicitDefEqProofs only [go_sem, setA, iA]))
            repeat ((first | (refine VIF.tt ?_ ?_; (· first | rfl | (simp; done) | (simp; omega))) | (refine VIF.ff ?_ ?_; (· first | rfl | (simp; done) | (simp; omega)))); (simp -implicitDefEqProofs only [go_sem]; repeat (refine GO ?_; simp -implicitDefEqProofs only [go_sem])))
            have w2 : IntKind.i64.wrap (w + -1) = w + -1 := by rw [wrap_i64] <;> omega
            (simp -implicitDefEqProofs only [go_sem, w1, w2]; repeat (refine GO ?_; simp -implicitDefEqProofs only [go_sem, w1, w2]))
            refine BACK.mk ⟨(i + 1, w + -1), by simp only; omega, by simp only; omega, by simp only; omega⟩ [] rfl rfl (by show l.length - (i + 1) < l.length - i; omega) ?_
            (simp -implicitDefEqProofs only [go_sem, boolsL, iA, w2, bA, rowA]; repeat (refine GO ?_; simp -implicitDefEqProofs only [go_sem, boolsL, iA, w2, bA, rowA]))
            first | exact id | exact ⟨id, rfl⟩
    · (simp -implicitDefEqProofs only [go_sem]; repeat (refine GO ?_; simp -implicitDefEqProofs only [go_sem]))
      refine .pure _ c35 rfl fun r hq _ => ?_
      subst hq
      (simp -implicitDefEqProofs only [go_sem, bA]; repeat (refine GO ?_; simp -implicitDefEqProofs only [go_sem, bA]))
end Yt
namespace Yt
open Go Go.Vc Go.Proofs Go.Proofs.Ytbnbngkbngmndaa
set_option linter.unusedSimpArgs false
set_option linter.unusedVariables false
mutual
theorem bulk_le {H : Type} {B : Nat} : ∀ d : DataW H, Rows.uptoBulk d ≤ B → bulkLe B d
  | .lit l, h => by
    cases l with
    | string bs => simp only [Rows.uptoBulk] at h; simp only [bulkLe]; omega
    | _ => simp only [bulkLe]
  | .nil, _ => by simp only [bulkLe]
  | .ptr d, _ => by simp only [bulkLe]
  | .slice elems spare, h => by
    simp only [Rows.uptoBulk] at h
    have h2 := bulks_len elems
    simp only [bulkLe]
    exact ⟨by omega, bulks_le elems (by omega)⟩
  | .agg ds, h => by
    simp only [Rows.uptoBulk] at h
    simp only [bulkLe]
    exact bulks_le ds (by omega)
  | .iface _ _, _ => by simp only [bulkLe]
  | .map _, _ => by simp only [bulkLe]
  | .held _, _ => by simp only [bulkLe]
theorem bulks_le {H : Type} {B : Nat} : ∀ ds : List (DataW H), Rows.uptoBulkAll ds ≤ B → bulkLe.bulkLes B ds
  | [], _ => trivial
  | d :: r, h => by
    simp only [Rows.uptoBulkAll] at h
    exact ⟨bulk_le d (by omega), bulks_le r (by omega)⟩
theorem bulk_pos {H : Type} : ∀ d : DataW H, 1 ≤ Rows.uptoBulk d
  | .lit l => by cases l <;> simp [Rows.uptoBulk]
  | .nil => by simp [Rows.uptoBulk]
  | .ptr d => by simp [Rows.uptoBulk]
  | .slice elems spare => by simp [Rows.uptoBulk]
  | .agg ds => by simp [Rows.uptoBulk]
  | .iface _ _ => by simp [Rows.uptoBulk]
  | .map _ => by simp [Rows.uptoBulk]
  | .held _ => by simp [Rows.uptoBulk]
theorem bulks_len {H : Type} : ∀ ds : List (DataW H), ds.length ≤ Rows.uptoBulkAll ds
  | [] => by simp
  | d :: r => by
    have := bulk_pos d
    have := bulks_len r
    simp only [Rows.uptoBulkAll, List.length_cons]; omega
end
theorem bound {H : Type} {l : List (DataW H)} (hk : Rows.uptoSmall H l = true) : bulkLe.bulkLes 1048576 l := bulks_le l (of_decide_eq_true hk)
theorem kids : Kids Try.prog (· < Try.prog.types.size) := kids_rows (by kernel_rfl) (by kernel_rfl)
def szOk (P : Program) : Bool := (List.range P.types.size).all fun t => match P.underlying t with | some (.slice e) => decide (0 < P.cellsOf e) | _ => true
theorem szOk_to {P : Program} (h : szOk P = true) {t e : TypeId} (ht : t < P.types.size) (hu : P.underlying t = some (.slice e)) : 0 < P.cellsOf e := by
  have := List.all_eq_true.1 h t (by simpa using ht)
  rw [hu] at this
  simpa using this
theorem sizes {t e : TypeId} (ht : t < Try.prog.types.size) (hu : Try.prog.underlying t = some (.slice e)) : 0 < Try.prog.cellsOf e := szOk_to (by kernel_rfl) ht hu
def i64 (n : Int) : Prop := -9223372036854775808 ≤ n ∧ n ≤ 9223372036854775807
theorem i64_of {n : Int} (h : (Lit.int .i64 n).wf = true) : i64 n := by
  simp [Lit.wf, IntKind.min, IntKind.max, IntKind.signed, IntKind.bits] at h
  exact h
def V.fit (v : V) : Prop := i64 v.k ∧ i64 v.i ∧ v.s.size ≤ 1048576
def It.fit (t : It) : Prop := t.row.length ≤ 1048576 ∧ i64 t.w
theorem cellsV : Try.prog.cellsOf 25 = 3 := by kernel_rfl
theorem cellsI : Try.prog.cellsOf 27 = 2 := by kernel_rfl
theorem cells1 : Try.prog.cellsOf 3 = 1 := by kernel_rfl
theorem cellsR : Try.prog.cellsOf 23 = 1 := by kernel_rfl
theorem cellsZ : Try.prog.cellsOf 28 = 1 := by kernel_rfl
theorem shVal {avs : List AV} (h : Sh Try.prog 1048576 25 avs) : ∃ v : V, avs = v.c ∧ v.fit := by
  obtain ⟨xs, rfl, hl, hf⟩ := sh_struct Try.underlying25 h
  match xs, hl with
  | [a, b, c], _ =>
    obtain ⟨k, rfl, hk⟩ := sh_int Try.underlying3 (hf 0 _ a rfl rfl)
    obtain ⟨i, rfl, hi⟩ := sh_int Try.underlying3 (hf 1 _ b rfl rfl)
    obtain ⟨s, rfl, hs⟩ := sh_str Try.underlying9 (hf 2 _ c rfl rfl)
    exact ⟨⟨k, i, s⟩, rfl, i64_of hk, i64_of hi, hs⟩
theorem shRow {avs : List AV} (h : Sh Try.prog 1048576 23 avs) : ∃ r : List V, avs = [rowA r] ∧ r.length ≤ 1048576 := by
  obtain ⟨es, rfl, hl, he⟩ := sh_slice Try.underlying23 h
  obtain ⟨l, rfl, _⟩ := map_choose fun x hx => shVal (he x hx)
  rw [cellsV]
  exact ⟨l, rfl, by simpa using hl⟩
theorem shItem {avs : List AV} (h : Sh Try.prog 1048576 27 avs) : ∃ t : It, avs = t.c ∧ t.fit := by
  obtain ⟨xs, rfl, hl, hf⟩ := sh_struct Try.underlying27 h
  match xs, hl with
  | [a, b], _ =>
    obtain ⟨r, rfl, hr⟩ := shRow (hf 0 _ a rfl rfl)
    obtain ⟨w, rfl, hw⟩ := sh_int Try.underlying3 (hf 1 _ b rfl rfl)
    exact ⟨⟨r, w⟩, rfl, hr, i64_of hw⟩
theorem shSet {avs : List AV} (h : Sh Try.prog 1048576 28 avs) : ∃ l : List It, avs = [setA l] ∧ l.length ≤ 1048576 ∧ ∀ t ∈ l, t.fit := by
  obtain ⟨es, rfl, hl, he⟩ := sh_slice Try.underlying28 h
  obtain ⟨l, rfl, h2⟩ := map_choose fun x hx => shItem (he x hx)
  rw [cellsI]
  exact ⟨l, rfl, by simpa using hl, h2⟩
theorem shSets {avs : List AV} (h : Sh Try.prog 1048576 50 avs) : ∃ l : List (List It), avs = [setsA l] ∧ l.length ≤ 1048576 ∧ ∀ z ∈ l, z.length ≤ 1048576 ∧ ∀ t ∈ z, t.fit := by
  obtain ⟨es, rfl, hl, he⟩ := sh_slice Try.underlying50 h
  obtain ⟨l, rfl, h2⟩ := map_choose (f := fun r => [setA r]) fun x hx => shSet (he x hx)
  rw [cellsZ]
  exact ⟨l, rfl, by simpa using hl, h2⟩
theorem cellsB : Try.prog.cellsOf 4 = 1 := by kernel_rfl
theorem shBools {avs : List AV} (h : Sh Try.prog 1048576 42 avs) : ∃ l : List Bool, avs = [.im 1 (l.map fun b => [bA b])] ∧ l.length ≤ 1048576 := by
  obtain ⟨es, rfl, hl, he⟩ := sh_slice Try.underlying42 h
  obtain ⟨l, rfl, h2⟩ := map_choose (f := fun b => [bA b]) (p := fun _ => True) fun x hx => by
    obtain ⟨n, rfl⟩ := sh_bool Try.underlying4 (he x hx)
    exact ⟨n, rfl, trivial⟩
  rw [cellsB]
  exact ⟨l, rfl, by simpa using hl⟩
theorem shInts {avs : List AV} (h : Sh Try.prog 1048576 32 avs) : ∃ l : List Int, avs = [intsL l] ∧ l.length ≤ 1048576 ∧ ∀ x ∈ l, i64 x := by
  obtain ⟨es, rfl, hl, he⟩ := sh_slice Try.underlying32 h
  obtain ⟨l, rfl, h2⟩ := map_choose (f := fun n => [iA n]) (p := i64) fun x hx => by
    obtain ⟨n, rfl, hn⟩ := sh_int Try.underlying3 (he x hx)
    exact ⟨n, rfl, i64_of hn⟩
  rw [cells1]
  exact ⟨l, rfl, by simpa using hl, h2⟩
theorem shPred {avs : List AV} (h : Sh Try.prog 1048576 55 avs) : ∃ p : Pr, avs = p.c ∧ p.val.fit ∧ i64 p.kind ∧ i64 p.col ∧ i64 p.other := by
  obtain ⟨xs, rfl, hl, hf⟩ := sh_struct Try.underlying55 h
  match xs, hl with
  | [a, b, c, d], _ =>
    obtain ⟨k, rfl, hk⟩ := sh_int Try.underlying3 (hf 0 _ a rfl rfl)
    obtain ⟨i, rfl, hi⟩ := sh_int Try.underlying3 (hf 1 _ b rfl rfl)
    obtain ⟨o, rfl, ho⟩ := sh_int Try.underlying3 (hf 2 _ c rfl rfl)
    obtain ⟨v, rfl, hv⟩ := shVal (hf 3 _ d rfl rfl)
    exact ⟨⟨k, i, o, v⟩, rfl, hv, i64_of hk, i64_of hi, i64_of ho⟩
theorem own : ownKnob Try.prog.godebug = none := by kernel_rfl
def signs : List Char := [Char.ofNat 104, Char.ofNat 97, Char.ofNat 114, Char.ofNat 110, Char.ofNat 101, Char.ofNat 115, Char.ofNat 115, Char.ofNat 32, Char.ofNat 55, Char.ofNat 97, Char.ofNat 99, Char.ofNat 53, Char.ofNat 53, Char.ofNat 101, Char.ofNat 99, Char.ofNat 99, Char.ofNat 52, Char.ofNat 56, Char.ofNat 55, Char.ofNat 54, Char.ofNat 48, Char.ofNat 52, Char.ofNat 56, Char.ofNat 56, Char.ofNat 97, Char.ofNat 54, Char.ofNat 55, Char.ofNat 57, Char.ofNat 100, Char.ofNat 49, Char.ofNat 99, Char.ofNat 56, Char.ofNat 101, Char.ofNat 97, Char.ofNat 56, Char.ofNat 55, Char.ofNat 56, Char.ofNat 54, Char.ofNat 98, Char.ofNat 101, Char.ofNat 100, Char.ofNat 52, Char.ofNat 56, Char.ofNat 56, Char.ofNat 100, Char.ofNat 100, Char.ofNat 48, Char.ofNat 100, Char.ofNat 54, Char.ofNat 51, Char.ofNat 99, Char.ofNat 51, Char.ofNat 53, Char.ofNat 48, Char.ofNat 57, Char.ofNat 102, Char.ofNat 54, Char.ofNat 55, Char.ofNat 48, Char.ofNat 51, Char.ofNat 102, Char.ofNat 55, Char.ofNat 101, Char.ofNat 55, Char.ofNat 98, Char.ofNat 53, Char.ofNat 102, Char.ofNat 52, Char.ofNat 53, Char.ofNat 99, Char.ofNat 100, Char.ofNat 100, Char.ofNat 32, Char.ofNat 99, Char.ofNat 117, Char.ofNat 116, Char.ofNat 32, Char.ofNat 97, Char.ofNat 116, Char.ofNat 32, Char.ofNat 114, Char.ofNat 97, Char.ofNat 100, Char.ofNat 100, Char.ofNat 108, Char.ofNat 101, Char.ofNat 47, Char.ofNat 114, Char.ofNat 97, Char.ofNat 100, Char.ofNat 100, Char.ofNat 108, Char.ofNat 101, Char.ofNat 108, Char.ofNat 97, Char.ofNat 119, Char.ofNat 49, Char.ofNat 55, Char.ofNat 46, Char.ofNat 74, Char.ofNat 111, Char.ofNat 105, Char.ofNat 110, Char.ofNat 87, Char.ofNat 105, Char.ofNat 100, Char.ofNat 101, Char.ofNat 32, Char.ofNat 114, Char.ofNat 97, Char.ofNat 100, Char.ofNat 100, Char.ofNat 108, Char.ofNat 101, Char.ofNat 47, Char.ofNat 114, Char.ofNat 97, Char.ofNat 100, Char.ofNat 100, Char.ofNat 108, Char.ofNat 101, Char.ofNat 108, Char.ofNat 97, Char.ofNat 119, Char.ofNat 49, Char.ofNat 56, Char.ofNat 46, Char.ofNat 68, Char.ofNat 105, Char.ofNat 115, Char.ofNat 116, Char.ofNat 69, Char.ofNat 120, Char.ofNat 97, Char.ofNat 99, Char.ofNat 116, Char.ofNat 32, Char.ofNat 114, Char.ofNat 97, Char.ofNat 100, Char.ofNat 100, Char.ofNat 108, Char.ofNat 101, Char.ofNat 47, Char.ofNat 114, Char.ofNat 97, Char.ofNat 100, Char.ofNat 100, Char.ofNat 108, Char.ofNat 101, Char.ofNat 108, Char.ofNat 97, Char.ofNat 119, Char.ofNat 49, Char.ofNat 56, Char.ofNat 46, Char.ofNat 68, Char.ofNat 105, Char.ofNat 115, Char.ofNat 116, Char.ofNat 83, Char.ofNat 116, Char.ofNat 101, Char.ofNat 112, Char.ofNat 115, Char.ofNat 32, Char.ofNat 114, Char.ofNat 97, Char.ofNat 100, Char.ofNat 100, Char.ofNat 108, Char.ofNat 101, Char.ofNat 47, Char.ofNat 114, Char.ofNat 97, Char.ofNat 100, Char.ofNat 100, Char.ofNat 108, Char.ofNat 101, Char.ofNat 108, Char.ofNat 97, Char.ofNat 119, Char.ofNat 49, Char.ofNat 55, Char.ofNat 46, Char.ofNat 74, Char.ofNat 111, Char.ofNat 105, Char.ofNat 110, Char.ofNat 82, Char.ofNat 111, Char.ofNat 119, Char.ofNat 115, Char.ofNat 32, Char.ofNat 114, Char.ofNat 97, Char.ofNat 100, Char.ofNat 100, Char.ofNat 108, Char.ofNat 101, Char.ofNat 47, Char.ofNat 114, Char.ofNat 97, Char.ofNat 100, Char.ofNat 100, Char.ofNat 108, Char.ofNat 101, Char.ofNat 108, Char.ofNat 97, Char.ofNat 119, Char.ofNat 49, Char.ofNat 56, Char.ofNat 46, Char.ofNat 68, Char.ofNat 105, Char.ofNat 115, Char.ofNat 116, Char.ofNat 65, Char.ofNat 100, Char.ofNat 100, Char.ofNat 115, Char.ofNat 32, Char.ofNat 114, Char.ofNat 97, Char.ofNat 100, Char.ofNat 100, Char.ofNat 108, Char.ofNat 101, Char.ofNat 47, Char.ofNat 114, Char.ofNat 97, Char.ofNat 100, Char.ofNat 100, Char.ofNat 108, Char.ofNat 101, Char.ofNat 108, Char.ofNat 97, Char.ofNat 119, Char.ofNat 49, Char.ofNat 55, Char.ofNat 46, Char.ofNat 74, Char.ofNat 111, Char.ofNat 105, Char.ofNat 110, Char.ofNat 83, Char.ofNat 119, Char.ofNat 97, Char.ofNat 112, Char.ofNat 115, Char.ofNat 32, Char.ofNat 114, Char.ofNat 97, Char.ofNat 100, Char.ofNat 100, Char.ofNat 108, Char.ofNat 101, Char.ofNat 47, Char.ofNat 114, Char.ofNat 97, Char.ofNat 100, Char.ofNat 100, Char.ofNat 108, Char.ofNat 101, Char.ofNat 108, Char.ofNat 97, Char.ofNat 119, Char.ofNat 49, Char.ofNat 56, Char.ofNat 46, Char.ofNat 68, Char.ofNat 105, Char.ofNat 115, Char.ofNat 116, Char.ofNat 70, Char.ofNat 105, Char.ofNat 108, Char.ofNat 116, Char.ofNat 101, Char.ofNat 114, Char.ofNat 115, Char.ofNat 32, Char.ofNat 114, Char.ofNat 97, Char.ofNat 100, Char.ofNat 100, Char.ofNat 108, Char.ofNat 101, Char.ofNat 47, Char.ofNat 114, Char.ofNat 97, Char.ofNat 100, Char.ofNat 100, Char.ofNat 108, Char.ofNat 101, Char.ofNat 108, Char.ofNat 97, Char.ofNat 119, Char.ofNat 49, Char.ofNat 54, Char.ofNat 46, Char.ofNat 76, Char.ofNat 105, Char.ofNat 110, Char.ofNat 84, Char.ofNat 119, Char.ofNat 105, Char.ofNat 99, Char.ofNat 101, Char.ofNat 32, Char.ofNat 114, Char.ofNat 97, Char.ofNat 100, Char.ofNat 100, Char.ofNat 108, Char.ofNat 101, Char.ofNat 47, Char.ofNat 114, Char.ofNat 97, Char.ofNat 100, Char.ofNat 100, Char.ofNat 108, Char.ofNat 101, Char.ofNat 108, Char.ofNat 97, Char.ofNat 119, Char.ofNat 49, Char.ofNat 54, Char.ofNat 46, Char.ofNat 76, Char.ofNat 105, Char.ofNat 110, Char.ofNat 87, Char.ofNat 114, Char.ofNat 97, Char.ofNat 112, Char.ofNat 115, Char.ofNat 32, Char.ofNat 114, Char.ofNat 97, Char.ofNat 100, Char.ofNat 100, Char.ofNat 108, Char.ofNat 101, Char.ofNat 47, Char.ofNat 114, Char.ofNat 97, Char.ofNat 100, Char.ofNat 100, Char.ofNat 108, Char.ofNat 101, Char.ofNat 108, Char.ofNat 97, Char.ofNat 119, Char.ofNat 49, Char.ofNat 54, Char.ofNat 46, Char.ofNat 76, Char.ofNat 105, Char.ofNat 110, Char.ofNat 69, Char.ofNat 120, Char.ofNat 97, Char.ofNat 99, Char.ofNat 116, Char.ofNat 32, Char.ofNat 114, Char.ofNat 97, Char.ofNat 100, Char.ofNat 100, Char.ofNat 108, Char.ofNat 101, Char.ofNat 47, Char.ofNat 114, Char.ofNat 97, Char.ofNat 100, Char.ofNat 100, Char.ofNat 108, Char.ofNat 101, Char.ofNat 108, Char.ofNat 97, Char.ofNat 119, Char.ofNat 49, Char.ofNat 54, Char.ofNat 46, Char.ofNat 76, Char.ofNat 105, Char.ofNat 110, Char.ofNat 83, Char.ofNat 117, Char.ofNat 109, Char.ofNat 115, Char.ofNat 32, Char.ofNat 114, Char.ofNat 97, Char.ofNat 100, Char.ofNat 100, Char.ofNat 108, Char.ofNat 101, Char.ofNat 47, Char.ofNat 114, Char.ofNat 97, Char.ofNat 100, Char.ofNat 100, Char.ofNat 108, Char.ofNat 101, Char.ofNat 108, Char.ofNat 97, Char.ofNat 119, Char.ofNat 49, Char.ofNat 54, Char.ofNat 46, Char.ofNat 76, Char.ofNat 105, Char.ofNat 110, Char.ofNat 79, Char.ofNat 102, Char.ofNat 102, Char.ofNat 32, Char.ofNat 114, Char.ofNat 97, Char.ofNat 100, Char.ofNat 100, Char.ofNat 108, Char.ofNat 101, Char.ofNat 47, Char.ofNat 114, Char.ofNat 97, Char.ofNat 100, Char.ofNat 100, Char.ofNat 108, Char.ofNat 101, Char.ofNat 108, Char.ofNat 97, Char.ofNat 119, Char.ofNat 49, Char.ofNat 54, Char.ofNat 46, Char.ofNat 76, Char.ofNat 105, Char.ofNat 110, Char.ofNat 82, Char.ofNat 111, Char.ofNat 119, Char.ofNat 115, Char.ofNat 32, Char.ofNat 114, Char.ofNat 97, Char.ofNat 100, Char.ofNat 100, Char.ofNat 108, Char.ofNat 101, Char.ofNat 47, Char.ofNat 114, Char.ofNat 97, Char.ofNat 100, Char.ofNat 100, Char.ofNat 108, Char.ofNat 101, Char.ofNat 108, Char.ofNat 97, Char.ofNat 119, Char.ofNat 49, Char.ofNat 55, Char.ofNat 46, Char.ofNat 74, Char.ofNat 111, Char.ofNat 105, Char.ofNat 110, Char.ofNat 70, Char.ofNat 105, Char.ofNat 108, Char.ofNat 116, Char.ofNat 101, Char.ofNat 114, Char.ofNat 115, Char.ofNat 32, Char.ofNat 114, Char.ofNat 97, Char.ofNat 100, Char.ofNat 100, Char.ofNat 108, Char.ofNat 101, Char.ofNat 47, Char.ofNat 114, Char.ofNat 97, Char.ofNat 100, Char.ofNat 100, Char.ofNat 108, Char.ofNat 101, Char.ofNat 108, Char.ofNat 97, Char.ofNat 119, Char.ofNat 49, Char.ofNat 55, Char.ofNat 46, Char.ofNat 74, Char.ofNat 111, Char.ofNat 105, Char.ofNat 110, Char.ofNat 69, Char.ofNat 120, Char.ofNat 97, Char.ofNat 99, Char.ofNat 116, Char.ofNat 32, Char.ofNat 114, Char.ofNat 97, Char.ofNat 100, Char.ofNat 100, Char.ofNat 108, Char.ofNat 101, Char.ofNat 47, Char.ofNat 114, Char.ofNat 97, Char.ofNat 100, Char.ofNat 100, Char.ofNat 108, Char.ofNat 101, Char.ofNat 108, Char.ofNat 97, Char.ofNat 119, Char.ofNat 49, Char.ofNat 55, Char.ofNat 46, Char.ofNat 74, Char.ofNat 111, Char.ofNat 105, Char.ofNat 110, Char.ofNat 80, Char.ofNat 97, Char.ofNat 114, Char.ofNat 116, Char.ofNat 115, Char.ofNat 32, Char.ofNat 114, Char.ofNat 97, Char.ofNat 100, Char.ofNat 100, Char.ofNat 108, Char.ofNat 101, Char.ofNat 47, Char.ofNat 114, Char.ofNat 97, Char.ofNat 100, Char.ofNat 100, Char.ofNat 108, Char.ofNat 101, Char.ofNat 108, Char.ofNat 97, Char.ofNat 119, Char.ofNat 49, Char.ofNat 57, Char.ofNat 46, Char.ofNat 65, Char.ofNat 103, Char.ofNat 103, Char.ofNat 84, Char.ofNat 101, Char.ofNat 108, Char.ofNat 108, Char.ofNat 115, Char.ofNat 32, Char.ofNat 114, Char.ofNat 97, Char.ofNat 100, Char.ofNat 100, Char.ofNat 108, Char.ofNat 101, Char.ofNat 47, Char.ofNat 114, Char.ofNat 97, Char.ofNat 100, Char.ofNat 100, Char.ofNat 108, Char.ofNat 101, Char.ofNat 108, Char.ofNat 97, Char.ofNat 119, Char.ofNat 49, Char.ofNat 57, Char.ofNat 46, Char.ofNat 65, Char.ofNat 103, Char.ofNat 103, Char.ofNat 84, Char.ofNat 111, Char.ofNat 116, Char.ofNat 97, Char.ofNat 108, Char.ofNat 32, Char.ofNat 114, Char.ofNat 97, Char.ofNat 100, Char.ofNat 100, Char.ofNat 108, Char.ofNat 101, Char.ofNat 47, Char.ofNat 114, Char.ofNat 97, Char.ofNat 100, Char.ofNat 100, Char.ofNat 108, Char.ofNat 101, Char.ofNat 108, Char.ofNat 97, Char.ofNat 119, Char.ofNat 49, Char.ofNat 57, Char.ofNat 46, Char.ofNat 65, Char.ofNat 103, Char.ofNat 103, Char.ofNat 79, Char.ofNat 118, Char.ofNat 101, Char.ofNat 114, Char.ofNat 32, Char.ofNat 114, Char.ofNat 97, Char.ofNat 100, Char.ofNat 100, Char.ofNat 108, Char.ofNat 101, Char.ofNat 47, Char.ofNat 114, Char.ofNat 97, Char.ofNat 100, Char.ofNat 100, Char.ofNat 108, Char.ofNat 101, Char.ofNat 108, Char.ofNat 97, Char.ofNat 119, Char.ofNat 49, Char.ofNat 57, Char.ofNat 46, Char.ofNat 65, Char.ofNat 103, Char.ofNat 103, Char.ofNat 83, Char.ofNat 111, Char.ofNat 109, Char.ofNat 101, Char.ofNat 32, Char.ofNat 114, Char.ofNat 97, Char.ofNat 100, Char.ofNat 100, Char.ofNat 108, Char.ofNat 101, Char.ofNat 47, Char.ofNat 114, Char.ofNat 97, Char.ofNat 100, Char.ofNat 100, Char.ofNat 108, Char.ofNat 101, Char.ofNat 108, Char.ofNat 97, Char.ofNat 119, Char.ofNat 49, Char.ofNat 57, Char.ofNat 46, Char.ofNat 65, Char.ofNat 103, Char.ofNat 103, Char.ofNat 75, Char.ofNat 101, Char.ofNat 121, Char.ofNat 115, Char.ofNat 32, Char.ofNat 114, Char.ofNat 97, Char.ofNat 100, Char.ofNat 100, Char.ofNat 108, Char.ofNat 101, Char.ofNat 47, Char.ofNat 114, Char.ofNat 97, Char.ofNat 100, Char.ofNat 100, Char.ofNat 108, Char.ofNat 101, Char.ofNat 108, Char.ofNat 97, Char.ofNat 119, Char.ofNat 49, Char.ofNat 57, Char.ofNat 46, Char.ofNat 65, Char.ofNat 103, Char.ofNat 103, Char.ofNat 69, Char.ofNat 120, Char.ofNat 97, Char.ofNat 99, Char.ofNat 116, Char.ofNat 32, Char.ofNat 114, Char.ofNat 97, Char.ofNat 100, Char.ofNat 100, Char.ofNat 108, Char.ofNat 101, Char.ofNat 47, Char.ofNat 114, Char.ofNat 97, Char.ofNat 100, Char.ofNat 100, Char.ofNat 108, Char.ofNat 101, Char.ofNat 108, Char.ofNat 97, Char.ofNat 119, Char.ofNat 49, Char.ofNat 57, Char.ofNat 46, Char.ofNat 65, Char.ofNat 103, Char.ofNat 103, Char.ofNat 65, Char.ofNat 100, Char.ofNat 100, Char.ofNat 115]
theorem words_eq : headIs Try.prog ([Char.ofNat 99, Char.ofNat 117, Char.ofNat 116] :: [[Char.ofNat 97, Char.ofNat 116], [Char.ofNat 114, Char.ofNat 97, Char.ofNat 100, Char.ofNat 100, Char.ofNat 108, Char.ofNat 101, Char.ofNat 47, Char.ofNat 114, Char.ofNat 97, Char.ofNat 100, Char.ofNat 100, Char.ofNat 108, Char.ofNat 101, Char.ofNat 108, Char.ofNat 97, Char.ofNat 119, Char.ofNat 49, Char.ofNat 55, Char.ofNat 46, Char.ofNat 74, Char.ofNat 111, Char.ofNat 105, Char.ofNat 110, Char.ofNat 87, Char.ofNat 105, Char.ofNat 100, Char.ofNat 101], [Char.ofNat 114, Char.ofNat 97, Char.ofNat 100, Char.ofNat 100, Char.ofNat 108, Char.ofNat 101, Char.ofNat 47, Char.ofNat 114, Char.ofNat 97, Char.ofNat 100, Char.ofNat 100, Char.ofNat 108, Char.ofNat 101, Char.ofNat 108, Char.ofNat 97, Char.ofNat 119, Char.ofNat 49, Char.ofNat 56, Char.ofNat 46, Char.ofNat 68, Char.ofNat 105, Char.ofNat 115, Char.ofNat 116, Char.ofNat 69, Char.ofNat 120, Char.ofNat 97, Char.ofNat 99, Char.ofNat 116], [Char.ofNat 114, Char.ofNat 97, Char.ofNat 100, Char.ofNat 100, Char.ofNat 108, Char.ofNat 101, Char.ofNat 47, Char.ofNat 114, Char.ofNat 97, Char.ofNat 100, Char.ofNat 100, Char.ofNat 108, Char.ofNat 101, Char.ofNat 108, Char.ofNat 97, Char.ofNat 119, Char.ofNat 49, Char.ofNat 56, Char.ofNat 46, Char.ofNat 68, Char.ofNat 105, Char.ofNat 115, Char.ofNat 116, Char.ofNat 83, Char.ofNat 116, Char.ofNat 101, Char.ofNat 112, Char.ofNat 115], [Char.ofNat 114, Char.ofNat 97, Char.ofNat 100, Char.ofNat 100, Char.ofNat 108, Char.ofNat 101, Char.ofNat 47, Char.ofNat 114, Char.ofNat 97, Char.ofNat 100, Char.ofNat 100, Char.ofNat 108, Char.ofNat 101, Char.ofNat 108, Char.ofNat 97, Char.ofNat 119, Char.ofNat 49, Char.ofNat 55, Char.ofNat 46, Char.ofNat 74, Char.ofNat 111, Char.ofNat 105, Char.ofNat 110, Char.ofNat 82, Char.ofNat 111, Char.ofNat 119, Char.ofNat 115], [Char.ofNat 114, Char.ofNat 97, Char.ofNat 100, Char.ofNat 100, Char.ofNat 108, Char.ofNat 101, Char.ofNat 47, Char.ofNat 114, Char.ofNat 97, Char.ofNat 100, Char.ofNat 100, Char.ofNat 108, Char.ofNat 101, Char.ofNat 108, Char.ofNat 97, Char.ofNat 119, Char.ofNat 49, Char.ofNat 56, Char.ofNat 46, Char.ofNat 68, Char.ofNat 105, Char.ofNat 115, Char.ofNat 116, Char.ofNat 65, Char.ofNat 100, Char.ofNat 100, Char.ofNat 115], [Char.ofNat 114, Char.ofNat 97, Char.ofNat 100, Char.ofNat 100, Char.ofNat 108, Char.ofNat 101, Char.ofNat 47, Char.ofNat 114, Char.ofNat 97, Char.ofNat 100, Char.ofNat 100, Char.ofNat 108, Char.ofNat 101, Char.ofNat 108, Char.ofNat 97, Char.ofNat 119, Char.ofNat 49, Char.ofNat 55, Char.ofNat 46, Char.ofNat 74, Char.ofNat 111, Char.ofNat 105, Char.ofNat 110, Char.ofNat 83, Char.ofNat 119, Char.ofNat 97, Char.ofNat 112, Char.ofNat 115], [Char.ofNat 114, Char.ofNat 97, Char.ofNat 100, Char.ofNat 100, Char.ofNat 108, Char.ofNat 101, Char.ofNat 47, Char.ofNat 114, Char.ofNat 97, Char.ofNat 100, Char.ofNat 100, Char.ofNat 108, Char.ofNat 101, Char.ofNat 108, Char.ofNat 97, Char.ofNat 119, Char.ofNat 49, Char.ofNat 56, Char.ofNat 46, Char.ofNat 68, Char.ofNat 105, Char.ofNat 115, Char.ofNat 116, Char.ofNat 70, Char.ofNat 105, Char.ofNat 108, Char.ofNat 116, Char.ofNat 101, Char.ofNat 114, Char.ofNat 115], [Char.ofNat 114, Char.ofNat 97, Char.ofNat 100, Char.ofNat 100, Char.ofNat 108, Char.ofNat 101, Char.ofNat 47, Char.ofNat 114, Char.ofNat 97, Char.ofNat 100, Char.ofNat 100, Char.ofNat 108, Char.ofNat 101, Char.ofNat 108, Char.ofNat 97, Char.ofNat 119, Char.ofNat 49, Char.ofNat 54, Char.ofNat 46, Char.ofNat 76, Char.ofNat 105, Char.ofNat 110, Char.ofNat 84, Char.ofNat 119, Char.ofNat 105, Char.ofNat 99, Char.ofNat 101], [Char.ofNat 114, Char.ofNat 97, Char.ofNat 100, Char.ofNat 100, Char.ofNat 108, Char.ofNat 101, Char.ofNat 47, Char.ofNat 114, Char.ofNat 97, Char.ofNat 100, Char.ofNat 100, Char.ofNat 108, Char.ofNat 101, Char.ofNat 108, Char.ofNat 97, Char.ofNat 119, Char.ofNat 49, Char.ofNat 54, Char.ofNat 46, Char.ofNat 76, Char.ofNat 105, Char.ofNat 110, Char.ofNat 87, Char.ofNat 114, Char.ofNat 97, Char.ofNat 112, Char.ofNat 115], [Char.ofNat 114, Char.ofNat 97, Char.ofNat 100, Char.ofNat 100, Char.ofNat 108, Char.ofNat 101, Char.ofNat 47, Char.ofNat 114, Char.ofNat 97, Char.ofNat 100, Char.ofNat 100, Char.ofNat 108, Char.ofNat 101, Char.ofNat 108, Char.ofNat 97, Char.ofNat 119, Char.ofNat 49, Char.ofNat 54, Char.ofNat 46, Char.ofNat 76, Char.ofNat 105, Char.ofNat 110, Char.ofNat 69, Char.ofNat 120, Char.ofNat 97, Char.ofNat 99, Char.ofNat 116], [Char.ofNat 114, Char.ofNat 97, Char.ofNat 100, Char.ofNat 100, Char.ofNat 108, Char.ofNat 101, Char.ofNat 47, Char.ofNat 114, Char.ofNat 97, Char.ofNat 100, Char.ofNat 100, Char.ofNat 108, Char.ofNat 101, Char.ofNat 108, Char.ofNat 97, Char.ofNat 119, Char.ofNat 49, Char.ofNat 54, Char.ofNat 46, Char.ofNat 76, Char.ofNat 105, Char.ofNat 110, Char.ofNat 83, Char.ofNat 117, Char.ofNat 109, Char.ofNat 115], [Char.ofNat 114, Char.ofNat 97, Char.ofNat 100, Char.ofNat 100, Char.ofNat 108, Char.ofNat 101, Char.ofNat 47, Char.ofNat 114, Char.ofNat 97, Char.ofNat 100, Char.ofNat 100, Char.ofNat 108, Char.ofNat 101, Char.ofNat 108, Char.ofNat 97, Char.ofNat 119, Char.ofNat 49, Char.ofNat 54, Char.ofNat 46, Char.ofNat 76, Char.ofNat 105, Char.ofNat 110, Char.ofNat 79, Char.ofNat 102, Char.ofNat 102], [Char.ofNat 114, Char.ofNat 97, Char.ofNat 100, Char.ofNat 100, Char.ofNat 108, Char.ofNat 101, Char.ofNat 47, Char.ofNat 114, Char.ofNat 97, Char.ofNat 100, Char.ofNat 100, Char.ofNat 108, Char.ofNat 101, Char.ofNat 108, Char.ofNat 97, Char.ofNat 119, Char.ofNat 49, Char.ofNat 54, Char.ofNat 46, Char.ofNat 76, Char.ofNat 105, Char.ofNat 110, Char.ofNat 82, Char.ofNat 111, Char.ofNat 119, Char.ofNat 115], [Char.ofNat 114, Char.ofNat 97, Char.ofNat 100, Char.ofNat 100, Char.ofNat 108, Char.ofNat 101, Char.ofNat 47, Char.ofNat 114, Char.ofNat 97, Char.ofNat 100, Char.ofNat 100, Char.ofNat 108, Char.ofNat 101, Char.ofNat 108, Char.ofNat 97, Char.ofNat 119, Char.ofNat 49, Char.ofNat 55, Char.ofNat 46, Char.ofNat 74, Char.ofNat 111, Char.ofNat 105, Char.ofNat 110, Char.ofNat 70, Char.ofNat 105, Char.ofNat 108, Char.ofNat 116, Char.ofNat 101, Char.ofNat 114, Char.ofNat 115], [Char.ofNat 114, Char.ofNat 97, Char.ofNat 100, Char.ofNat 100, Char.ofNat 108, Char.ofNat 101, Char.ofNat 47, Char.ofNat 114, Char.ofNat 97, Char.ofNat 100, Char.ofNat 100, Char.ofNat 108, Char.ofNat 101, Char.ofNat 108, Char.ofNat 97, Char.ofNat 119, Char.ofNat 49, Char.ofNat 55, Char.ofNat 46, Char.ofNat 74, Char.ofNat 111, Char.ofNat 105, Char.ofNat 110, Char.ofNat 69, Char.ofNat 120, Char.ofNat 97, Char.ofNat 99, Char.ofNat 116], [Char.ofNat 114, Char.ofNat 97, Char.ofNat 100, Char.ofNat 100, Char.ofNat 108, Char.ofNat 101, Char.ofNat 47, Char.ofNat 114, Char.ofNat 97, Char.ofNat 100, Char.ofNat 100, Char.ofNat 108, Char.ofNat 101, Char.ofNat 108, Char.ofNat 97, Char.ofNat 119, Char.ofNat 49, Char.ofNat 55, Char.ofNat 46, Char.ofNat 74, Char.ofNat 111, Char.ofNat 105, Char.ofNat 110, Char.ofNat 80, Char.ofNat 97, Char.ofNat 114, Char.ofNat 116, Char.ofNat 115], [Char.ofNat 114, Char.ofNat 97, Char.ofNat 100, Char.ofNat 100, Char.ofNat 108, Char.ofNat 101, Char.ofNat 47, Char.ofNat 114, Char.ofNat 97, Char.ofNat 100, Char.ofNat 100, Char.ofNat 108, Char.ofNat 101, Char.ofNat 108, Char.ofNat 97, Char.ofNat 119, Char.ofNat 49, Char.ofNat 57, Char.ofNat 46, Char.ofNat 65, Char.ofNat 103, Char.ofNat 103, Char.ofNat 84, Char.ofNat 101, Char.ofNat 108, Char.ofNat 108, Char.ofNat 115], [Char.ofNat 114, Char.ofNat 97, Char.ofNat 100, Char.ofNat 100, Char.ofNat 108, Char.ofNat 101, Char.ofNat 47, Char.ofNat 114, Char.ofNat 97, Char.ofNat 100, Char.ofNat 100, Char.ofNat 108, Char.ofNat 101, Char.ofNat 108, Char.ofNat 97, Char.ofNat 119, Char.ofNat 49, Char.ofNat 57, Char.ofNat 46, Char.ofNat 65, Char.ofNat 103, Char.ofNat 103, Char.ofNat 84, Char.ofNat 111, Char.ofNat 116, Char.ofNat 97, Char.ofNat 108], [Char.ofNat 114, Char.ofNat 97, Char.ofNat 100, Char.ofNat 100, Char.ofNat 108, Char.ofNat 101, Char.ofNat 47, Char.ofNat 114, Char.ofNat 97, Char.ofNat 100, Char.ofNat 100, Char.ofNat 108, Char.ofNat 101, Char.ofNat 108, Char.ofNat 97, Char.ofNat 119, Char.ofNat 49, Char.ofNat 57, Char.ofNat 46, Char.ofNat 65, Char.ofNat 103, Char.ofNat 103, Char.ofNat 79, Char.ofNat 118, Char.ofNat 101, Char.ofNat 114], [Char.ofNat 114, Char.ofNat 97, Char.ofNat 100, Char.ofNat 100, Char.ofNat 108, Char.ofNat 101, Char.ofNat 47, Char.ofNat 114, Char.ofNat 97, Char.ofNat 100, Char.ofNat 100, Char.ofNat 108, Char.ofNat 101, Char.ofNat 108, Char.ofNat 97, Char.ofNat 119, Char.ofNat 49, Char.ofNat 57, Char.ofNat 46, Char.ofNat 65, Char.ofNat 103, Char.ofNat 103, Char.ofNat 83, Char.ofNat 111, Char.ofNat 109, Char.ofNat 101], [Char.ofNat 114, Char.ofNat 97, Char.ofNat 100, Char.ofNat 100, Char.ofNat 108, Char.ofNat 101, Char.ofNat 47, Char.ofNat 114, Char.ofNat 97, Char.ofNat 100, Char.ofNat 100, Char.ofNat 108, Char.ofNat 101, Char.ofNat 108, Char.ofNat 97, Char.ofNat 119, Char.ofNat 49, Char.ofNat 57, Char.ofNat 46, Char.ofNat 65, Char.ofNat 103, Char.ofNat 103, Char.ofNat 75, Char.ofNat 101, Char.ofNat 121, Char.ofNat 115], [Char.ofNat 114, Char.ofNat 97, Char.ofNat 100, Char.ofNat 100, Char.ofNat 108, Char.ofNat 101, Char.ofNat 47, Char.ofNat 114, Char.ofNat 97, Char.ofNat 100, Char.ofNat 100, Char.ofNat 108, Char.ofNat 101, Char.ofNat 108, Char.ofNat 97, Char.ofNat 119, Char.ofNat 49, Char.ofNat 57, Char.ofNat 46, Char.ofNat 65, Char.ofNat 103, Char.ofNat 103, Char.ofNat 69, Char.ofNat 120, Char.ofNat 97, Char.ofNat 99, Char.ofNat 116], [Char.ofNat 114, Char.ofNat 97, Char.ofNat 100, Char.ofNat 100, Char.ofNat 108, Char.ofNat 101, Char.ofNat 47, Char.ofNat 114, Char.ofNat 97, Char.ofNat 100, Char.ofNat 100, Char.ofNat 108, Char.ofNat 101, Char.ofNat 108, Char.ofNat 97, Char.ofNat 119, Char.ofNat 49, Char.ofNat 57, Char.ofNat 46, Char.ofNat 65, Char.ofNat 103, Char.ofNat 103, Char.ofNat 65, Char.ofNat 100, Char.ofNat 100, Char.ofNat 115]]) := head_of (l := signs) (by kernel_rfl) (by kernel_rfl)
theorem laid : laidOutB Try.prog = true := by kernel_rfl
theorem rowed : mapsRowed Try.prog = true := by kernel_rfl
theorem heard : Try.prog.stopsHeard = true := by kernel_rfl
theorem plain : Try.prog.plainKeys = true := by kernel_rfl
theorem doorRows : Try.prog.doorRows = [] := by kernel_rfl
theorem laysLater : Try.prog.laysLater = false := by kernel_rfl
theorem bearsReflect : Try.prog.bearsReflect = false := by kernel_rfl
theorem cutMade : Try.prog.make = some .cut := make_of words_eq (by kernel_rfl) (by kernel_rfl)
theorem cutLifts : Try.prog.liftsFinal = false := lifts_of words_eq (by kernel_rfl) (by kernel_rfl) (by kernel_rfl)
theorem cutEnter : Try.prog.mayEnter = true := enter_of words_eq (by kernel_rfl) (by kernel_rfl) (by kernel_rfl) (by kernel_rfl) doorRows laysLater bearsReflect
end Yt
