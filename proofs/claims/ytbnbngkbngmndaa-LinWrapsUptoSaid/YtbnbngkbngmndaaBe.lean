/- Contracts of the program's functions over abstract values and states, plain facts on which these lean, and the framework of these values over the model: The wake of chapter 16; what is left aside. Freezing; what is filtered is small. The law LinTwice. The law LinOff. Plain facts of what is projected. The law LinWraps. The law LinSums. The law LinRows. From the statement's arguments to those of the walks. The conditions stand in each theorem. -/
import Derived.Test.YtbnbngkbngmndaaBd
import Derived.Test.YtbnbngkbngmndaaBb
import Derived.JoinedCond
import Derived.WalkKit
import Derived.ProofKit
import Derived.Test.YtbnbngkbngmndaaRows
set_option linter.all false
namespace Yt
open Go Go.Vc Go.Proofs
set_option maxRecDepth 10000
set_option maxHeartbeats 8000000
set_option linter.unusedSimpArgs false
set_option linter.unusedVariables false
/-- Where lists of nothing will do, nil does. -/
def nlOk : List AV → List AV → Prop
  | [], [] => True
  | x :: r, y :: r' => (y = x ∨ (y = .nl ∧ ∃ sz, x = .im sz [])) ∧ nlOk r r'
  | _, _ => False
theorem nlOk_get : ∀ {l l' : List AV}, nlOk l l' → l.length = l'.length ∧ ∀ (j : Nat) (x y : AV), l[j]? = some x → l'[j]? = some y → y = x ∨ (y = .nl ∧ ∃ sz, x = .im sz [])
  | [], [], _ => ⟨rfl, by simp⟩
  | x :: r, y :: r', h => by
    obtain ⟨h1, h2⟩ := nlOk_get h.2
    refine ⟨by simp [h1], fun j u v hu hv => ?_⟩
    cases j with
    | zero => simp at hu hv; subst hu; subst hv; exact h.1
    | succ j => exact h2 j u v (by simpa using hu) (by simpa using hv)
theorem spec_nl {P : Program} {f : Nat} {l l' : List AV} {O : Nat → Option Ob} {U : List Nat} {R : AV → (Nat → Option Ob) → Prop} (h : FunSpec P f l O U R) (hn : nlOk l l') : FunSpec P f l' O U R := by
  obtain ⟨hl, hg⟩ := nlOk_get hn
  refine ⟨h.1, fun F φ w vs h1 h2 h3 H hs ha => h.2 F φ w vs h1 h2 h3 H (by rw [hs, hl]) fun j av hj => ?_⟩
  have hj' : j < l'.length := by rw [← hl]; exact (List.getElem?_eq_some_iff.1 hj).1
  have h4 := ha j _ (List.getElem?_eq_getElem hj')
  rcases hg j av _ hj (List.getElem?_eq_getElem hj') with e | ⟨e, sz, rfl⟩
  · rw [e] at h4; exact h4
  · rw [e] at h4
    generalize vs.getD j undef = v at h4 ⊢
    cases h4 with
    | rd r => cases r; exact .rd (.im0 none 0 sz)
theorem spec1_nls {P : Program} {f : Nat} {l l' : List AV} {R : AV → Ob → Prop} (h : Spec1 P f l R) (hn : nlOk l l') : Spec1 P f l' R := spec_nl h hn
theorem c96 (n : Int) : Spec1 Try.prog 96 [iA n] (fun r o => r = .rf 0 0 1 ∧ o = ro3 [⟨3, n, ByteArray.empty⟩]) := by
  refine spec1_of_vc tabOk elems ord96 Try.func96 rfl (rl := [.tmp 2]) rfl (by kernel_rfl) rfl ?_
  (simp -implicitDefEqProofs only [go_sem, iA]; repeat (refine GO ?_; simp -implicitDefEqProofs only [go_sem, iA]))
  refine FINmk [(0, some 5)] [(2, .rf 0 0 1)] [(0, ro3 [⟨3, n, ByteArray.empty⟩])] [0] rfl ?_ ?_
  · (simp -implicitDefEqProofs only [go_sem, ro3]; repeat (refine GO ?_; simp -implicitDefEqProofs only [go_sem, ro3]))
    exact .same (ro3 [⟨3, n, ByteArray.empty⟩]) _ _ (ro3_leafy [⟨3, n, ByteArray.empty⟩]) rfl
  · exact ⟨ro3 _, ⟨⟨rfl, rfl⟩, rfl⟩, ro3_leafy _, rfl⟩
def wl (n : Int) : List V := [⟨3, n, ByteArray.empty⟩]
def wlZ : List It := [⟨wl 1, 2⟩, ⟨wl 3, 4⟩]
def wlP : Pr := ⟨1, 0, 0, ⟨3, 3, ByteArray.empty⟩⟩
theorem wl_ok (n : Int) (h : -1152921504606846976 ≤ n ∧ n ≤ 1152921504606846976) : okR (wl n) = 0 := by
  simp [wl, okR, okV, inB, h.1, h.2]; rfl
theorem wlZ_made : Made wlZ := by
  refine ⟨?_, ?_⟩
  · simp [wlZ, wl, cI, cmpR, cmpV, cmpI, nz]
  · simp [wlZ, okW, inB]
theorem wlZ_good : Good wlZ := good_made.2 ⟨wlZ_made, fun t ht => by
  simp only [wlZ, List.mem_cons, List.not_mem_nil, or_false] at ht
  rcases ht with rfl | rfl <;> exact wl_ok _ (by decide)⟩
theorem wlZ_filter : (wlZ.filter fun t => holdsP wlP t.row) = [⟨wl 3, 4⟩] := by
  have h1 : cmpV ⟨3, 1, ByteArray.empty⟩ ⟨3, 3, ByteArray.empty⟩ = -1 := by simp [cmpV, cmpI, nz]
  have h2 : cmpV ⟨3, 3, ByteArray.empty⟩ ⟨3, 3, ByteArray.empty⟩ = 0 := lin_cmpV.self _
  simp [wlZ, wlP, holdsP, wl, inC, otherP, getV, h1, h2]
theorem tot_nilrow (z : List It) (r : List V) : tot r (z.map (projI [])) = if r = [] then sumW z else 0 := by
  induction z with
  | nil => simp [tot, sumW]
  | cons t z ih =>
    simp only [List.map_cons, tot, ih, sumW]
    have e : (projI [] t).row = [] := rfl
    have e2 : (projI [] t).w = t.w := rfl
    rw [e, e2]
    by_cases h : r = []
    · subst h; simp [cmpR]
    · have : ¬ cmpR [] r = 0 := fun h2 => h (lin_cmpR.eq _ _ h2).symm
      simp [h, this]
theorem nil_ok : okR [] = 0 := by simp [okR]
theorem nilrow_made {w : Int} (h0 : w ≠ 0) (h : okW w = true) : Made [⟨[], w⟩] := ⟨List.pairwise_singleton _ _, by simpa using ⟨h0, h⟩⟩
/-- To no columns. -/
theorem proj_nil {z out : List It} {err : Int} (hg : Good z) (hs : okW (sumW z) = true) (h : ProjR z [] out err) : err = 0 ∧ out = if sumW z = 0 then [] else [⟨[], sumW z⟩] := by
  rcases h with ⟨h, _⟩ | ⟨_, ⟨t, _, h⟩, h2, _⟩ | ⟨_, _, h⟩
  · exact absurd hg h
  · exact absurd (by rw [← h]; simp [pickE]) h2
  · have hb : ((z.map (projI [])).any fun t => !okI t) = false := by
      rw [List.any_eq_false]; intro t ht
      obtain ⟨u, hu, rfl⟩ := List.mem_map.1 ht
      have h3 := ((good_made.1 hg).1.nz u hu).2
      have e : (projI [] u).row = [] := rfl
      have e2 : (projI [] u).w = u.w := rfl
      simp [okI, e, e2, nil_ok, h3]
    by_cases h0 : sumW z = 0
    · rw [if_pos h0]
      obtain ⟨a, b⟩ := makeR_ok h hb ⟨.nil, by simp⟩ fun r => by rw [tot_nilrow, h0]; simp [tot]
      exact ⟨b, a⟩
    · rw [if_neg h0]
      obtain ⟨a, b⟩ := makeR_ok h hb (nilrow_made h0 hs) fun r => by
        rw [tot_nilrow]
        by_cases h : r = []
        · subst h; simp [tot, cmpR]
        · have : ¬ cmpR [] r = 0 := fun h2 => h (lin_cmpR.eq _ _ h2).symm
          simp [tot, h, this]
      exact ⟨b, a⟩
theorem c52 : Spec0 Try.prog 52 [] (· = bA true) := by
  refine spec0_of_vc tabOk elems ord52 Try.func52 rfl (rl := [.tmp 0]) rfl (by kernel_rfl) rfl ?_
  (simp -implicitDefEqProofs only [go_sem]; repeat (refine GO ?_; simp -implicitDefEqProofs only [go_sem]))
  refine .make 8 _ (c96 1) rfl (by simp) rfl fun q o hq _ => ?_
  obtain ⟨rfl, rfl⟩ := hq
  (simp -implicitDefEqProofs only [go_sem]; repeat (refine GO ?_; simp -implicitDefEqProofs only [go_sem]))
  refine .make 10 _ (c96 3) rfl (by simp) rfl fun q o hq _ => ?_
  obtain ⟨rfl, rfl⟩ := hq
  simp -implicitDefEqProofs only [go_sem]
  refine TOG [(12, some 12)] [(1, .rf 12 0 2), (14, .rf 12 0 2)] [(12, so wlZ)] [12] rfl ?_ ?_
  · (simp -implicitDefEqProofs only [go_sem, so, wlZ]; repeat (refine GO ?_; simp -implicitDefEqProofs only [go_sem, so, wlZ]))
    refine ⟨id, .cons ?_ (.cons ?_ .nil)⟩
    all_goals
      (simp -implicitDefEqProofs only [go_sem, It.c, rowA, iA]; repeat (refine GO ?_; simp -implicitDefEqProofs only [go_sem, It.c, rowA, iA]))
      exact ⟨by decide, _, rfl, ro3_leafy _, rfl, rfl⟩
  refine TO [] [(1, setA wlZ), (14, setA wlZ)] [] [] rfl ?_ ?_
  · (simp -implicitDefEqProofs only [go_sem, so, setA]; repeat (refine GO ?_; simp -implicitDefEqProofs only [go_sem, so, setA]))
    exact ⟨id, ⟨by decide, _, rfl, so_leafy wlZ, rfl, rfl⟩, ⟨by decide, _, rfl, so_leafy wlZ, rfl, rfl⟩⟩
  (simp -implicitDefEqProofs only [go_sem, setA]; repeat (refine GO ?_; simp -implicitDefEqProofs only [go_sem, setA]))
  refine .make 15 _ (spec1_nls (c49 wlZ [] (by decide) (by simp [wlZ, wl]) (by decide)) (l' := [setA wlZ, .nl]) ⟨.inl rfl, .inr ⟨rfl, 1, rfl⟩, trivial⟩) rfl (by simp) rfl fun q o hq _ => ?_
  obtain ⟨a, err, rfl, rfl, hm⟩ := hq
  obtain ⟨rfl, rfl⟩ := proj_nil wlZ_good (by decide) hm
  rw [show sumW wlZ = 6 by decide, if_neg (by decide)]
  simp -implicitDefEqProofs only [go_sem, iA]
  refine GO ?_
  simp -implicitDefEqProofs only [go_sem]
  refine .make 22 _ (show Spec1 Try.prog 51 [setA wlZ, .ag wlP.c] _ from c51 wlZ wlP (by decide) (by simp [wlZ, wl])) rfl (by simp) rfl fun q o hq _ => ?_
  obtain ⟨b, err, rfl, rfl, hm⟩ := hq
  have hb : b = [⟨wl 3, 4⟩] ∧ err = 0 := by
    rcases hm with ⟨h, _⟩ | ⟨_, h1, h2⟩
    · exact absurd wlZ_good h
    · exact ⟨by rw [h1, wlZ_filter], h2⟩
  obtain ⟨rfl, rfl⟩ := hb
  simp -implicitDefEqProofs only [go_sem, iA]
  refine TO [(15, some 15)] [(1, setA wlZ), (2, .rf 15 0 1), (3, iA 0), (4, setA [⟨wl 3, 4⟩]), (5, iA 0), (26, setA wlZ), (27, setA [⟨wl 3, 4⟩])] [(15, so [⟨[], 6⟩])] [15] rfl ?_ ?_
  · (simp -implicitDefEqProofs only [go_sem, so, setA, iA]; repeat (refine GO ?_; simp -implicitDefEqProofs only [go_sem, so, setA, iA]))
    exact ⟨id, ⟨⟨by decide, _, rfl, so_leafy [⟨wl 3, 4⟩], rfl, rfl⟩, ⟨by decide, _, rfl, so_leafy [⟨wl 3, 4⟩], rfl, rfl⟩⟩, .same (so [⟨[], 6⟩]) _ _ (so_leafy [⟨[], 6⟩]) rfl⟩
  (simp -implicitDefEqProofs only [go_sem, setA, iA]; repeat (refine GO ?_; simp -implicitDefEqProofs only [go_sem, setA, iA]))
  refine .make 28 _ (show Spec1 Try.prog 55 [setA wlZ, setA [⟨wl 3, 4⟩]] _ from c55 wlZ [⟨wl 3, 4⟩] (by decide) (by simp [wlZ, wl]) (by simp [wl])) rfl (by simp) rfl fun q o hq _ => ?_
  obtain ⟨c, err, rfl, rfl, hm⟩ := hq
  have hc : c = [⟨wl 1, 2⟩] ∧ err = 0 := by
    rcases hm with ⟨h, _⟩ | ⟨_, _, h⟩
    · exact absurd ⟨wlZ_good, good_made.2 ⟨⟨List.pairwise_singleton _ _, by simp [okW, inB]⟩, fun t ht => by simp at ht; subst ht; exact wl_ok _ (by decide)⟩⟩ h
    · refine makeR_ok h ?_ ⟨List.pairwise_singleton _ _, by simp [okW, inB]⟩ fun r => ?_
      · have h1 := wl_ok 1 (by decide)
        have h3 := wl_ok 3 (by decide)
        simp [wlZ, okI, negI, h1, h3, okW, inB]
      · simp only [wlZ, tot, List.map_cons, List.map_nil, List.cons_append, List.nil_append, negI]
        by_cases h1 : cmpR (wl 1) r = 0 <;> by_cases h3 : cmpR (wl 3) r = 0 <;> simp [h1, h3]
  obtain ⟨rfl, rfl⟩ := hc
  (simp -implicitDefEqProofs only [go_sem, so, iA]; repeat (refine GO ?_; simp -implicitDefEqProofs only [go_sem, so, iA]))
  repeat (refine VIF.split (fun _ => ?_) (fun h => absurd h (by decide)); (simp -implicitDefEqProofs only [go_sem]; repeat (refine GO ?_; simp -implicitDefEqProofs only [go_sem])))
  refine ⟨by decide, EL.map (l := [(⟨[], 6⟩ : It)]) (i := 0) (by decide) ?_⟩
  (simp -implicitDefEqProofs only [go_sem, It.c, iA]; repeat (refine GO ?_; simp -implicitDefEqProofs only [go_sem, It.c, iA]))
  repeat (refine VIF.split (fun _ => ?_) (fun h => absurd h (by decide)); (simp -implicitDefEqProofs only [go_sem]; repeat (refine GO ?_; simp -implicitDefEqProofs only [go_sem])))
  refine ⟨by decide, EL.map (l := [(⟨[], 6⟩ : It)]) (i := 0) (by decide) ?_⟩
  (simp -implicitDefEqProofs only [go_sem, It.c, iA, rowA]; repeat (refine GO ?_; simp -implicitDefEqProofs only [go_sem, It.c, iA, rowA]))
  repeat (refine VIF.split (fun _ => ?_) (fun h => absurd h (by decide)); (simp -implicitDefEqProofs only [go_sem]; repeat (refine GO ?_; simp -implicitDefEqProofs only [go_sem])))
  refine ⟨by decide, EL.map (l := [(⟨wl 1, 2⟩ : It)]) (i := 0) (by decide) ?_⟩
  (simp -implicitDefEqProofs only [go_sem, It.c, iA]; repeat (refine GO ?_; simp -implicitDefEqProofs only [go_sem, It.c, iA]))
  repeat (refine VIF.split (fun _ => ?_) (fun h => absurd h (by decide)); (simp -implicitDefEqProofs only [go_sem]; repeat (refine GO ?_; simp -implicitDefEqProofs only [go_sem])))
  exact rfl
end Yt
namespace Yt
open Go Go.Vc Go.Proofs
set_option maxRecDepth 10000
set_option maxHeartbeats 8000000
set_option linter.unusedSimpArgs false
set_option linter.unusedVariables false
@[go_sem] theorem fzE_so (id : Nat) (o : Ob) (z : List It) : fzE id o (List.map It.c z) = List.map It.c z := fzE_leafy (so_leafy z)
@[go_sem] theorem fzE_ro3 (id : Nat) (o : Ob) (z : List V) : fzE id o (List.map V.c z) = List.map V.c z := fzE_leafy (ro3_leafy z)
@[go_sem] theorem take_so (z : List It) : List.take z.length (List.map It.c z) = List.map It.c z := take_map_len _ _
@[go_sem] theorem take_ro3 (z : List V) : List.take z.length (List.map V.c z) = List.map V.c z := take_map_len _ _
theorem pr_leafy (p : Pr) : (⟨6, [p.c]⟩ : Ob).leafy := by simp [Ob.leafy, Pr.c, AV.leaf]
theorem tot_filter (p : List V → Bool) (z : List It) (r : List V) : tot r (z.filter fun t => p t.row) = if p r then tot r z else 0 := by
  induction z with
  | nil => simp [tot]
  | cons t z ih =>
    by_cases h : p t.row = true
    · rw [List.filter_cons_of_pos (by simpa using h)]
      simp only [tot, ih]
      by_cases e : cmpR t.row r = 0
      · have e := lin_cmpR.eq _ _ e
        subst e
        simp [h]
      · simp [e]
    · rw [List.filter_cons_of_neg (by simpa using h), ih]
      simp only [tot]
      by_cases e : cmpR t.row r = 0
      · have e := lin_cmpR.eq _ _ e
        subst e
        simp [h]
      · simp [e]
theorem made_filter {z : List It} (h : Made z) (f : It → Bool) : Made (z.filter f) := ⟨h.pw.filter _, fun t ht => h.nz t (List.mem_filter.1 ht).1⟩
theorem Sm.filt {z : List It} {k : Nat} (h : Sm z k) (p : List V → Bool) : Sm (z.filter fun t => p t.row) k :=
  ⟨made_filter h.made _, fun t ht => h.rows t (List.mem_filter.1 ht).1, Nat.le_trans (List.length_filter_le _ _) h.len, fun r => by
    rw [tot_filter]; have := h.tot r; split <;> omega⟩
theorem Sm.mono {z : List It} {k j : Nat} (h : Sm z k) (hk : k ≤ j) : Sm z j := ⟨h.made, h.rows, by have := h.len; omega, fun r => by have := h.tot r; omega⟩
theorem Sm.nil (k : Nat) : Sm [] k := ⟨⟨.nil, by simp⟩, by simp, by simp, fun r => by simp [Yt.tot]; omega⟩
theorem Sm.r40 {z : List It} {k : Nat} (h : Sm z k) : ∀ t ∈ z, t.row.length < 1073741824 := fun t ht => by have := (h.rows t ht).2; omega
theorem Sm.r62 {z : List It} {k : Nat} (h : Sm z k) : ∀ t ∈ z, t.row.length < 4611686018427387904 := fun t ht => by have := (h.rows t ht).2; omega
theorem filt_ok {z out : List It} {err : Int} {f : It → Bool} (hg : Good z) (h : (¬ Good z ∧ out = [] ∧ err = 1) ∨ (Good z ∧ out = z.filter f ∧ err = 0)) : err = 0 ∧ out = z.filter f := by
  rcases h with ⟨h, _⟩ | ⟨_, h1, h2⟩
  · exact absurd hg h
  · exact ⟨h2, h1⟩
theorem neg_ok {z out : List It} {err : Int} (hg : Good z) (h : (¬ Good z ∧ out = [] ∧ err = 1) ∨ (Good z ∧ out = z.map negI ∧ err = 0)) : err = 0 ∧ out = z.map negI := by
  rcases h with ⟨h, _⟩ | ⟨_, h1, h2⟩
  · exact absurd hg h
  · exact ⟨h2, h1⟩
theorem sumW_bound {z : List It} {k : Int} (hk : 0 ≤ k) (h : ∀ t ∈ z, -k ≤ t.w ∧ t.w ≤ k) : -(k * z.length) ≤ sumW z ∧ sumW z ≤ k * z.length := by
  induction z with
  | nil => simp [sumW]
  | cons t z ih =>
    have h1 := h t (by simp)
    have h2 := ih fun u hu => h u (by simp [hu])
    have e : k * ((t :: z).length : Int) = k + k * (z.length : Int) := by
      rw [List.length_cons, Int.natCast_add, Int.mul_add]; omega
    rw [e]
    simp only [sumW]
    omega
theorem sumW_take {z : List It} {k : Int} (hk : 0 ≤ k) (h : ∀ t ∈ z, -k ≤ t.w ∧ t.w ≤ k) (i : Nat) : -(k * z.length) ≤ sumW (z.take i) ∧ sumW (z.take i) ≤ k * z.length := by
  have h1 := sumW_bound hk (z := z.take i) fun t ht => h t (List.mem_of_mem_take ht)
  have h2 : k * ((z.take i).length : Int) ≤ k * z.length := Int.mul_le_mul_of_nonneg_left (by simp; omega) hk
  omega
theorem sumW_succ {z : List It} {i : Nat} (h : i < z.length) : sumW (z.take (i + 1)) = sumW (z.take i) + z[i].w := by
  rw [List.take_succ_eq_append_getElem h, sumW_append]; simp [sumW]
theorem Sm.min {x y out : List It} {i j : Nat} {err : Int} (hx : Sm x i) (hy : Sm y j) (hij : i + j ≤ 100) (h : MinR x y out err) : err = 0 ∧ Sm out (i + j) ∧ ∀ r, Yt.tot r out = Yt.tot r x - Yt.tot r y := by
  have h2 : AddR x (y.map negI) out err := by
    rcases h with ⟨h, _⟩ | ⟨_, _, h⟩
    · exact absurd ⟨hx.good, hy.good⟩ h
    · exact .inr ⟨hx.good, hy.neg.good, h⟩
  obtain ⟨a, b, c⟩ := hx.add hy.neg hij h2
  exact ⟨a, b, fun r => by rw [c, tot_neg]; omega⟩
theorem Sm.eq {x y : List It} {i j : Nat} (hx : Sm x i) (hy : Sm y j) (h : ∀ r, Yt.tot r x = Yt.tot r y) : x = y := made_eq hx.made hy.made h
theorem Sm.w {z : List It} {k : Nat} (h : Sm z k) : ∀ t ∈ z, -(356400 * (k : Int)) ≤ t.w ∧ t.w ≤ 356400 * k := fun t ht => by
  rw [← tot_made h.made ht]; exact h.tot _
theorem Sm.mul {z : List It} {k : Nat} (h : Sm z k) (n : Nat) (hn : 0 < n) (hk : n * k ≤ 1000) : Sm (z.map (mulI n)) (n * k) := by
  refine ⟨made_mul (by omega) h.made fun t ht => ?_, fun t ht => by obtain ⟨u, hu, rfl⟩ := List.mem_map.1 ht; exact h.rows u hu, ?_, fun r => ?_⟩
  · have h1 := h.w t ht
    have h2 : (n : Int) * t.w ≤ n * (356400 * k) := Int.mul_le_mul_of_nonneg_left h1.2 (by omega)
    have h3 : (n : Int) * (-(356400 * k)) ≤ n * t.w := Int.mul_le_mul_of_nonneg_left h1.1 (by omega)
    have e : (n : Int) * (356400 * k) = 356400 * ((n * k : Nat) : Int) := by rw [Int.natCast_mul, ← Int.mul_assoc, ← Int.mul_assoc, Int.mul_comm (n : Int) 356400]
    rw [Int.mul_neg, e] at h3
    rw [e] at h2
    simp only [okW, inB, Bool.and_eq_true, decide_eq_true_eq]; omega
  · rw [List.length_map]
    have := Nat.le_mul_of_pos_left k hn
    have := h.len
    have : 60 * k ≤ 60 * (n * k) := by omega
    omega
  · rw [tot_mul]
    have h1 := h.tot r
    have h2 : (n : Int) * Yt.tot r z ≤ n * (356400 * k) := Int.mul_le_mul_of_nonneg_left h1.2 (by omega)
    have h3 : (n : Int) * (-(356400 * k)) ≤ n * Yt.tot r z := Int.mul_le_mul_of_nonneg_left h1.1 (by omega)
    have e : (n : Int) * (356400 * k) = 356400 * ((n * k : Nat) : Int) := by rw [Int.natCast_mul, ← Int.mul_assoc, ← Int.mul_assoc, Int.mul_comm (n : Int) 356400]
    rw [Int.mul_neg, e] at h3
    rw [e] at h2
    exact ⟨h3, h2⟩
end Yt
namespace Yt
open Go Go.Vc Go.Proofs
set_option maxRecDepth 10000
set_option maxHeartbeats 8000000
set_option linter.unusedSimpArgs false
set_option linter.unusedVariables false
theorem c10 (l : List It) (p q : Pr) (hl : l.length < 4611686018427387904) (hr : ∀ t ∈ l, t.row.length < 4611686018427387904) :
    Spec0 Try.prog 10 [setA l, .ag p.c, .ag q.c] (· = bA true) := by
  refine spec0_of_vc tabOk elems ord10 Try.func10 rfl (rl := [.tmp 6]) rfl (by kernel_rfl) rfl ?_
  simp -implicitDefEqProofs only [go_sem, setA, Pr.c]
  refine .lendTo (s10 [l] (by simp) (by simpa using hl) (by simpa using hr)) ?_ (by rintro _ rfl; rfl) fun r hq => ?_
  · (simp -implicitDefEqProofs only [go_sem, setsA, setA]; repeat (refine GO ?_; simp -implicitDefEqProofs only [go_sem, setsA, setA]))
    rfl
  subst hq
  (simp -implicitDefEqProofs only [go_sem, bA]; repeat (refine GO ?_; simp -implicitDefEqProofs only [go_sem, bA]))
  refine VIF.split (fun hb => ?_) (fun hb => ?_)
  · (simp -implicitDefEqProofs only [go_sem, bA]; repeat (refine GO ?_; simp -implicitDefEqProofs only [go_sem, bA]))
  have hb : heavyS l = false := by simpa [List.any_cons] using hb
  obtain ⟨hl0, hr0⟩ := not_heavyS hb
  simp -implicitDefEqProofs only [go_sem]
  refine .lendTo (s50 [p.val, q.val] (by simp)) ?_ (by rintro _ rfl; rfl) fun r hq => ?_
  · (simp -implicitDefEqProofs only [go_sem, rowA]; repeat (refine GO ?_; simp -implicitDefEqProofs only [go_sem, rowA]))
    rfl
  subst hq
  simp -implicitDefEqProofs only [go_sem, bA]
  refine VIF.split (fun _ => ?_) (fun _ => ?_)
  · (simp -implicitDefEqProofs only [go_sem, bA]; repeat (refine GO ?_; simp -implicitDefEqProofs only [go_sem, bA]))
  simp -implicitDefEqProofs only [go_sem]
  refine TO [] [(0, setA l), (4, .ro p.c 0), (5, .ro q.c 0), (6, bA false)] [] [] rfl ?_ ?_
  · (simp -implicitDefEqProofs only [go_sem, setA, bA]; repeat (refine GO ?_; simp -implicitDefEqProofs only [go_sem, setA, bA]))
    exact ⟨id, ⟨by decide, _, rfl, pr_leafy p, rfl⟩, ⟨by decide, _, rfl, pr_leafy q, rfl⟩⟩
  (simp -implicitDefEqProofs only [go_sem, setA, bA]; repeat (refine GO ?_; simp -implicitDefEqProofs only [go_sem, setA, bA]))
  refine .make 32 _ (s24 l (by omega) (fun t ht => by have := hr0 t ht; omega)) rfl (by simp) rfl fun r o hq _ => ?_
  obtain ⟨a, rfl, rfl, ta⟩ := hq
  have sa := ta.sm hr0
  have la := sa.len
  simp -implicitDefEqProofs only [go_sem, Pr.c, iA]
  refine FRZ 32 (so a) rfl (so_leafy a) ?_
  simp -implicitDefEqProofs only [go_sem, so]
  refine .make 36 _ (show Spec1 Try.prog 51 [setA a, .ag p.c] _ from c51 a p (by omega) sa.r40) rfl (by simp) rfl fun r o hq _ => ?_
  obtain ⟨x, e, rfl, rfl, hx⟩ := hq
  obtain ⟨rfl, rfl⟩ := filt_ok sa.good hx
  have sx := sa.filt (holdsP p)
  have lx := sx.len
  generalize hx' : (a.filter fun t => holdsP p t.row) = x at *
  simp -implicitDefEqProofs only [go_sem, iA]
  refine FRZ 36 (so x) rfl (so_leafy x) ?_
  simp -implicitDefEqProofs only [go_sem, so]
  refine .make 42 _ (show Spec1 Try.prog 51 [setA x, .ag p.c] _ from c51 x p (by omega) sx.r40) rfl (by simp) rfl fun r o hq _ => ?_
  obtain ⟨y, e, rfl, rfl, hy⟩ := hq
  obtain ⟨rfl, rfl⟩ := filt_ok sx.good hy
  have hxy : (x.filter fun t => holdsP p t.row) = x := by rw [← hx', List.filter_filter]; simp
  rw [hxy]
  simp -implicitDefEqProofs only [go_sem, iA]
  refine FRZ 42 (so x) rfl (so_leafy x) ?_
  simp -implicitDefEqProofs only [go_sem, so]
  refine .make 48 _ (show Spec1 Try.prog 51 [setA x, .ag q.c] _ from c51 x q (by omega) sx.r40) rfl (by simp) rfl fun r o hq _ => ?_
  obtain ⟨z, e, rfl, rfl, hz⟩ := hq
  obtain ⟨rfl, rfl⟩ := filt_ok sx.good hz
  have sz := sx.filt (holdsP q)
  have lz := sz.len
  generalize hz' : (x.filter fun t => holdsP q t.row) = z at *
  simp -implicitDefEqProofs only [go_sem, iA]
  refine FRZ 48 (so z) rfl (so_leafy z) ?_
  simp -implicitDefEqProofs only [go_sem, so]
  refine .make 54 _ (show Spec1 Try.prog 51 [setA a, .ag q.c] _ from c51 a q (by omega) sa.r40) rfl (by simp) rfl fun r o hq _ => ?_
  obtain ⟨u, e, rfl, rfl, hu⟩ := hq
  obtain ⟨rfl, rfl⟩ := filt_ok sa.good hu
  have su := sa.filt (holdsP q)
  have lu := su.len
  generalize hu' : (a.filter fun t => holdsP q t.row) = u at *
  simp -implicitDefEqProofs only [go_sem, iA]
  refine FRZ 54 (so u) rfl (so_leafy u) ?_
  simp -implicitDefEqProofs only [go_sem, so]
  refine .make 60 _ (show Spec1 Try.prog 51 [setA u, .ag p.c] _ from c51 u p (by omega) su.r40) rfl (by simp) rfl fun r o hq _ => ?_
  obtain ⟨v, e, rfl, rfl, hv⟩ := hq
  obtain ⟨rfl, rfl⟩ := filt_ok su.good hv
  have hvz : (u.filter fun t => holdsP p t.row) = z := by rw [← hz', ← hx', ← hu', List.filter_filter, List.filter_filter]; congr 1; funext t; exact Bool.and_comm _ _
  rw [hvz]
  (simp -implicitDefEqProofs only [go_sem, iA]; repeat (refine GO ?_; simp -implicitDefEqProofs only [go_sem, iA]))
  refine VIF.split (fun h => absurd h (by decide)) (fun _ => ?_)
  (simp -implicitDefEqProofs only [go_sem]; repeat (refine GO ?_; simp -implicitDefEqProofs only [go_sem]))
  refine VIF.split (fun h => absurd h (by decide)) (fun _ => ?_)
  (simp -implicitDefEqProofs only [go_sem]; repeat (refine GO ?_; simp -implicitDefEqProofs only [go_sem]))
  refine VIF.split (fun h => absurd h (by decide)) (fun _ => ?_)
  (simp -implicitDefEqProofs only [go_sem]; repeat (refine GO ?_; simp -implicitDefEqProofs only [go_sem]))
  refine VIF.split (fun h => absurd h (by decide)) (fun _ => ?_)
  (simp -implicitDefEqProofs only [go_sem]; repeat (refine GO ?_; simp -implicitDefEqProofs only [go_sem]))
  refine VIF.split (fun h => absurd h (by decide)) (fun _ => ?_)
  (simp -implicitDefEqProofs only [go_sem]; repeat (refine GO ?_; simp -implicitDefEqProofs only [go_sem]))
  refine .pure _ (s18 x x (by omega) (by omega) sx.r62) rfl fun r hq _ => ?_
  obtain ⟨e1, rfl, h1⟩ := hq
  have h1 := h1.2 rfl
  subst h1
  (simp -implicitDefEqProofs only [go_sem, bA]; repeat (refine GO ?_; simp -implicitDefEqProofs only [go_sem, bA]))
  refine .lendTo (s18 z z (by omega) (by omega) sz.r62) ?_ (by rintro _ ⟨e, rfl, _⟩; rfl) fun r hq => ?_
  · (simp -implicitDefEqProofs only [go_sem, setA, so]; repeat (refine GO ?_; simp -implicitDefEqProofs only [go_sem, setA, so]))
    exact so_leafs z
  obtain ⟨e2, rfl, h2⟩ := hq
  have h2 := h2.2 rfl
  subst h2
  (simp -implicitDefEqProofs only [go_sem, bA]; repeat (refine GO ?_; simp -implicitDefEqProofs only [go_sem, bA]))
  have hsm := sumW_take (k := 5940) (by decide) ta.small
  refine LOOP.mk (ι := { i : Nat // i ≤ a.length }) (fun p => mkS [(0, setA a), (17, iA (sumW (a.take p.1))), (18, iA p.1)] [] []) (fun p => a.length - p.1) ⟨0, Nat.zero_le _⟩ [] rfl rfl ?_ (fun p => ?_)
  · (simp -implicitDefEqProofs only [go_sem, setA, iA]; repeat (refine GO ?_; simp -implicitDefEqProofs only [go_sem, setA, iA]))
    exact ⟨id, rfl, rfl⟩
  · obtain ⟨i, hi⟩ := p
    (simp -implicitDefEqProofs only [go_sem, setA, iA]; repeat (refine GO ?_; simp -implicitDefEqProofs only [go_sem, setA, iA]))
    refine VIF.split (fun h1 => ?_) (fun h1 => ?_)
    · have h1 : i < a.length := by simpa using h1
      have w1 := wrap_add1 (show i < 4611686018427387904 by omega)
      have w2 : IntKind.i64.wrap (sumW (a.take i) + a[i].w) = sumW (a.take (i + 1)) := by
        rw [← sumW_succ h1]; have := hsm (i + 1); rw [wrap_i64] <;> omega
      (simp -implicitDefEqProofs only [go_sem]; repeat (refine GO ?_; simp -implicitDefEqProofs only [go_sem]))
      refine EL.map h1 ?_
      (simp -implicitDefEqProofs only [go_sem, It.c, iA, w1, w2]; repeat (refine GO ?_; simp -implicitDefEqProofs only [go_sem, It.c, iA, w1, w2]))
      refine BACK.mk ⟨i + 1, by omega⟩ [] rfl rfl (by show a.length - (i + 1) < a.length - i; omega) ?_
      (simp -implicitDefEqProofs only [go_sem, setA, iA]; repeat (refine GO ?_; simp -implicitDefEqProofs only [go_sem, setA, iA]))
      exact id
    · have h1 : i = a.length := by simp at h1; omega
      subst h1
      rw [List.take_length]
      have hs := hsm a.length
      rw [List.take_length] at hs
      have hok : okW (sumW a) = true := by simp only [okW, inB, Bool.and_eq_true, decide_eq_true_eq]; omega
      (simp -implicitDefEqProofs only [go_sem, setA]; repeat (refine GO ?_; simp -implicitDefEqProofs only [go_sem, setA]))
      refine .make 108 _ (spec1_nls (c49 a [] (by omega) sa.r40 (by decide)) (l' := [setA a, .nl]) ⟨.inl rfl, .inr ⟨rfl, 1, rfl⟩, trivial⟩) rfl (by simp) rfl fun r o hq _ => ?_
      obtain ⟨n, err, rfl, rfl, hn⟩ := hq
      obtain ⟨rfl, rfl⟩ := proj_nil sa.good hok hn
      simp -implicitDefEqProofs only [go_sem, iA]
      by_cases h0 : sumW a = 0
      · rw [if_pos h0]
        (simp -implicitDefEqProofs only [go_sem, so, h0]; repeat (refine GO ?_; simp -implicitDefEqProofs only [go_sem, so, h0]))
        repeat (refine VIF.split (fun _ => ?_) (fun h => absurd h (by decide)); (simp -implicitDefEqProofs only [go_sem]; repeat (refine GO ?_; simp -implicitDefEqProofs only [go_sem])))
        refine .pure _ c52 rfl fun r hq _ => ?_
        subst hq
        (simp -implicitDefEqProofs only [go_sem, bA]; repeat (refine GO ?_; simp -implicitDefEqProofs only [go_sem, bA]))
      · rw [if_neg h0]
        (simp -implicitDefEqProofs only [go_sem, so, h0]; repeat (refine GO ?_; simp -implicitDefEqProofs only [go_sem, so, h0]))
        refine VIF.split (fun h => absurd h (by decide)) (fun _ => ?_)
        (simp -implicitDefEqProofs only [go_sem, so]; repeat (refine GO ?_; simp -implicitDefEqProofs only [go_sem, so]))
        repeat (refine VIF.split (fun _ => ?_) (fun h => absurd h (by decide)); (simp -implicitDefEqProofs only [go_sem, so]; repeat (refine GO ?_; simp -implicitDefEqProofs only [go_sem, so])))
        refine ⟨by decide, EL.map (l := [(⟨[], sumW a⟩ : It)]) (i := 0) (by simp) ?_⟩
        (simp -implicitDefEqProofs only [go_sem, It.c, iA, rowA, so]; repeat (refine GO ?_; simp -implicitDefEqProofs only [go_sem, It.c, iA, rowA, so]))
        refine VIF.split (fun _ => ?_) (fun h => absurd h (by simp))
        (simp -implicitDefEqProofs only [go_sem, so]; repeat (refine GO ?_; simp -implicitDefEqProofs only [go_sem, so]))
        refine ⟨by decide, EL.map (l := [(⟨[], sumW a⟩ : It)]) (i := 0) (by simp) ?_⟩
        (simp -implicitDefEqProofs only [go_sem, It.c, iA]; repeat (refine GO ?_; simp -implicitDefEqProofs only [go_sem, It.c, iA]))
        refine VIF.split (fun _ => ?_) (fun h => absurd h (by simp))
        (simp -implicitDefEqProofs only [go_sem]; repeat (refine GO ?_; simp -implicitDefEqProofs only [go_sem]))
        refine .pure _ c52 rfl fun r hq _ => ?_
        subst hq
        (simp -implicitDefEqProofs only [go_sem, bA]; repeat (refine GO ?_; simp -implicitDefEqProofs only [go_sem, bA]))
end Yt
namespace Yt
open Go Go.Vc Go.Proofs
set_option maxRecDepth 10000
set_option maxHeartbeats 8000000
set_option linter.unusedSimpArgs false
set_option linter.unusedVariables false
theorem c14 (l0 l1 : List It) (hl : ∀ l ∈ [l0, l1], l.length < 4611686018427387904) (hr : ∀ l ∈ [l0, l1], ∀ t ∈ l, t.row.length < 4611686018427387904) :
    Spec0 Try.prog 14 [setA l0, setA l1] (· = bA true) := by
  refine spec0_of_vc tabOk elems ord14 Try.func14 rfl (rl := [.tmp 4]) rfl (by kernel_rfl) rfl ?_
  (simp -implicitDefEqProofs only [go_sem, setA]; repeat (refine GO ?_; simp -implicitDefEqProofs only [go_sem, setA]))
  refine .lendTo (s10 [l0, l1] (by simp) hl hr) ?_ (by rintro _ rfl; rfl) fun r hq => ?_
  · (simp -implicitDefEqProofs only [go_sem, setsA, setA]; repeat (refine GO ?_; simp -implicitDefEqProofs only [go_sem, setsA, setA]))
    rfl
  subst hq
  (simp -implicitDefEqProofs only [go_sem, bA]; repeat (refine GO ?_; simp -implicitDefEqProofs only [go_sem, bA]))
  refine VIF.split (fun hb => ?_) (fun hb => ?_)
  · (simp -implicitDefEqProofs only [go_sem, bA]; repeat (refine GO ?_; simp -implicitDefEqProofs only [go_sem, bA]))
  have hb : heavyS l0 = false ∧ heavyS l1 = false := by simpa [List.any_cons] using hb
  obtain ⟨hl0, hr0⟩ := not_heavyS hb.1
  obtain ⟨hl1, hr1⟩ := not_heavyS hb.2
  simp -implicitDefEqProofs only [go_sem]
  refine TO [] [(0, setA l0), (1, setA l1)] [] [] rfl ?_ ?_
  · (simp -implicitDefEqProofs only [go_sem, setA]; repeat (refine GO ?_; simp -implicitDefEqProofs only [go_sem, setA]))
    exact id
  (simp -implicitDefEqProofs only [go_sem, setA]; repeat (refine GO ?_; simp -implicitDefEqProofs only [go_sem, setA]))
  refine .make 25 _ (s24 l0 (by omega) (fun t ht => by have := hr0 t ht; omega)) rfl (by simp) rfl fun r o hq _ => ?_
  obtain ⟨a, rfl, rfl, ta⟩ := hq
  have sa := ta.sm hr0
  have la := sa.len
  simp -implicitDefEqProofs only [go_sem]
  refine FRZ 25 (so a) rfl (so_leafy a) ?_
  simp -implicitDefEqProofs only [go_sem, so]
  refine .make 27 _ (s24 l1 (by omega) (fun t ht => by have := hr1 t ht; omega)) rfl (by simp) rfl fun r o hq _ => ?_
  obtain ⟨b, rfl, rfl, tb⟩ := hq
  have sb := tb.sm hr1
  have lb := sb.len
  simp -implicitDefEqProofs only [go_sem]
  refine FRZ 27 (so b) rfl (so_leafy b) ?_
  simp -implicitDefEqProofs only [go_sem, so]
  refine .make 31 _ (c55 a a (by omega) sa.r40 sa.r40) rfl (by simp) rfl fun r o hq _ => ?_
  obtain ⟨x, e, rfl, rfl, hx⟩ := hq
  obtain ⟨rfl, sx, tx⟩ := sa.min sa (by omega) hx
  obtain rfl : x = [] := sx.eq (Sm.nil 0) fun r => by rw [tx]; simp [tot]
  simp -implicitDefEqProofs only [go_sem, iA]
  refine FRZ 31 (so []) rfl (so_leafy []) ?_
  simp -implicitDefEqProofs only [go_sem, so]
  refine .make 36 _ (spec1_nls (c55 a [] (by simp; omega) sa.r40 (by simp)) (l' := [setA a, .nl]) ⟨.inl rfl, .inr ⟨rfl, 2, rfl⟩, trivial⟩) rfl (by simp) rfl fun r o hq _ => ?_
  obtain ⟨y, e, rfl, rfl, hy⟩ := hq
  obtain ⟨rfl, sy, ty⟩ := sa.min (Sm.nil 0) (by omega) hy
  obtain rfl : a = y := sa.eq sy fun r => by rw [ty]; simp [tot]
  simp -implicitDefEqProofs only [go_sem, iA]
  refine FRZ 36 (so a) rfl (so_leafy a) ?_
  simp -implicitDefEqProofs only [go_sem, so]
  refine .make 41 _ (spec1_nls (c55 [] a (by simp; omega) (by simp) sa.r40) (l' := [.nl, setA a]) ⟨.inr ⟨rfl, 2, rfl⟩, .inl rfl, trivial⟩) rfl (by simp) rfl fun r o hq _ => ?_
  obtain ⟨z, e, rfl, rfl, hz⟩ := hq
  obtain ⟨rfl, sz, tz⟩ := (Sm.nil 0).min sa (by omega) hz
  have lz := sz.len
  simp -implicitDefEqProofs only [go_sem, iA]
  refine FRZ 41 (so z) rfl (so_leafy z) ?_
  simp -implicitDefEqProofs only [go_sem, so]
  refine .make 46 _ (s31 a (by omega) sa.r40) rfl (by simp) rfl fun r o hq _ => ?_
  obtain ⟨n, e, rfl, rfl, hn⟩ := hq
  obtain ⟨rfl, rfl⟩ := neg_ok sa.good hn
  obtain rfl : z = a.map negI := sz.eq sa.neg fun r => by rw [tz, tot_neg]; simp [tot]
  generalize hz' : a.map negI = z at *
  simp -implicitDefEqProofs only [go_sem, iA]
  refine FRZ 46 (so z) rfl (so_leafy z) ?_
  simp -implicitDefEqProofs only [go_sem, so]
  refine .make 52 _ (c55 a b (by omega) sa.r40 sb.r40) rfl (by simp) rfl fun r o hq _ => ?_
  obtain ⟨d, e, rfl, rfl, hd⟩ := hq
  obtain ⟨rfl, sd, td⟩ := sa.min sb (by omega) hd
  have ld := sd.len
  simp -implicitDefEqProofs only [go_sem, iA]
  refine FRZ 52 (so d) rfl (so_leafy d) ?_
  simp -implicitDefEqProofs only [go_sem, so]
  refine .make 58 _ (c54 d b (by omega) sd.r40 sb.r40) rfl (by simp) rfl fun r o hq _ => ?_
  obtain ⟨s, e, rfl, rfl, hs⟩ := hq
  obtain ⟨rfl, ss, ts⟩ := sd.add sb (by omega) hs
  obtain rfl : a = s := sa.eq ss fun r => by rw [ts, td]; omega
  simp -implicitDefEqProofs only [go_sem, iA]
  refine FRZ 58 (so a) rfl (so_leafy a) ?_
  simp -implicitDefEqProofs only [go_sem, so]
  refine .make 64 _ (c54 a a (by omega) sa.r40 sa.r40) rfl (by simp) rfl fun r o hq _ => ?_
  obtain ⟨u, e, rfl, rfl, hu⟩ := hq
  obtain ⟨rfl, su, tu⟩ := sa.add sa (by omega) hu
  obtain rfl : u = a.map (mulI 2) := su.eq (sa.mul 2 (by omega) (by omega)) fun r => by rw [tu, tot_mul]; omega
  (simp -implicitDefEqProofs only [go_sem, iA]; repeat (refine GO ?_; simp -implicitDefEqProofs only [go_sem, iA]))
  repeat (refine VIF.split (fun h => absurd h (by decide)) (fun _ => ?_); (simp -implicitDefEqProofs only [go_sem]; repeat (refine GO ?_; simp -implicitDefEqProofs only [go_sem])))
  refine .pure _ (s18 a a (by omega) (by omega) sa.r62) rfl fun r hq _ => ?_
  obtain ⟨e1, rfl, h1⟩ := hq
  have h1 := h1.2 rfl
  subst h1
  (simp -implicitDefEqProofs only [go_sem, bA]; repeat (refine GO ?_; simp -implicitDefEqProofs only [go_sem, bA]))
  refine .pure _ (s18 z z (by omega) (by omega) sz.r62) rfl fun r hq _ => ?_
  obtain ⟨e1, rfl, h1⟩ := hq
  have h1 := h1.2 rfl
  subst h1
  (simp -implicitDefEqProofs only [go_sem, bA]; repeat (refine GO ?_; simp -implicitDefEqProofs only [go_sem, bA]))
  refine .pure _ (s18 a a (by omega) (by omega) sa.r62) rfl fun r hq _ => ?_
  obtain ⟨e1, rfl, h1⟩ := hq
  have h1 := h1.2 rfl
  subst h1
  (simp -implicitDefEqProofs only [go_sem, bA, List.length_map]; repeat (refine GO ?_; simp -implicitDefEqProofs only [go_sem, bA, List.length_map]))
  refine VIF.split (fun h => absurd h (by simp)) (fun _ => ?_)
  (simp -implicitDefEqProofs only [go_sem]; repeat (refine GO ?_; simp -implicitDefEqProofs only [go_sem]))
  refine LOOP.mk (ι := { i : Nat // i ≤ a.length }) (fun p => mkS [(0, setA a), (17, setA (a.map (mulI 2))), (19, iA p.1)] [] []) (fun p => a.length - p.1) ⟨0, Nat.zero_le _⟩ [] rfl rfl ?_ (fun p => ?_)
  · (simp -implicitDefEqProofs only [go_sem, setA, iA, so]; repeat (refine GO ?_; simp -implicitDefEqProofs only [go_sem, setA, iA, so]))
    refine ⟨id, ⟨by simp [olds], _, rfl, so_leafy _, rfl, ?_⟩, rfl⟩
    rw [List.take_of_length_le (by simp)]
  · obtain ⟨i, hi⟩ := p
    (simp -implicitDefEqProofs only [go_sem, setA, iA]; repeat (refine GO ?_; simp -implicitDefEqProofs only [go_sem, setA, iA]))
    refine VIF.split (fun h1 => ?_) (fun h1 => ?_)
    · have h1 : i < a.length := by simpa using h1
      have w1 := wrap_add1 (show i < 4611686018427387904 by omega)
      have w2 : IntKind.i64.wrap (2 * a[i].w) = 2 * a[i].w := by have := sa.w _ (List.getElem_mem h1); rw [wrap_i64] <;> omega
      (simp -implicitDefEqProofs only [go_sem]; repeat (refine GO ?_; simp -implicitDefEqProofs only [go_sem]))
      refine EL.map (l := a.map (mulI 2)) (i := i) (by simpa using h1) ?_
      (simp -implicitDefEqProofs only [go_sem, It.c, iA]; repeat (refine GO ?_; simp -implicitDefEqProofs only [go_sem, It.c, iA]))
      refine EL.map h1 ?_
      (simp -implicitDefEqProofs only [go_sem, It.c, iA, w2, List.getElem_map, mulI]; repeat (refine GO ?_; simp -implicitDefEqProofs only [go_sem, It.c, iA, w2, List.getElem_map, mulI]))
      refine VIF.split (fun h => absurd h (by simp)) (fun _ => ?_)
      (simp -implicitDefEqProofs only [go_sem, w1]; repeat (refine GO ?_; simp -implicitDefEqProofs only [go_sem, w1]))
      refine BACK.mk ⟨i + 1, by omega⟩ [] rfl rfl (by show a.length - (i + 1) < a.length - i; omega) ?_
      (simp -implicitDefEqProofs only [go_sem, setA, iA]; repeat (refine GO ?_; simp -implicitDefEqProofs only [go_sem, setA, iA]))
      exact id
    · have h1 : i = a.length := by simp at h1; omega
      subst h1
      (simp -implicitDefEqProofs only [go_sem]; repeat (refine GO ?_; simp -implicitDefEqProofs only [go_sem]))
      refine .pure _ c52 rfl fun r hq _ => ?_
      subst hq
      (simp -implicitDefEqProofs only [go_sem, bA]; repeat (refine GO ?_; simp -implicitDefEqProofs only [go_sem, bA]))
end Yt
namespace Yt
open Go Go.Vc Go.Proofs
set_option maxRecDepth 10000
set_option maxHeartbeats 8000000
set_option linter.unusedSimpArgs false
set_option linter.unusedVariables false
theorem pick_in {r : List V} {cols : List Int} (h : pickE r cols = 0) : cols.length ≤ 12 ∧ ∀ c ∈ cols, 0 ≤ c ∧ c < r.length := by
  simp only [pickE] at h
  split at h
  · cases h
  · rename_i h1
    split at h
    · cases h
    · refine ⟨by omega, fun c hc => ?_⟩
      have h1 : cols.any (outC r.length) = false := by simpa using h1
      rw [List.any_eq_false] at h1
      have := h1 c hc
      simp [outC] at this
      omega
theorem pick_row {r : List V} {cols : List Int} (h : pickE r cols = 0) (hr : okR r = 0) : okR (pickR r cols) = 0 ∧ (pickR r cols).length ≤ 12 := by
  obtain ⟨h1, h2⟩ := pick_in h
  have hl : (pickR r cols).length = cols.length := by simp [pickR]
  have ha : (pickR r cols).all okV = true := by
    rw [List.all_eq_true]
    intro v hv
    obtain ⟨c, hc, rfl⟩ := List.mem_map.1 hv
    obtain ⟨g1, g2⟩ := h2 c hc
    have hlt : c.toNat < r.length := by omega
    have e : getV r c = r[c.toNat] := by simp [getV, hlt]
    rw [e]
    simp only [okR] at hr
    split at hr
    · cases hr
    · split at hr
      · rename_i h3
        exact List.all_eq_true.1 h3 _ (List.getElem_mem _)
      · cases hr
  refine ⟨?_, by omega⟩
  rw [okR, if_neg (by omega), if_pos ha]
theorem tot_proj (cols : List Int) (z : List It) (r : List V) : tot r (z.map (projI cols)) = sumW (z.filter fun t => decide (cmpR (pickR t.row cols) r = 0)) := by
  induction z with
  | nil => simp [tot, sumW]
  | cons t z ih =>
    simp only [List.map_cons, tot, ih]
    have e : (projI cols t).row = pickR t.row cols := rfl
    have e2 : (projI cols t).w = t.w := rfl
    rw [e, e2]
    by_cases h : cmpR (pickR t.row cols) r = 0
    · rw [List.filter_cons_of_pos (by simpa using h)]
      simp [sumW, h]
    · rw [List.filter_cons_of_neg (by simpa using h)]
      simp [h]
theorem proj_tot {x y : List It} (h : ∀ r, tot r x = tot r y) (cols : List Int) (r : List V) : tot r (x.map (projI cols)) = tot r (y.map (projI cols)) := by
  rw [tot_proj, tot_proj]
  exact sum_tot _ _ _ (Nat.le_refl _) fun q => by
    rw [tot_filter (fun q => decide (cmpR (pickR q cols) r = 0)), tot_filter (fun q => decide (cmpR (pickR q cols) r = 0)), h]
theorem ProjR.ok {z out : List It} {k j : Nat} {cols : List Int} {err : Int} (h : Sm z k) (hb : ∀ r, -(356400 * (j : Int)) ≤ Yt.tot r (z.map (projI cols)) ∧ Yt.tot r (z.map (projI cols)) ≤ 356400 * j) (hk : k ≤ j) (hj : j ≤ 1000)
    (hp : ProjR z cols out err) : (err = 0 ∧ (∀ t ∈ z, pickE t.row cols = 0) ∧ Sm out j ∧ ∀ r, Yt.tot r out = Yt.tot r (z.map (projI cols))) ∨ (err ≠ 0 ∧ out = [] ∧ ∃ t ∈ z, pickE t.row cols = err) := by
  rcases hp with ⟨hn, _⟩ | ⟨_, ht, he, ho⟩ | ⟨_, ht, hm⟩
  · exact absurd h.good hn
  · exact .inr ⟨he, ho, ht⟩
  · refine .inl ?_
    obtain ⟨h1, h2, h3, h4, h5⟩ := makeR_fine hm (by
      rw [List.any_eq_false]; intro t hv
      obtain ⟨u, hu, rfl⟩ := List.mem_map.1 hv
      have e1 := (pick_row (ht u hu) (h.rows u hu).1).1
      have e2 := (h.made.nz u hu).2
      simp [okI, projI, e1, e2]) fun r => by
        have := hb r
        simp only [okW, inB, Bool.and_eq_true, decide_eq_true_eq]; omega
    refine ⟨h1, ht, ⟨h2, fun t hu => ?_, ?_, fun r => by rw [h3]; exact hb r⟩, h3⟩
    · obtain ⟨g1, u, hu, e⟩ := h4 t hu
      obtain ⟨v, hv, rfl⟩ := List.mem_map.1 hu
      refine ⟨g1, ?_⟩
      rw [← e]
      have := (pick_row (ht v hv) (h.rows v hv).1).2
      have e3 : (projI cols v).row = pickR v.row cols := rfl
      rw [e3]; omega
    · have := h.len
      rw [List.length_map] at h5; omega
theorem proj_bound {z : List It} {j k : Nat} (h : ∀ t ∈ z, -(5940 * (j : Int)) ≤ t.w ∧ t.w ≤ 5940 * j) (hl : z.length ≤ 60 * k) (cols : List Int) (r : List V) :
    -(356400 * ((j * k : Nat) : Int)) ≤ tot r (z.map (projI cols)) ∧ tot r (z.map (projI cols)) ≤ 356400 * ((j * k : Nat) : Int) := by
  have h1 := tot_bound (z := z.map (projI cols)) (k := 5940 * (j : Int)) (by omega) (fun t ht => by obtain ⟨u, hu, rfl⟩ := List.mem_map.1 ht; exact h u hu) r
  rw [List.length_map] at h1
  have h2 : 5940 * (j : Int) * (z.length : Int) ≤ 5940 * (j : Int) * ((60 * k : Nat) : Int) := Int.mul_le_mul_of_nonneg_left (by omega) (by omega)
  have e : 5940 * (j : Int) * ((60 * k : Nat) : Int) = 356400 * ((j * k : Nat) : Int) := by
    rw [Int.natCast_mul, Int.natCast_mul, Int.mul_assoc, Int.mul_left_comm (j : Int), ← Int.mul_assoc]; rfl
  rw [e] at h2
  omega
theorem u64_nat {n : Nat} (h : n < 4611686018427387904) : IntKind.u64.wrap (n : Int) = n := by simp [IntKind.wrap, IntKind.signed, IntKind.bits]; omega
theorem u64_rem (x k : Int) (hk : 0 < k) (hk' : k ≤ 4611686018427387904) : ∃ o : Nat, (IntKind.u64.wrap x).tmod k = o ∧ (o : Int) < k ∧ IntKind.i64.wrap (o : Int) = o := by
  have h0 : 0 ≤ IntKind.u64.wrap x := by simp [IntKind.wrap, IntKind.signed, IntKind.bits]; omega
  have h5 := Int.tmod_eq_emod_of_nonneg (b := k) h0
  have h6 := Int.emod_nonneg (IntKind.u64.wrap x) (show k ≠ 0 by omega)
  have h7 := Int.emod_lt_of_pos (IntKind.u64.wrap x) hk
  refine ⟨((IntKind.u64.wrap x).tmod k).toNat, by omega, by omega, by rw [wrap_i64] <;> omega⟩
/-- What of the first k leads to r. -/
def sumP (cols : List Int) (r : List V) (a : List It) (k : Nat) : Int := sumW ((a.take k).filter fun t => decide (cmpR (pickR t.row cols) r = 0))
theorem sumP_in {cols : List Int} {r : List V} {a : List It} {k : Nat} (h : k < a.length) (e : pickR a[k].row cols = r) : sumP cols r a (k + 1) = sumP cols r a k + a[k].w := by
  simp only [sumP]
  rw [List.take_succ_eq_append_getElem h, List.filter_append, sumW_append]
  congr 1
  rw [List.filter_cons_of_pos (by simp [e, lin_cmpR.self])]
  simp [sumW]
theorem sumP_out {cols : List Int} {r : List V} {a : List It} {k : Nat} (h : k < a.length) (e : pickR a[k].row cols ≠ r) : sumP cols r a (k + 1) = sumP cols r a k := by
  simp only [sumP]
  rw [List.take_succ_eq_append_getElem h, List.filter_append]
  have e2 : ¬ cmpR (pickR a[k].row cols) r = 0 := fun h => e (lin_cmpR.eq _ _ h)
  rw [List.filter_cons_of_neg (by simp [e2])]
  simp
theorem sumP_bound {cols : List Int} {r : List V} {a : List It} {k : Nat} (h : ∀ t ∈ a, -5940 ≤ t.w ∧ t.w ≤ 5940) (hl : a.length ≤ 60) : -356400 ≤ sumP cols r a k ∧ sumP cols r a k ≤ 356400 := by
  have h1 := sumW_bound (k := 5940) (by decide) (z := (a.take k).filter fun t => decide (cmpR (pickR t.row cols) r = 0)) fun t ht => h t (List.mem_of_mem_take (List.mem_filter.1 ht).1)
  have h2 : ((a.take k).filter fun t => decide (cmpR (pickR t.row cols) r = 0)).length ≤ 60 := Nat.le_trans (List.length_filter_le _ _) (by simp; omega)
  simp only [sumP]
  omega
theorem sumP_all (cols : List Int) (r : List V) (a : List It) : sumP cols r a a.length = tot r (a.map (projI cols)) := by
  rw [sumP, List.take_length, tot_proj]
theorem ProjR.len {z out : List It} {cols : List Int} {err : Int} (h : ProjR z cols out err) : out.length ≤ z.length := by
  rcases h with ⟨_, rfl, _⟩ | ⟨_, _, _, rfl⟩ | ⟨_, _, h⟩
  · simp
  · simp
  · rcases h with ⟨_, rfl, _⟩ | ⟨_, rfl, _⟩ | ⟨_, _, _, _, _, h⟩
    · simp
    · simp
    · simpa using h
theorem sumW_proj (cols : List Int) (z : List It) : sumW (z.map (projI cols)) = sumW z := by
  induction z with
  | nil => rfl
  | cons t z ih => simp only [List.map_cons, sumW, ih]; rfl
end Yt
namespace Yt
open Go Go.Vc Go.Proofs
set_option maxRecDepth 10000
set_option maxHeartbeats 8000000
set_option linter.unusedSimpArgs false
set_option linter.unusedVariables false
theorem holds_pick {row : List V} {cols : List Int} {j : Nat} (v : V) (hj : j < cols.length) (h : pickE row cols = 0) : holdsP ⟨2, j, 0, v⟩ (pickR row cols) = holdsP ⟨2, cols[j], 0, v⟩ row := by
  obtain ⟨h1, h2⟩ := pick_in h
  obtain ⟨g1, g2⟩ := h2 _ (List.getElem_mem hj)
  have e : getV (pickR row cols) (j : Int) = getV row cols[j] := by
    simp [getV, pickR, hj]
  have e1 : inC (j : Int) ((pickR row cols).length : Int) = true := by simp [inC, pickR, hj]
  have e2 : inC cols[j] (row.length : Int) = true := by simp [inC]; omega
  simp [holdsP, e, e1, e2, otherP]
theorem c11 (l : List It) (cols : List Int) (k : Int) (v : V) (hl : l.length < 4611686018427387904) (hr : ∀ t ∈ l, t.row.length < 4611686018427387904) (hc : cols.length < 4611686018427387904) :
    Spec0 Try.prog 11 [setA l, intsL cols, iA k, .ag v.c] (· = bA true) := by
  refine spec0_of_vc tabOk elems ord11 Try.func11 rfl (rl := [.tmp 8]) rfl (by kernel_rfl) rfl ?_
  (simp -implicitDefEqProofs only [go_sem, setA, V.c, intsL, iA]; repeat (refine GO ?_; simp -implicitDefEqProofs only [go_sem, setA, V.c, intsL, iA]))
  refine .lendTo (s10 [l] (by simp) (by simpa using hl) (by simpa using hr)) ?_ (by rintro _ rfl; rfl) fun r hq => ?_
  · (simp -implicitDefEqProofs only [go_sem, setsA, setA]; repeat (refine GO ?_; simp -implicitDefEqProofs only [go_sem, setsA, setA]))
    rfl
  subst hq
  (simp -implicitDefEqProofs only [go_sem, bA]; repeat (refine GO ?_; simp -implicitDefEqProofs only [go_sem, bA]))
  refine VIF.split (fun hb => ?_) (fun hb => ?_)
  · (simp -implicitDefEqProofs only [go_sem, bA]; repeat (refine GO ?_; simp -implicitDefEqProofs only [go_sem, bA]))
  have hb : heavyS l = false := by simpa [List.any_cons] using hb
  obtain ⟨hl0, hr0⟩ := not_heavyS hb
  (simp -implicitDefEqProofs only [go_sem]; repeat (refine GO ?_; simp -implicitDefEqProofs only [go_sem]))
  refine VIF.split (fun h1 => ?_) (fun h1 => ?_)
  · (simp -implicitDefEqProofs only [go_sem, bA]; repeat (refine GO ?_; simp -implicitDefEqProofs only [go_sem, bA]))
  have h1 : cols.length ≠ 0 := by simpa using h1
  (simp -implicitDefEqProofs only [go_sem]; repeat (refine GO ?_; simp -implicitDefEqProofs only [go_sem]))
  refine VIF.split (fun h2 => ?_) (fun h2 => ?_)
  · (simp -implicitDefEqProofs only [go_sem, bA]; repeat (refine GO ?_; simp -implicitDefEqProofs only [go_sem, bA]))
  have h2 : cols.length ≤ 12 := by simp at h2; omega
  (simp -implicitDefEqProofs only [go_sem]; repeat (refine GO ?_; simp -implicitDefEqProofs only [go_sem]))
  refine .lendTo (s50 [v] (by simp)) ?_ (by rintro _ rfl; rfl) fun r hq => ?_
  · (simp -implicitDefEqProofs only [go_sem, rowA, V.c]; repeat (refine GO ?_; simp -implicitDefEqProofs only [go_sem, rowA, V.c]))
    rfl
  subst hq
  simp -implicitDefEqProofs only [go_sem, bA]
  refine VIF.split (fun _ => ?_) (fun _ => ?_)
  · (simp -implicitDefEqProofs only [go_sem, bA]; repeat (refine GO ?_; simp -implicitDefEqProofs only [go_sem, bA]))
  simp -implicitDefEqProofs only [go_sem]
  refine TO [] [(0, setA l), (1, intsL cols), (2, iA k), (7, .ro v.c 0)] [] [] rfl ?_ ?_
  · (simp -implicitDefEqProofs only [go_sem, setA, bA, intsL, iA, V.c]; repeat (refine GO ?_; simp -implicitDefEqProofs only [go_sem, setA, bA, intsL, iA, V.c]))
    exact ⟨id, by decide, _, rfl, by simp [Ob.leafy, AV.leaf], rfl⟩
  (simp -implicitDefEqProofs only [go_sem, setA, bA, intsL, iA]; repeat (refine GO ?_; simp -implicitDefEqProofs only [go_sem, setA, bA, intsL, iA]))
  refine .make 35 _ (s24 l (by omega) (fun t ht => by have := hr0 t ht; omega)) rfl (by simp) rfl fun r o hq _ => ?_
  obtain ⟨a, rfl, rfl, ta⟩ := hq
  have sa := ta.sm hr0
  have la := sa.len
  have wu := u64_nat (n := cols.length) (by omega)
  obtain ⟨j, ho, ho1, ho2⟩ := u64_rem k cols.length (by omega) (by omega)
  simp -implicitDefEqProofs only [go_sem, V.c, iA, wu, ho, ho2]
  refine ⟨by omega, FRZ 35 (so a) rfl (so_leafy a) ?_⟩
  simp -implicitDefEqProofs only [go_sem, so]
  refine .make 46 _ (show Spec1 Try.prog 49 [setA a, intsL cols] _ from c49 a cols (by omega) sa.r40 (by omega)) rfl (by simp) rfl fun r o hq _ => ?_
  obtain ⟨x, err, rfl, rfl, hx⟩ := hq
  have hx := ProjR.ok (j := 1) sa (proj_bound (j := 1) (k := 1) ta.small sa.len cols) (by omega) (by omega) hx
  have hj : j < cols.length := by omega
  simp -implicitDefEqProofs only [go_sem, iA]
  rcases hx with ⟨rfl, hp, sx, tx⟩ | ⟨he, rfl, t, ht, hpe⟩
  rotate_left
  · have h3 : err = 1 := by
      rw [← hpe] at he ⊢
      simp only [pickE] at he ⊢
      split
      · rfl
      · split <;> simp_all
        omega
    subst h3
    refine VIF.split (fun _ => ?_) (fun h => absurd h (by simp))
    (simp -implicitDefEqProofs only [go_sem]; repeat (refine GO ?_; simp -implicitDefEqProofs only [go_sem]))
    refine VIF.split (fun _ => ?_) (fun h => absurd h (by simp))
    (simp -implicitDefEqProofs only [go_sem]; repeat (refine GO ?_; simp -implicitDefEqProofs only [go_sem]))
    refine .pure _ c52 rfl fun r hq _ => ?_
    subst hq
    (simp -implicitDefEqProofs only [go_sem, bA]; repeat (refine GO ?_; simp -implicitDefEqProofs only [go_sem, bA]))
  have lx := sx.len
  refine VIF.split (fun h => absurd h (by simp)) (fun _ => ?_)
  simp -implicitDefEqProofs only [go_sem]
  refine FRZ 46 (so x) rfl (so_leafy x) ?_
  (simp -implicitDefEqProofs only [go_sem, so, iA, V.c]; repeat (refine GO ?_; simp -implicitDefEqProofs only [go_sem, so, iA, V.c]))
  refine .make 61 _ (show Spec1 Try.prog 51 [setA x, .ag (Pr.c ⟨2, j, 0, v⟩)] _ from c51 x ⟨2, j, 0, v⟩ (by omega) sx.r40) rfl (by simp) rfl fun r o hq _ => ?_
  obtain ⟨y, e, rfl, rfl, hy⟩ := hq
  obtain ⟨rfl, rfl⟩ := filt_ok sx.good hy
  have sy := sx.filt (holdsP ⟨2, j, 0, v⟩)
  have ty := tot_filter (holdsP ⟨2, j, 0, v⟩) x
  have ly := sy.len
  generalize hy' : (x.filter fun t => holdsP ⟨2, j, 0, v⟩ t.row) = y at *
  simp -implicitDefEqProofs only [go_sem, iA]
  refine EL.map hj ?_
  simp -implicitDefEqProofs only [go_sem, V.c]
  refine .make 72 _ (show Spec1 Try.prog 51 [setA a, .ag (Pr.c ⟨2, cols[j], 0, v⟩)] _ from c51 a ⟨2, cols[j], 0, v⟩ (by omega) sa.r40) rfl (by simp) rfl fun r o hq _ => ?_
  obtain ⟨u, e, rfl, rfl, hu⟩ := hq
  obtain ⟨rfl, rfl⟩ := filt_ok sa.good hu
  have su := sa.filt (holdsP ⟨2, cols[j], 0, v⟩)
  have tu := tot_filter (holdsP ⟨2, cols[j], 0, v⟩) a
  have lu := su.len
  have hum : ∀ t ∈ (a.filter fun t => holdsP ⟨2, cols[j], 0, v⟩ t.row), t ∈ a := fun t ht => (List.mem_filter.1 ht).1
  have hmap : (a.filter fun t => holdsP ⟨2, cols[j], 0, v⟩ t.row).map (projI cols) = (a.map (projI cols)).filter fun t => holdsP ⟨2, j, 0, v⟩ t.row := by
    rw [List.filter_map]
    congr 1
    exact List.filter_congr fun t ht => (holds_pick v hj (hp t ht)).symm
  generalize hu' : (a.filter fun t => holdsP ⟨2, cols[j], 0, v⟩ t.row) = u at *
  simp -implicitDefEqProofs only [go_sem, iA]
  refine FRZG 61 (so y) rfl (so_leafy y) ?_
  simp -implicitDefEqProofs only [go_sem, so]
  refine FRZG 72 (so u) rfl (so_leafy u) ?_
  simp -implicitDefEqProofs only [go_sem, so]
  refine GO ?_
  simp -implicitDefEqProofs only [go_sem]
  refine .make 78 _ (show Spec1 Try.prog 49 [setA u, intsL cols] _ from c49 u cols (by omega) su.r40 (by omega)) rfl (by simp) rfl fun r o hq _ => ?_
  obtain ⟨w, err, rfl, rfl, hw⟩ := hq
  have hw := ProjR.ok (j := 1) su (proj_bound (j := 1) (k := 1) (fun t ht => ta.small t (hum t ht)) su.len cols) (by omega) (by omega) hw
  rcases hw with ⟨rfl, _, sw, tw⟩ | ⟨he, rfl, t, ht, hpe⟩
  rotate_left
  · exact absurd (hpe.symm.trans (hp t (hum t ht))) he
  obtain rfl : y = w := sy.eq sw fun r => by
    rw [ty, tw, hmap, tx, tot_filter (holdsP ⟨2, j, 0, v⟩)]
  (simp -implicitDefEqProofs only [go_sem, iA]; repeat (refine GO ?_; simp -implicitDefEqProofs only [go_sem, iA]))
  repeat (refine VIF.split (fun _ => ?_) (fun h => absurd h (by decide)); (simp -implicitDefEqProofs only [go_sem]; repeat (refine GO ?_; simp -implicitDefEqProofs only [go_sem])))
  refine .lendTo (s18 y y (by omega) (by omega) sy.r62) ?_ (by rintro _ ⟨e, rfl, _⟩; rfl) fun r hq => ?_
  · (simp -implicitDefEqProofs only [go_sem, setA, so]; repeat (refine GO ?_; simp -implicitDefEqProofs only [go_sem, setA, so]))
    exact so_leafs y
  obtain ⟨e2, rfl, h2⟩ := hq
  have h2 := h2.2 rfl
  subst h2
  (simp -implicitDefEqProofs only [go_sem, bA]; repeat (refine GO ?_; simp -implicitDefEqProofs only [go_sem, bA]))
  refine .pure _ c52 rfl fun r hq _ => ?_
  subst hq
  (simp -implicitDefEqProofs only [go_sem, bA]; repeat (refine GO ?_; simp -implicitDefEqProofs only [go_sem, bA]))
end Yt
namespace Yt
open Go Go.Vc Go.Proofs
set_option maxRecDepth 10000
set_option maxHeartbeats 8000000
set_option linter.unusedSimpArgs false
set_option linter.unusedVariables false
theorem row_in {a b s : List It} (hs : Made s) (h : ∀ r, tot r s = tot r a + tot r b) : ∀ t ∈ s, ∃ u ∈ a ++ b, u.row = t.row := by
  intro t ht
  have h1 := tot_made hs ht
  have h2 := (hs.nz t ht).1
  apply Classical.byContradiction
  intro hno
  refine h2 ?_
  rw [← h1, h, ← tot_append]
  exact tot_none fun u hu e => hno ⟨u, hu, lin_cmpR.eq _ _ e⟩
theorem c13 (l0 l1 : List It) (p : Pr) (cols : List Int) (hl : ∀ l ∈ [l0, l1], l.length < 4611686018427387904) (hr : ∀ l ∈ [l0, l1], ∀ t ∈ l, t.row.length < 4611686018427387904) (hc : cols.length < 4611686018427387904) :
    Spec0 Try.prog 13 [setA l0, setA l1, .ag p.c, intsL cols] (· = bA true) := by
  refine spec0_of_vc tabOk elems ord13 Try.func13 rfl (rl := [.tmp 8]) rfl (by kernel_rfl) rfl ?_
  (simp -implicitDefEqProofs only [go_sem, setA, Pr.c, intsL]; repeat (refine GO ?_; simp -implicitDefEqProofs only [go_sem, setA, Pr.c, intsL]))
  refine .lendTo (s10 [l0, l1] (by simp) hl hr) ?_ (by rintro _ rfl; rfl) fun r hq => ?_
  · (simp -implicitDefEqProofs only [go_sem, setsA, setA]; repeat (refine GO ?_; simp -implicitDefEqProofs only [go_sem, setsA, setA]))
    rfl
  subst hq
  (simp -implicitDefEqProofs only [go_sem, bA]; repeat (refine GO ?_; simp -implicitDefEqProofs only [go_sem, bA]))
  refine VIF.split (fun hb => ?_) (fun hb => ?_)
  · (simp -implicitDefEqProofs only [go_sem, bA]; repeat (refine GO ?_; simp -implicitDefEqProofs only [go_sem, bA]))
  have hb : heavyS l0 = false ∧ heavyS l1 = false := by simpa [List.any_cons] using hb
  obtain ⟨hl0, hr0⟩ := not_heavyS hb.1
  obtain ⟨hl1, hr1⟩ := not_heavyS hb.2
  (simp -implicitDefEqProofs only [go_sem]; repeat (refine GO ?_; simp -implicitDefEqProofs only [go_sem]))
  refine .lendTo (s50 [p.val] (by simp)) ?_ (by rintro _ rfl; rfl) fun r hq => ?_
  · (simp -implicitDefEqProofs only [go_sem, rowA, V.c]; repeat (refine GO ?_; simp -implicitDefEqProofs only [go_sem, rowA, V.c]))
    rfl
  subst hq
  (simp -implicitDefEqProofs only [go_sem, bA]; repeat (refine GO ?_; simp -implicitDefEqProofs only [go_sem, bA]))
  refine VIF.split (fun _ => ?_) (fun _ => ?_)
  · (simp -implicitDefEqProofs only [go_sem, bA]; repeat (refine GO ?_; simp -implicitDefEqProofs only [go_sem, bA]))
  (simp -implicitDefEqProofs only [go_sem]; repeat (refine GO ?_; simp -implicitDefEqProofs only [go_sem]))
  refine VIF.split (fun h1 => ?_) (fun h1 => ?_)
  · (simp -implicitDefEqProofs only [go_sem, bA]; repeat (refine GO ?_; simp -implicitDefEqProofs only [go_sem, bA]))
  have h1 : cols.length ≤ 40 := by simp at h1; omega
  simp -implicitDefEqProofs only [go_sem]
  refine TO [] [(0, setA l0), (1, setA l1), (3, intsL cols), (6, .ro p.c 0)] [] [] rfl ?_ ?_
  · (simp -implicitDefEqProofs only [go_sem, setA, bA, intsL, iA]; repeat (refine GO ?_; simp -implicitDefEqProofs only [go_sem, setA, bA, intsL, iA]))
    exact ⟨id, by decide, _, rfl, pr_leafy p, rfl⟩
  (simp -implicitDefEqProofs only [go_sem, setA, intsL]; repeat (refine GO ?_; simp -implicitDefEqProofs only [go_sem, setA, intsL]))
  refine .make 39 _ (s24 l0 (by omega) (fun t ht => by have := hr0 t ht; omega)) rfl (by simp) rfl fun r o hq _ => ?_
  obtain ⟨a, rfl, rfl, ta⟩ := hq
  have sa := ta.sm hr0
  have la := sa.len
  simp -implicitDefEqProofs only [go_sem]
  refine FRZ 39 (so a) rfl (so_leafy a) ?_
  simp -implicitDefEqProofs only [go_sem, so]
  refine .make 41 _ (s24 l1 (by omega) (fun t ht => by have := hr1 t ht; omega)) rfl (by simp) rfl fun r o hq _ => ?_
  obtain ⟨b, rfl, rfl, tb⟩ := hq
  have sb := tb.sm hr1
  have lb := sb.len
  simp -implicitDefEqProofs only [go_sem]
  refine FRZ 41 (so b) rfl (so_leafy b) ?_
  simp -implicitDefEqProofs only [go_sem, so]
  refine .make 45 _ (s23 a b (by omega) sa.r40 sb.r40) rfl (by simp) rfl fun r o hq _ => ?_
  obtain ⟨s, e, rfl, rfl, hs⟩ := hq
  obtain ⟨rfl, ss, ts⟩ := sa.add sb (by omega) hs
  have ls := ss.len
  simp -implicitDefEqProofs only [go_sem, iA, Pr.c]
  refine FRZ 45 (so s) rfl (so_leafy s) ?_
  simp -implicitDefEqProofs only [go_sem, so]
  refine .make 51 _ (show Spec1 Try.prog 51 [setA a, .ag p.c] _ from c51 a p (by omega) sa.r40) rfl (by simp) rfl fun r o hq _ => ?_
  obtain ⟨x, e, rfl, rfl, hx⟩ := hq
  obtain ⟨rfl, rfl⟩ := filt_ok sa.good hx
  have sx := sa.filt (holdsP p)
  have tx := tot_filter (holdsP p) a
  have lx := sx.len
  generalize hx' : (a.filter fun t => holdsP p t.row) = x at *
  simp -implicitDefEqProofs only [go_sem, iA, Pr.c]
  refine FRZ 51 (so x) rfl (so_leafy x) ?_
  simp -implicitDefEqProofs only [go_sem, so]
  refine .make 57 _ (show Spec1 Try.prog 51 [setA b, .ag p.c] _ from c51 b p (by omega) sb.r40) rfl (by simp) rfl fun r o hq _ => ?_
  obtain ⟨y, e, rfl, rfl, hy⟩ := hq
  obtain ⟨rfl, rfl⟩ := filt_ok sb.good hy
  have sy := sb.filt (holdsP p)
  have ty := tot_filter (holdsP p) b
  have ly := sy.len
  generalize hy' : (b.filter fun t => holdsP p t.row) = y at *
  simp -implicitDefEqProofs only [go_sem, iA, Pr.c]
  refine FRZ 57 (so y) rfl (so_leafy y) ?_
  simp -implicitDefEqProofs only [go_sem, so]
  refine .make 63 _ (show Spec1 Try.prog 51 [setA s, .ag p.c] _ from c51 s p (by omega) ss.r40) rfl (by simp) rfl fun r o hq _ => ?_
  obtain ⟨z, e, rfl, rfl, hz⟩ := hq
  obtain ⟨rfl, rfl⟩ := filt_ok ss.good hz
  have sz := ss.filt (holdsP p)
  have tz := tot_filter (holdsP p) s
  have lz := sz.len
  generalize hz' : (s.filter fun t => holdsP p t.row) = z at *
  simp -implicitDefEqProofs only [go_sem, iA]
  refine FRZ 63 (so z) rfl (so_leafy z) ?_
  simp -implicitDefEqProofs only [go_sem, so]
  refine .make 69 _ (s23 x y (by omega) sx.r40 sy.r40) rfl (by simp) rfl fun r o hq _ => ?_
  obtain ⟨w, e, rfl, rfl, hw⟩ := hq
  obtain ⟨rfl, sw, tw⟩ := sx.add sy (by omega) hw
  obtain rfl : z = w := sz.eq sw fun r => by
    rw [tz, tw, tx, ty, ts]; split <;> omega
  (simp -implicitDefEqProofs only [go_sem, iA]; repeat (refine GO ?_; simp -implicitDefEqProofs only [go_sem, iA]))
  repeat (refine VIF.split (fun h => absurd h (by decide)) (fun _ => ?_); (simp -implicitDefEqProofs only [go_sem]; repeat (refine GO ?_; simp -implicitDefEqProofs only [go_sem])))
  refine .lendTo (s18 z z (by omega) (by omega) sz.r62) ?_ (by rintro _ ⟨e, rfl, _⟩; rfl) fun r hq => ?_
  · (simp -implicitDefEqProofs only [go_sem, setA, so]; repeat (refine GO ?_; simp -implicitDefEqProofs only [go_sem, setA, so]))
    exact so_leafs z
  obtain ⟨e2, rfl, h2⟩ := hq
  have h2 := h2.2 rfl
  subst h2
  simp -implicitDefEqProofs only [go_sem, bA]
  refine TO [] [(0, setA a), (1, setA b), (3, intsL cols), (9, setA s)] [] [] rfl ?_ ?_
  · (simp -implicitDefEqProofs only [go_sem, setA, intsL]; repeat (refine GO ?_; simp -implicitDefEqProofs only [go_sem, setA, intsL]))
    exact ⟨id, rfl⟩
  (simp -implicitDefEqProofs only [go_sem, setA, intsL]; repeat (refine GO ?_; simp -implicitDefEqProofs only [go_sem, setA, intsL]))
  refine .make 99 _ (show Spec1 Try.prog 49 [setA a, intsL cols] _ from c49 a cols (by omega) sa.r40 (by omega)) rfl (by simp) rfl fun r o hq _ => ?_
  obtain ⟨x, f, rfl, rfl, hx⟩ := hq
  have hx := ProjR.ok (j := 1) sa (proj_bound (j := 1) (k := 1) ta.small sa.len cols) (by omega) (by omega) hx
  simp -implicitDefEqProofs only [go_sem, iA]
  refine FRZ 99 (so x) rfl (so_leafy x) ?_
  simp -implicitDefEqProofs only [go_sem, so]
  refine .make 105 _ (show Spec1 Try.prog 49 [setA b, intsL cols] _ from c49 b cols (by omega) sb.r40 (by omega)) rfl (by simp) rfl fun r o hq _ => ?_
  obtain ⟨y, g, rfl, rfl, hy⟩ := hq
  have hy := ProjR.ok (j := 1) sb (proj_bound (j := 1) (k := 1) tb.small sb.len cols) (by omega) (by omega) hy
  (simp -implicitDefEqProofs only [go_sem, iA]; repeat (refine GO ?_; simp -implicitDefEqProofs only [go_sem, iA]))
  have bad : (f ≠ 0 → x = []) ∧ (g ≠ 0 → y = []) := ⟨fun h => hx.elim (fun q => absurd q.1 h) (fun q => q.2.1), fun h => hy.elim (fun q => absurd q.1 h) (fun q => q.2.1)⟩
  refine VIF.split (fun hf => ?_) (fun hf => ?_)
  · have hf : f ≠ 0 := by simpa using hf
    obtain rfl := bad.1 hf
    (simp -implicitDefEqProofs only [go_sem, hf]; repeat (refine GO ?_; simp -implicitDefEqProofs only [go_sem, hf]))
    refine VIF.split (fun h => absurd h (by simp)) (fun _ => ?_)
    (simp -implicitDefEqProofs only [go_sem]; repeat (refine GO ?_; simp -implicitDefEqProofs only [go_sem]))
    refine VIF.split (fun _ => ?_) (fun h => absurd h (by simp))
    (simp -implicitDefEqProofs only [go_sem]; repeat (refine GO ?_; simp -implicitDefEqProofs only [go_sem]))
    refine VIF.split (fun hg => ?_) (fun hg => ?_)
    · (simp -implicitDefEqProofs only [go_sem]; repeat (refine GO ?_; simp -implicitDefEqProofs only [go_sem]))
      refine .pure _ c52 rfl fun r hq _ => ?_
      subst hq
      (simp -implicitDefEqProofs only [go_sem, bA]; repeat (refine GO ?_; simp -implicitDefEqProofs only [go_sem, bA]))
    · have hg : g ≠ 0 := by simpa using hg
      obtain rfl := bad.2 hg
      (simp -implicitDefEqProofs only [go_sem]; repeat (refine GO ?_; simp -implicitDefEqProofs only [go_sem]))
      refine VIF.split (fun _ => ?_) (fun h => absurd h (by simp))
      (simp -implicitDefEqProofs only [go_sem]; repeat (refine GO ?_; simp -implicitDefEqProofs only [go_sem]))
      refine .pure _ c52 rfl fun r hq _ => ?_
      subst hq
      (simp -implicitDefEqProofs only [go_sem, bA]; repeat (refine GO ?_; simp -implicitDefEqProofs only [go_sem, bA]))
  have hf : f = 0 := by simpa using hf
  subst hf
  (simp -implicitDefEqProofs only [go_sem]; repeat (refine GO ?_; simp -implicitDefEqProofs only [go_sem]))
  refine VIF.split (fun hg => ?_) (fun hg => ?_)
  · have hg : g ≠ 0 := by simpa using hg
    obtain rfl := bad.2 hg
    (simp -implicitDefEqProofs only [go_sem, hg]; repeat (refine GO ?_; simp -implicitDefEqProofs only [go_sem, hg]))
    refine VIF.split (fun _ => ?_) (fun h => absurd h (by simp))
    (simp -implicitDefEqProofs only [go_sem, hg]; repeat (refine GO ?_; simp -implicitDefEqProofs only [go_sem, hg]))
    refine VIF.split (fun h => absurd h (by simp)) (fun _ => ?_)
    (simp -implicitDefEqProofs only [go_sem]; repeat (refine GO ?_; simp -implicitDefEqProofs only [go_sem]))
    refine VIF.split (fun _ => ?_) (fun h => absurd h (by simp))
    (simp -implicitDefEqProofs only [go_sem]; repeat (refine GO ?_; simp -implicitDefEqProofs only [go_sem]))
    refine .pure _ c52 rfl fun r hq _ => ?_
    subst hq
    (simp -implicitDefEqProofs only [go_sem, bA]; repeat (refine GO ?_; simp -implicitDefEqProofs only [go_sem, bA]))
  have hg : g = 0 := by simpa using hg
  subst hg
  obtain ⟨_, px, sx, tx⟩ := hx.resolve_right fun h => h.1 rfl
  obtain ⟨_, py, sy, ty⟩ := hy.resolve_right fun h => h.1 rfl
  have lx := sx.len
  have ly := sy.len
  have tsp : ∀ r, tot r (s.map (projI cols)) = tot r x + tot r y := fun r => by
    rw [proj_tot (x := s) (y := a ++ b) (fun r => by rw [ts, tot_append]) cols r, List.map_append, tot_append, tx, ty]
  simp -implicitDefEqProofs only [go_sem]
  refine FRZ 105 (so y) rfl (so_leafy y) ?_
  (simp -implicitDefEqProofs only [go_sem, so]; repeat (refine GO ?_; simp -implicitDefEqProofs only [go_sem, so]))
  refine .make 136 _ (show Spec1 Try.prog 49 [setA s, intsL cols] _ from c49 s cols (by omega) ss.r40 (by omega)) rfl (by simp) rfl fun r o hq _ => ?_
  obtain ⟨z, err, rfl, rfl, hz⟩ := hq
  have hz := ProjR.ok (j := 2) ss (fun r => by rw [tsp]; have := sx.tot r; have := sy.tot r; omega) (by omega) (by omega) hz
  obtain ⟨rfl, _, sz, tz⟩ := hz.resolve_right fun h => by
    obtain ⟨h1, _, t, ht, h2⟩ := h
    obtain ⟨u, hu, e⟩ := row_in ss.made ts t ht
    rw [← e] at h2
    rcases List.mem_append.1 hu with hu | hu
    · exact h1 (h2.symm.trans (px u hu))
    · exact h1 (h2.symm.trans (py u hu))
  have lz := sz.len
  simp -implicitDefEqProofs only [go_sem, iA]
  refine FRZ 136 (so z) rfl (so_leafy z) ?_
  simp -implicitDefEqProofs only [go_sem, so]
  refine .make 142 _ (s23 x y (by omega) sx.r40 sy.r40) rfl (by simp) rfl fun r o hq _ => ?_
  obtain ⟨w, e, rfl, rfl, hw⟩ := hq
  obtain ⟨rfl, sw, tw⟩ := sx.add sy (by omega) hw
  obtain rfl : z = w := sz.eq sw fun r => by rw [tz, tw, tsp]
  simp -implicitDefEqProofs only [go_sem, iA]
  refine FRZ 142 (so z) rfl (so_leafy z) ?_
  simp -implicitDefEqProofs only [go_sem, so]
  refine .make 148 _ (c54 a b (by omega) sa.r40 sb.r40) rfl (by simp) rfl fun r o hq _ => ?_
  obtain ⟨u, e, rfl, rfl, hu⟩ := hq
  obtain ⟨rfl, su, tu⟩ := sa.add sb (by omega) hu
  obtain rfl : s = u := ss.eq su fun r => by rw [ts, tu]
  simp -implicitDefEqProofs only [go_sem, iA]
  refine FRZ 148 (so s) rfl (so_leafy s) ?_
  simp -implicitDefEqProofs only [go_sem, so]
  refine .make 154 _ (c55 s b (by omega) ss.r40 sb.r40) rfl (by simp) rfl fun r o hq _ => ?_
  obtain ⟨m, e, rfl, rfl, hm⟩ := hq
  obtain ⟨rfl, sm, tm⟩ := ss.min sb (by omega) hm
  obtain rfl : a = m := sa.eq sm fun r => by rw [tm, ts]; omega
  (simp -implicitDefEqProofs only [go_sem, iA]; repeat (refine GO ?_; simp -implicitDefEqProofs only [go_sem, iA]))
  repeat (refine VIF.split (fun _ => ?_) (fun h => absurd h (by decide)); (simp -implicitDefEqProofs only [go_sem]; repeat (refine GO ?_; simp -implicitDefEqProofs only [go_sem])))
  refine .pure _ (s18 z z (by omega) (by omega) sz.r62) rfl fun r hq _ => ?_
  obtain ⟨e1, rfl, h1⟩ := hq
  have h1 := h1.2 rfl
  subst h1
  (simp -implicitDefEqProofs only [go_sem, bA]; repeat (refine GO ?_; simp -implicitDefEqProofs only [go_sem, bA]))
  refine .pure _ (s18 s s (by omega) (by omega) ss.r62) rfl fun r hq _ => ?_
  obtain ⟨e1, rfl, h1⟩ := hq
  have h1 := h1.2 rfl
  subst h1
  (simp -implicitDefEqProofs only [go_sem, bA]; repeat (refine GO ?_; simp -implicitDefEqProofs only [go_sem, bA]))
  refine .lendTo (s18 a a (by omega) (by omega) sa.r62) ?_ (by rintro _ ⟨e, rfl, _⟩; rfl) fun r hq => ?_
  · (simp -implicitDefEqProofs only [go_sem, setA, so]; repeat (refine GO ?_; simp -implicitDefEqProofs only [go_sem, setA, so]))
    exact so_leafs a
  obtain ⟨e2, rfl, h2⟩ := hq
  have h2 := h2.2 rfl
  subst h2
  (simp -implicitDefEqProofs only [go_sem, bA]; repeat (refine GO ?_; simp -implicitDefEqProofs only [go_sem, bA]))
  refine .pure _ c52 rfl fun r hq _ => ?_
  subst hq
  (simp -implicitDefEqProofs only [go_sem, bA]; repeat (refine GO ?_; simp -implicitDefEqProofs only [go_sem, bA]))
end Yt
namespace Yt
open Go Go.Vc Go.Proofs
set_option maxRecDepth 10000
set_option maxHeartbeats 8000000
set_option linter.unusedSimpArgs false
set_option linter.unusedVariables false
theorem c15 (l : List It) (p : Pr) (cols : List Int) (hl : l.length < 4611686018427387904) (hr : ∀ t ∈ l, t.row.length < 4611686018427387904) (hc : cols.length < 4611686018427387904) :
    Spec0 Try.prog 15 [setA l, .ag p.c, intsL cols] (· = bA true) := by
  refine spec0_of_vc tabOk elems ord15 Try.func15 rfl (rl := [.tmp 6]) rfl (by kernel_rfl) rfl ?_
  (simp -implicitDefEqProofs only [go_sem, setA, Pr.c, intsL]; repeat (refine GO ?_; simp -implicitDefEqProofs only [go_sem, setA, Pr.c, intsL]))
  refine .lendTo (s10 [l] (by simp) (by simpa using hl) (by simpa using hr)) ?_ (by rintro _ rfl; rfl) fun r hq => ?_
  · (simp -implicitDefEqProofs only [go_sem, setsA, setA]; repeat (refine GO ?_; simp -implicitDefEqProofs only [go_sem, setsA, setA]))
    rfl
  subst hq
  (simp -implicitDefEqProofs only [go_sem, bA]; repeat (refine GO ?_; simp -implicitDefEqProofs only [go_sem, bA]))
  refine VIF.split (fun hb => ?_) (fun hb => ?_)
  · (simp -implicitDefEqProofs only [go_sem, bA]; repeat (refine GO ?_; simp -implicitDefEqProofs only [go_sem, bA]))
  have hb : heavyS l = false := by simpa [List.any_cons] using hb
  obtain ⟨hl0, hr0⟩ := not_heavyS hb
  (simp -implicitDefEqProofs only [go_sem]; repeat (refine GO ?_; simp -implicitDefEqProofs only [go_sem]))
  refine .lendTo (s50 [p.val] (by simp)) ?_ (by rintro _ rfl; rfl) fun r hq => ?_
  · (simp -implicitDefEqProofs only [go_sem, rowA, V.c]; repeat (refine GO ?_; simp -implicitDefEqProofs only [go_sem, rowA, V.c]))
    rfl
  subst hq
  (simp -implicitDefEqProofs only [go_sem, bA]; repeat (refine GO ?_; simp -implicitDefEqProofs only [go_sem, bA]))
  refine VIF.split (fun _ => ?_) (fun _ => ?_)
  · (simp -implicitDefEqProofs only [go_sem, bA]; repeat (refine GO ?_; simp -implicitDefEqProofs only [go_sem, bA]))
  (simp -implicitDefEqProofs only [go_sem]; repeat (refine GO ?_; simp -implicitDefEqProofs only [go_sem]))
  refine VIF.split (fun h1 => ?_) (fun h1 => ?_)
  · (simp -implicitDefEqProofs only [go_sem, bA]; repeat (refine GO ?_; simp -implicitDefEqProofs only [go_sem, bA]))
  have h1 : cols.length ≤ 12 := by simp at h1; omega
  simp -implicitDefEqProofs only [go_sem]
  refine TO [] [(0, setA l), (2, intsL cols), (4, .ro p.c 0)] [] [] rfl ?_ ?_
  · (simp -implicitDefEqProofs only [go_sem, setA, bA, intsL, iA]; repeat (refine GO ?_; simp -implicitDefEqProofs only [go_sem, setA, bA, intsL, iA]))
    exact ⟨id, by decide, _, rfl, pr_leafy p, rfl⟩
  (simp -implicitDefEqProofs only [go_sem, setA, intsL]; repeat (refine GO ?_; simp -implicitDefEqProofs only [go_sem, setA, intsL]))
  refine .make 36 _ (s24 l (by omega) (fun t ht => by have := hr0 t ht; omega)) rfl (by simp) rfl fun r o hq _ => ?_
  obtain ⟨a, rfl, rfl, ta⟩ := hq
  have sa := ta.sm hr0
  have la := sa.len
  simp -implicitDefEqProofs only [go_sem, iA, Pr.c]
  refine FRZ 36 (so a) rfl (so_leafy a) ?_
  simp -implicitDefEqProofs only [go_sem, so]
  refine .make 40 _ (show Spec1 Try.prog 51 [setA a, .ag p.c] _ from c51 a p (by omega) sa.r40) rfl (by simp) rfl fun r o hq _ => ?_
  obtain ⟨x, e, rfl, rfl, hx⟩ := hq
  obtain ⟨rfl, rfl⟩ := filt_ok sa.good hx
  have sx := sa.filt (holdsP p)
  have tx := tot_filter (holdsP p) a
  have lx := sx.len
  have lxa : (a.filter fun t => holdsP p t.row).length ≤ a.length := List.length_filter_le _ _
  generalize hx' : (a.filter fun t => holdsP p t.row) = x at *
  simp -implicitDefEqProofs only [go_sem, iA]
  refine VIF.split (fun h => absurd h (by simp)) (fun _ => ?_)
  simp -implicitDefEqProofs only [go_sem]
  refine FRZ 40 (so x) rfl (so_leafy x) ?_
  (simp -implicitDefEqProofs only [go_sem, so]; repeat (refine GO ?_; simp -implicitDefEqProofs only [go_sem, so]))
  refine LOOP.mk (ι := { i : Nat // i ≤ a.length }) (fun q => mkS [(0, setA a), (2, intsL cols), (4, .ro p.c 0), (7, setA x), (9, iA q.1)] [] []) (fun q => a.length - q.1) ⟨0, Nat.zero_le _⟩ [] rfl rfl ?_ (fun q => ?_)
  · (simp -implicitDefEqProofs only [go_sem, setA, iA, so, intsL]; repeat (refine GO ?_; simp -implicitDefEqProofs only [go_sem, setA, iA, so, intsL]))
    exact ⟨id, rfl, rfl⟩
  · obtain ⟨i, hi⟩ := q
    (simp -implicitDefEqProofs only [go_sem, setA, iA, intsL]; repeat (refine GO ?_; simp -implicitDefEqProofs only [go_sem, setA, iA, intsL]))
    refine VIF.split (fun h2 => ?_) (fun h2 => ?_)
    · have h2 : i < a.length := by simpa using h2
      have w1 := wrap_add1 (show i < 4611686018427387904 by omega)
      have hm : a[i] ∈ a := List.getElem_mem h2
      have hw : wt a[i].row x = if holdsP p a[i].row then a[i].w else 0 := by
        rw [wt_tot sx.made, tx, tot_made sa.made hm]
      (simp -implicitDefEqProofs only [go_sem, Pr.c]; repeat (refine GO ?_; simp -implicitDefEqProofs only [go_sem, Pr.c]))
      refine EL.map h2 ?_
      (simp -implicitDefEqProofs only [go_sem, It.c]; repeat (refine GO ?_; simp -implicitDefEqProofs only [go_sem, It.c]))
      refine .pure _ (show Spec0 Try.prog 60 [.ag p.c, rowA a[i].row] _ from c60 p a[i].row (sa.r62 _ hm)) rfl fun r hq _ => ?_
      subst hq
      (simp -implicitDefEqProofs only [go_sem, bA]; repeat (refine GO ?_; simp -implicitDefEqProofs only [go_sem, bA]))
      refine VIF.split (fun h3 => ?_) (fun h3 => ?_)
      · rw [if_pos h3] at hw
        (simp -implicitDefEqProofs only [go_sem]; repeat (refine GO ?_; simp -implicitDefEqProofs only [go_sem]))
        refine EL.map h2 ?_
        (simp -implicitDefEqProofs only [go_sem, It.c, iA]; repeat (refine GO ?_; simp -implicitDefEqProofs only [go_sem, It.c, iA]))
        refine EL.map h2 ?_
        (simp -implicitDefEqProofs only [go_sem, It.c]; repeat (refine GO ?_; simp -implicitDefEqProofs only [go_sem, It.c]))
        refine .pure _ (s15 x a[i].row sx.r62 (by omega)) rfl fun r hq _ => ?_
        subst hq
        (simp -implicitDefEqProofs only [go_sem, iA, hw]; repeat (refine GO ?_; simp -implicitDefEqProofs only [go_sem, iA, hw]))
        refine VIF.split (fun h => absurd h (by simp)) (fun _ => ?_)
        (simp -implicitDefEqProofs only [go_sem, w1]; repeat (refine GO ?_; simp -implicitDefEqProofs only [go_sem, w1]))
        refine BACK.mk ⟨i + 1, by omega⟩ [] rfl rfl (by show a.length - (i + 1) < a.length - i; omega) ?_
        (simp -implicitDefEqProofs only [go_sem, setA, iA, intsL]; repeat (refine GO ?_; simp -implicitDefEqProofs only [go_sem, setA, iA, intsL]))
        exact ⟨id, rfl⟩
      · rw [if_neg (by simp [h3])] at hw
        (simp -implicitDefEqProofs only [go_sem]; repeat (refine GO ?_; simp -implicitDefEqProofs only [go_sem]))
        refine EL.map h2 ?_
        (simp -implicitDefEqProofs only [go_sem, It.c]; repeat (refine GO ?_; simp -implicitDefEqProofs only [go_sem, It.c]))
        refine .pure _ (s15 x a[i].row sx.r62 (by omega)) rfl fun r hq _ => ?_
        subst hq
        (simp -implicitDefEqProofs only [go_sem, iA, hw]; repeat (refine GO ?_; simp -implicitDefEqProofs only [go_sem, iA, hw]))
        refine VIF.split (fun h => absurd h (by simp)) (fun _ => ?_)
        (simp -implicitDefEqProofs only [go_sem, w1]; repeat (refine GO ?_; simp -implicitDefEqProofs only [go_sem, w1]))
        refine BACK.mk ⟨i + 1, by omega⟩ [] rfl rfl (by show a.length - (i + 1) < a.length - i; omega) ?_
        (simp -implicitDefEqProofs only [go_sem, setA, iA, intsL]; repeat (refine GO ?_; simp -implicitDefEqProofs only [go_sem, setA, iA, intsL]))
        exact ⟨id, rfl⟩
    · have h2 : i = a.length := by simp at h2; omega
      subst h2
      clear h2
      (simp -implicitDefEqProofs only [go_sem]; repeat (refine GO ?_; simp -implicitDefEqProofs only [go_sem]))
      refine .make 75 _ (show Spec1 Try.prog 49 [setA a, intsL cols] _ from c49 a cols (by omega) sa.r40 (by omega)) rfl (by simp) rfl fun r o hq _ => ?_
      obtain ⟨y, err, rfl, rfl, hy⟩ := hq
      have lya := ProjR.len hy
      have hy := ProjR.ok (j := 1) sa (proj_bound (j := 1) (k := 1) ta.small sa.len cols) (by omega) (by omega) hy
      simp -implicitDefEqProofs only [go_sem, iA]
      rcases hy with ⟨rfl, hp, sy, ty⟩ | ⟨he, rfl, t, ht, hpe⟩
      rotate_left
      · have h3 : err = 1 := by
          rw [← hpe] at he ⊢
          simp only [pickE] at he ⊢
          split
          · rfl
          · split <;> simp_all
            omega
        subst h3
        refine VIF.split (fun _ => ?_) (fun h => absurd h (by simp))
        (simp -implicitDefEqProofs only [go_sem]; repeat (refine GO ?_; simp -implicitDefEqProofs only [go_sem]))
        refine VIF.split (fun _ => ?_) (fun h => absurd h (by simp))
        (simp -implicitDefEqProofs only [go_sem]; repeat (refine GO ?_; simp -implicitDefEqProofs only [go_sem]))
        refine VIF.split (fun _ => ?_) (fun h => absurd h (by simp))
        (simp -implicitDefEqProofs only [go_sem]; repeat (refine GO ?_; simp -implicitDefEqProofs only [go_sem]))
        refine .pure _ c52 rfl fun r hq _ => ?_
        subst hq
        (simp -implicitDefEqProofs only [go_sem, bA]; repeat (refine GO ?_; simp -implicitDefEqProofs only [go_sem, bA]))
      have ly := sy.len
      have hsm := sumW_take (k := 5940) (by decide) ta.small
      refine VIF.split (fun h => absurd h (by simp)) (fun _ => ?_)
      simp -implicitDefEqProofs only [go_sem]
      refine FRZ 75 (so y) rfl (so_leafy y) ?_
      (simp -implicitDefEqProofs only [go_sem, so]; repeat (refine GO ?_; simp -implicitDefEqProofs only [go_sem, so]))
      refine LOOP.mk (ι := { i : Nat // i ≤ a.length }) (fun q => mkS [(0, setA a), (2, intsL cols), (7, setA x), (11, setA y), (12, iA (sumW (a.take q.1))), (13, iA q.1)] [] []) (fun q => a.length - q.1) ⟨0, Nat.zero_le _⟩ [] rfl rfl ?_ (fun q => ?_)
      · (simp -implicitDefEqProofs only [go_sem, setA, iA, so, intsL]; repeat (refine GO ?_; simp -implicitDefEqProofs only [go_sem, setA, iA, so, intsL]))
        exact ⟨id, rfl, rfl⟩
      · obtain ⟨i, hi⟩ := q
        (simp -implicitDefEqProofs only [go_sem, setA, iA, intsL]; repeat (refine GO ?_; simp -implicitDefEqProofs only [go_sem, setA, iA, intsL]))
        refine VIF.split (fun h2 => ?_) (fun h2 => ?_)
        · have h2 : i < a.length := by simpa using h2
          have w1 := wrap_add1 (show i < 4611686018427387904 by omega)
          have w2 : IntKind.i64.wrap (sumW (a.take i) + a[i].w) = sumW (a.take (i + 1)) := by
            rw [← sumW_succ h2]; have := hsm (i + 1); rw [wrap_i64] <;> omega
          have hm : a[i] ∈ a := List.getElem_mem h2
          (simp -implicitDefEqProofs only [go_sem]; repeat (refine GO ?_; simp -implicitDefEqProofs only [go_sem]))
          refine EL.map h2 ?_
          (simp -implicitDefEqProofs only [go_sem, It.c, iA, w2]; repeat (refine GO ?_; simp -implicitDefEqProofs only [go_sem, It.c, iA, w2]))
          refine EL.map h2 ?_
          (simp -implicitDefEqProofs only [go_sem, It.c]; repeat (refine GO ?_; simp -implicitDefEqProofs only [go_sem, It.c]))
          refine .make 110 _ (show Spec1 Try.prog 61 [rowA a[i].row, intsL cols] _ from c61 a[i].row cols (sa.r40 _ hm) (by omega)) rfl (by simp) rfl fun q o hq hlf => ?_
          obtain ⟨rr, err, rfl, rfl, he2, ho1, ho2⟩ := hq
          have he3 : err = 0 := he2.trans (hp _ hm)
          subst he3
          have ho1 := ho1 rfl
          subst ho1
          have hrr : ∀ t ∈ a, t.row.length < 4611686018427387904 := sa.r62
          (simp -implicitDefEqProofs only [go_sem, iA]; repeat (refine GO ?_; simp -implicitDefEqProofs only [go_sem, iA]))
          refine LOOP.mk (ι := { k : Nat // k ≤ a.length }) (fun q => mkS [(0, setA a), (2, intsL cols), (7, setA x), (11, setA y), (12, iA (sumW (a.take (i + 1)))), (13, iA i), (14, rowA (pickR a[i].row cols)), (15, iA 0), (16, iA (sumP cols (pickR a[i].row cols) a q.1)), (17, iA q.1)] [] []) (fun q => a.length - q.1) ⟨0, Nat.zero_le _⟩ [] rfl rfl ?_ (fun q => ?_)
          · (simp -implicitDefEqProofs only [go_sem, setA, iA, so, intsL, rowA]; repeat (refine GO ?_; simp -implicitDefEqProofs only [go_sem, setA, iA, so, intsL, rowA]))
            exact ⟨id, ⟨by simp [olds], _, rfl, ro3_leafy _, rfl, take_map_len _ _⟩, rfl, rfl⟩
          · obtain ⟨k, hk⟩ := q
            (simp -implicitDefEqProofs only [go_sem, setA, iA, intsL, rowA]; repeat (refine GO ?_; simp -implicitDefEqProofs only [go_sem, setA, iA, intsL, rowA]))
            refine VIF.split (fun h3 => ?_) (fun h3 => ?_)
            · have h3 : k < a.length := by simpa using h3
              have w3 := wrap_add1 (show k < 4611686018427387904 by omega)
              have hm2 : a[k] ∈ a := List.getElem_mem h3
              (simp -implicitDefEqProofs only [go_sem]; repeat (refine GO ?_; simp -implicitDefEqProofs only [go_sem]))
              refine EL.map h3 ?_
              (simp -implicitDefEqProofs only [go_sem, It.c]; repeat (refine GO ?_; simp -implicitDefEqProofs only [go_sem, It.c]))
              refine .make 126 _ (show Spec1 Try.prog 61 [rowA a[k].row, intsL cols] _ from c61 a[k].row cols (sa.r40 _ hm2) (by omega)) rfl (by simp) rfl fun q o hq hlf2 => ?_
              obtain ⟨r2, err, rfl, rfl, he4, ho3, ho4⟩ := hq
              have he5 : err = 0 := he4.trans (hp _ hm2)
              subst he5
              have ho3 := ho3 rfl
              subst ho3
              (simp -implicitDefEqProofs only [go_sem, iA]; repeat (refine GO ?_; simp -implicitDefEqProofs only [go_sem, iA]))
              refine .lendTo (s14 (pickR a[k].row cols) (pickR a[i].row cols) (by simp [pickR]; omega)) ?_ (by rintro _ ⟨e, rfl, _⟩; rfl) fun r hq => ?_
              · (simp -implicitDefEqProofs only [go_sem, rowA, ro3]; repeat (refine GO ?_; simp -implicitDefEqProofs only [go_sem, rowA, ro3]))
                have := ro3_leafy (pickR a[k].row cols)
                rw [ro3, leafy_do] at this; exact this
              obtain ⟨e2, rfl, h4⟩ := hq
              (simp -implicitDefEqProofs only [go_sem, bA]; repeat (refine GO ?_; simp -implicitDefEqProofs only [go_sem, bA]))
              refine VIF.split (fun h5 => ?_) (fun h5 => ?_)
              · have h6 := sumP_in h3 (h4.1 h5)
                have w4 : IntKind.i64.wrap (sumP cols (pickR a[i].row cols) a k + a[k].w) = sumP cols (pickR a[i].row cols) a (k + 1) := by
                  rw [← h6]; have := sumP_bound (cols := cols) (r := pickR a[i].row cols) (k := k + 1) ta.small la; rw [wrap_i64] <;> omega
                (simp -implicitDefEqProofs only [go_sem]; repeat (refine GO ?_; simp -implicitDefEqProofs only [go_sem]))
                refine EL.map h3 ?_
                (simp -implicitDefEqProofs only [go_sem, It.c, iA, w4, w3]; repeat (refine GO ?_; simp -implicitDefEqProofs only [go_sem, It.c, iA, w4, w3]))
                refine BACK.mk ⟨k + 1, by omega⟩ [] rfl rfl (by show a.length - (k + 1) < a.length - k; omega) ?_
                (simp -implicitDefEqProofs only [go_sem, setA, iA, intsL, rowA]; repeat (refine GO ?_; simp -implicitDefEqProofs only [go_sem, setA, iA, intsL, rowA]))
                exact id
              · have h6 := sumP_out h3 (fun h => by rw [h4.2 h] at h5; cases h5)
                (simp -implicitDefEqProofs only [go_sem, w3]; repeat (refine GO ?_; simp -implicitDefEqProofs only [go_sem, w3]))
                refine BACK.mk ⟨k + 1, by omega⟩ [] rfl rfl (by show a.length - (k + 1) < a.length - k; omega) ?_
                (simp -implicitDefEqProofs only [go_sem, setA, iA, intsL, rowA, h6]; repeat (refine GO ?_; simp -implicitDefEqProofs only [go_sem, setA, iA, intsL, rowA, h6]))
                exact id
            · have h3 : k = a.length := by simp at h3; omega
              subst h3
              have hw : wt (pickR a[i].row cols) y = sumP cols (pickR a[i].row cols) a a.length := by
                rw [wt_tot sy.made, ty, sumP_all]
              (simp -implicitDefEqProofs only [go_sem]; repeat (refine GO ?_; simp -implicitDefEqProofs only [go_sem]))
              refine VIF.split (fun h => absurd h (by simp)) (fun _ => ?_)
              (simp -implicitDefEqProofs only [go_sem]; repeat (refine GO ?_; simp -implicitDefEqProofs only [go_sem]))
              refine .pure _ (s15 y (pickR a[i].row cols) sy.r62 (by omega)) rfl fun r hq _ => ?_
              subst hq
              (simp -implicitDefEqProofs only [go_sem, iA, hw]; repeat (refine GO ?_; simp -implicitDefEqProofs only [go_sem, iA, hw]))
              refine VIF.split (fun h => absurd h (by simp)) (fun _ => ?_)
              (simp -implicitDefEqProofs only [go_sem, w1]; repeat (refine GO ?_; simp -implicitDefEqProofs only [go_sem, w1]))
              refine BACK.mk ⟨i + 1, by omega⟩ [] rfl rfl (by show a.length - (i + 1) < a.length - i; omega) ?_
              (simp -implicitDefEqProofs only [go_sem, setA, iA, intsL]; repeat (refine GO ?_; simp -implicitDefEqProofs only [go_sem, setA, iA, intsL]))
              exact id
        · have h2 : i = a.length := by simp at h2; omega
          subst h2
          have hsy : sumW y = sumW a := by rw [sum_tot _ _ _ (Nat.le_refl _) ty, sumW_proj]
          have hsa := hsm a.length
          rw [List.take_length] at hsa
          rw [List.take_length]
          have hyt := sumW_take (k := 356400) (by decide) (z := y) fun t ht => by have := sy.w t ht; omega
          (simp -implicitDefEqProofs only [go_sem]; repeat (refine GO ?_; simp -implicitDefEqProofs only [go_sem]))
          refine LOOP.mk (ι := { i : Nat // i ≤ y.length }) (fun q => mkS [(0, setA a), (7, setA x), (11, setA y), (12, iA (sumW a - sumW (y.take q.1))), (20, iA q.1)] [] []) (fun q => y.length - q.1) ⟨0, Nat.zero_le _⟩ [] rfl rfl ?_ (fun q => ?_)
          · (simp -implicitDefEqProofs only [go_sem, setA, iA, so, intsL, List.take_zero, sumW]; repeat (refine GO ?_; simp -implicitDefEqProofs only [go_sem, setA, iA, so, intsL, List.take_zero, sumW]))
            exact ⟨id, by rw [Int.sub_zero], rfl⟩
          · obtain ⟨k, hk⟩ := q
            (simp -implicitDefEqProofs only [go_sem, setA, iA]; repeat (refine GO ?_; simp -implicitDefEqProofs only [go_sem, setA, iA]))
            refine VIF.split (fun h3 => ?_) (fun h3 => ?_)
            · have h3 : k < y.length := by simpa using h3
              have w3 := wrap_add1 (show k < 4611686018427387904 by omega)
              have w4 : IntKind.i64.wrap (sumW a - sumW (y.take k) - y[k].w) = sumW a - sumW (y.take (k + 1)) := by
                have h4 := sumW_succ h3
                have := hyt (k + 1)
                rw [wrap_i64] <;> omega
              (simp -implicitDefEqProofs only [go_sem]; repeat (refine GO ?_; simp -implicitDefEqProofs only [go_sem]))
              refine EL.map h3 ?_
              (simp -implicitDefEqProofs only [go_sem, It.c, iA, w4, w3]; repeat (refine GO ?_; simp -implicitDefEqProofs only [go_sem, It.c, iA, w4, w3]))
              refine BACK.mk ⟨k + 1, by omega⟩ [] rfl rfl (by show y.length - (k + 1) < y.length - k; omega) ?_
              (simp -implicitDefEqProofs only [go_sem, setA, iA]; repeat (refine GO ?_; simp -implicitDefEqProofs only [go_sem, setA, iA]))
              exact id
            · have h3 : k = y.length := by simp at h3; omega
              subst h3
              rw [List.take_length, hsy, Int.sub_self]
              (simp -implicitDefEqProofs only [go_sem]; repeat (refine GO ?_; simp -implicitDefEqProofs only [go_sem]))
              refine VIF.split (fun _ => ?_) (fun h => absurd h (by simp))
              (simp -implicitDefEqProofs only [go_sem]; repeat (refine GO ?_; simp -implicitDefEqProofs only [go_sem]))
              refine VIF.split (fun _ => ?_) (fun h => absurd h (by simp; omega))
              (simp -implicitDefEqProofs only [go_sem]; repeat (refine GO ?_; simp -implicitDefEqProofs only [go_sem]))
              refine VIF.split (fun _ => ?_) (fun h => absurd h (by simp; omega))
              (simp -implicitDefEqProofs only [go_sem]; repeat (refine GO ?_; simp -implicitDefEqProofs only [go_sem]))
              refine .pure _ c52 rfl fun r hq _ => ?_
              subst hq
              (simp -implicitDefEqProofs only [go_sem, bA]; repeat (refine GO ?_; simp -implicitDefEqProofs only [go_sem, bA]))
end Yt
namespace Yt
open Go Go.Vc Go.Proofs Go.Proofs.Ytbnbngkbngmndaa
set_option linter.unusedSimpArgs false
set_option linter.unusedVariables false
mutual
theorem bulk_le {H : Type} {B : Nat} : ∀ d : DataW H, Rows.uptoBulk d ≤ B → bulkLe B d
  | .lit l, h => by
    cases l with
    | string bs => simp only [Rows.uptoBulk] at h; simp only [bulkLe]; omega
    | _ => simp only [bulkLe]
  | .nil, _ => by simp only [bulkLe]
  | .ptr d, _ => by simp only [bulkLe]
  | .slice elems spare, h => by
    simp only [Rows.uptoBulk] at h
    have h2 := bulks_len elems
    simp only [bulkLe]
    exact ⟨by omega, bulks_le elems (by omega)⟩
  | .agg ds, h => by
    simp only [Rows.uptoBulk] at h
    simp only [bulkLe]
    exact bulks_le ds (by omega)
  | .iface _ _, _ => by simp only [bulkLe]
  | .map _, _ => by simp only [bulkLe]
  | .held _, _ => by simp only [bulkLe]
theorem bulks_le {H : Type} {B : Nat} : ∀ ds : List (DataW H), Rows.uptoBulkAll ds ≤ B → bulkLe.bulkLes B ds
  | [], _ => trivial
  | d :: r, h => by
    simp only [Rows.uptoBulkAll] at h
    exact ⟨bulk_le d (by omega), bulks_le r (by omega)⟩
theorem bulk_pos {H : Type} : ∀ d : DataW H, 1 ≤ Rows.uptoBulk d
  | .lit l => by cases l <;> simp [Rows.uptoBulk]
  | .nil => by simp [Rows.uptoBulk]
  | .ptr d => by simp [Rows.uptoBulk]
  | .slice elems spare => by simp [Rows.uptoBulk]
  | .agg ds => by simp [Rows.uptoBulk]
  | .iface _ _ => by simp [Rows.uptoBulk]
  | .map _ => by simp [Rows.uptoBulk]
  | .held _ => by simp [Rows.uptoBulk]
theorem bulks_len {H : Type} : ∀ ds : List (DataW H), ds.length ≤ Rows.uptoBulkAll ds
  | [] => by simp
  | d :: r => by
    have := bulk_pos d
    have := bulks_len r
    simp only [Rows.uptoBulkAll, List.length_cons]; omega
end
theorem bound {H : Type} {l : List (DataW H)} (hk : Rows.uptoSmall H l = true) : bulkLe.bulkLes 1048576 l := bulks_le l (of_decide_eq_true hk)
theorem kids : Kids Try.prog (· < Try.prog.types.size) := kids_rows (by kernel_rfl) (by kernel_rfl)
def szOk (P : Program) : Bool := (List.range P.types.size).all fun t => match P.underlying t with | some (.slice e) => decide (0 < P.cellsOf e) | _ => true
theorem szOk_to {P : Program} (h : szOk P = true) {t e : TypeId} (ht : t < P.types.size) (hu : P.underlying t = some (.slice e)) : 0 < P.cellsOf e := by
  have := List.all_eq_true.1 h t (by simpa using ht)
  rw [hu] at this
  simpa using this
theorem sizes {t e : TypeId} (ht : t < Try.prog.types.size) (hu : Try.prog.underlying t = some (.slice e)) : 0 < Try.prog.cellsOf e := szOk_to (by kernel_rfl) ht hu
def i64 (n : Int) : Prop := -9223372036854775808 ≤ n ∧ n ≤ 9223372036854775807
theorem i64_of {n : Int} (h : (Lit.int .i64 n).wf = true) : i64 n := by
  simp [Lit.wf, IntKind.min, IntKind.max, IntKind.signed, IntKind.bits] at h
  exact h
def V.fit (v : V) : Prop := i64 v.k ∧ i64 v.i ∧ v.s.size ≤ 1048576
def It.fit (t : It) : Prop := t.row.length ≤ 1048576 ∧ i64 t.w
theorem cellsV : Try.prog.cellsOf 25 = 3 := by kernel_rfl
theorem cellsI : Try.prog.cellsOf 27 = 2 := by kernel_rfl
theorem cells1 : Try.prog.cellsOf 3 = 1 := by kernel_rfl
theorem cellsR : Try.prog.cellsOf 23 = 1 := by kernel_rfl
theorem cellsZ : Try.prog.cellsOf 28 = 1 := by kernel_rfl
theorem shVal {avs : List AV} (h : Sh Try.prog 1048576 25 avs) : ∃ v : V, avs = v.c ∧ v.fit := by
  obtain ⟨xs, rfl, hl, hf⟩ := sh_struct Try.underlying25 h
  match xs, hl with
  | [a, b, c], _ =>
    obtain ⟨k, rfl, hk⟩ := sh_int Try.underlying3 (hf 0 _ a rfl rfl)
    obtain ⟨i, rfl, hi⟩ := sh_int Try.underlying3 (hf 1 _ b rfl rfl)
    obtain ⟨s, rfl, hs⟩ := sh_str Try.underlying9 (hf 2 _ c rfl rfl)
    exact ⟨⟨k, i, s⟩, rfl, i64_of hk, i64_of hi, hs⟩
theorem shRow {avs : List AV} (h : Sh Try.prog 1048576 23 avs) : ∃ r : List V, avs = [rowA r] ∧ r.length ≤ 1048576 := by
  obtain ⟨es, rfl, hl, he⟩ := sh_slice Try.underlying23 h
  obtain ⟨l, rfl, _⟩ := map_choose fun x hx => shVal (he x hx)
  rw [cellsV]
  exact ⟨l, rfl, by simpa using hl⟩
theorem shItem {avs : List AV} (h : Sh Try.prog 1048576 27 avs) : ∃ t : It, avs = t.c ∧ t.fit := by
  obtain ⟨xs, rfl, hl, hf⟩ := sh_struct Try.underlying27 h
  match xs, hl with
  | [a, b], _ =>
    obtain ⟨r, rfl, hr⟩ := shRow (hf 0 _ a rfl rfl)
    obtain ⟨w, rfl, hw⟩ := sh_int Try.underlying3 (hf 1 _ b rfl rfl)
    exact ⟨⟨r, w⟩, rfl, hr, i64_of hw⟩
theorem shSet {avs : List AV} (h : Sh Try.prog 1048576 28 avs) : ∃ l : List It, avs = [setA l] ∧ l.length ≤ 1048576 ∧ ∀ t ∈ l, t.fit := by
  obtain ⟨es, rfl, hl, he⟩ := sh_slice Try.underlying28 h
  obtain ⟨l, rfl, h2⟩ := map_choose fun x hx => shItem (he x hx)
  rw [cellsI]
  exact ⟨l, rfl, by simpa using hl, h2⟩
theorem shSets {avs : List AV} (h : Sh Try.prog 1048576 50 avs) : ∃ l : List (List It), avs = [setsA l] ∧ l.length ≤ 1048576 ∧ ∀ z ∈ l, z.length ≤ 1048576 ∧ ∀ t ∈ z, t.fit := by
  obtain ⟨es, rfl, hl, he⟩ := sh_slice Try.underlying50 h
  obtain ⟨l, rfl, h2⟩ := map_choose (f := fun r => [setA r]) fun x hx => shSet (he x hx)
  rw [cellsZ]
  exact ⟨l, rfl, by simpa using hl, h2⟩
theorem shInts {avs : List AV} (h : Sh Try.prog 1048576 32 avs) : ∃ l : List Int, avs = [intsL l] ∧ l.length ≤ 1048576 ∧ ∀ x ∈ l, i64 x := by
  obtain ⟨es, rfl, hl, he⟩ := sh_slice Try.underlying32 h
  obtain ⟨l, rfl, h2⟩ := map_choose (f := fun n => [iA n]) (p := i64) fun x hx => by
    obtain ⟨n, rfl, hn⟩ := sh_int Try.underlying3 (he x hx)
    exact ⟨n, rfl, i64_of hn⟩
  rw [cells1]
  exact ⟨l, rfl, by simpa using hl, h2⟩
theorem shPred {avs : List AV} (h : Sh Try.prog 1048576 55 avs) : ∃ p : Pr, avs = p.c ∧ p.val.fit ∧ i64 p.kind ∧ i64 p.col ∧ i64 p.other := by
  obtain ⟨xs, rfl, hl, hf⟩ := sh_struct Try.underlying55 h
  match xs, hl with
  | [a, b, c, d], _ =>
    obtain ⟨k, rfl, hk⟩ := sh_int Try.underlying3 (hf 0 _ a rfl rfl)
    obtain ⟨i, rfl, hi⟩ := sh_int Try.underlying3 (hf 1 _ b rfl rfl)
    obtain ⟨o, rfl, ho⟩ := sh_int Try.underlying3 (hf 2 _ c rfl rfl)
    obtain ⟨v, rfl, hv⟩ := shVal (hf 3 _ d rfl rfl)
    exact ⟨⟨k, i, o, v⟩, rfl, hv, i64_of hk, i64_of hi, i64_of ho⟩
theorem own : ownKnob Try.prog.godebug = none := by kernel_rfl
def signs : List Char := [Char.ofNat 104, Char.ofNat 97, Char.ofNat 114, Char.ofNat 110, Char.ofNat 101, Char.ofNat 115, Char.ofNat 115, Char.ofNat 32, Char.ofNat 55, Char.ofNat 97, Char.ofNat 99, Char.ofNat 53, Char.ofNat 53, Char.ofNat 101, Char.ofNat 99, Char.ofNat 99, Char.ofNat 52, Char.ofNat 56, Char.ofNat 55, Char.ofNat 54, Char.ofNat 48, Char.ofNat 52, Char.ofNat 56, Char.ofNat 56, Char.ofNat 97, Char.ofNat 54, Char.ofNat 55, Char.ofNat 57, Char.ofNat 100, Char.ofNat 49, Char.ofNat 99, Char.ofNat 56, Char.ofNat 101, Char.ofNat 97, Char.ofNat 56, Char.ofNat 55, Char.ofNat 56, Char.ofNat 54, Char.ofNat 98, Char.ofNat 101, Char.ofNat 100, Char.ofNat 52, Char.ofNat 56, Char.ofNat 56, Char.ofNat 100, Char.ofNat 100, Char.ofNat 48, Char.ofNat 100, Char.ofNat 54, Char.ofNat 51, Char.ofNat 99, Char.ofNat 51, Char.ofNat 53, Char.ofNat 48, Char.ofNat 57, Char.ofNat 102, Char.ofNat 54, Char.ofNat 55, Char.ofNat 48, Char.ofNat 51, Char.ofNat 102, Char.ofNat 55, Char.ofNat 101, Char.ofNat 55, Char.ofNat 98, Char.ofNat 53, Char.ofNat 102, Char.ofNat 52, Char.ofNat 53, Char.ofNat 99, Char.ofNat 100, Char.ofNat 100, Char.ofNat 32, Char.ofNat 99, Char.ofNat 117, Char.ofNat 116, Char.ofNat 32, Char.ofNat 97, Char.ofNat 116, Char.ofNat 32, Char.ofNat 114, Char.ofNat 97, Char.ofNat 100, Char.ofNat 100, Char.ofNat 108, Char.ofNat 101, Char.ofNat 47, Char.ofNat 114, Char.ofNat 97, Char.ofNat 100, Char.ofNat 100, Char.ofNat 108, Char.ofNat 101, Char.ofNat 108, Char.ofNat 97, Char.ofNat 119, Char.ofNat 49, Char.ofNat 55, Char.ofNat 46, Char.ofNat 74, Char.ofNat 111, Char.ofNat 105, Char.ofNat 110, Char.ofNat 87, Char.ofNat 105, Char.ofNat 100, Char.ofNat 101, Char.ofNat 32, Char.ofNat 114, Char.ofNat 97, Char.ofNat 100, Char.ofNat 100, Char.ofNat 108, Char.ofNat 101, Char.ofNat 47, Char.ofNat 114, Char.ofNat 97, Char.ofNat 100, Char.ofNat 100, Char.ofNat 108, Char.ofNat 101, Char.ofNat 108, Char.ofNat 97, Char.ofNat 119, Char.ofNat 49, Char.ofNat 56, Char.ofNat 46, Char.ofNat 68, Char.ofNat 105, Char.ofNat 115, Char.ofNat 116, Char.ofNat 69, Char.ofNat 120, Char.ofNat 97, Char.ofNat 99, Char.ofNat 116, Char.ofNat 32, Char.ofNat 114, Char.ofNat 97, Char.ofNat 100, Char.ofNat 100, Char.ofNat 108, Char.ofNat 101, Char.ofNat 47, Char.ofNat 114, Char.ofNat 97, Char.ofNat 100, Char.ofNat 100, Char.ofNat 108, Char.ofNat 101, Char.ofNat 108, Char.ofNat 97, Char.ofNat 119, Char.ofNat 49, Char.ofNat 56, Char.ofNat 46, Char.ofNat 68, Char.ofNat 105, Char.ofNat 115, Char.ofNat 116, Char.ofNat 83, Char.ofNat 116, Char.ofNat 101, Char.ofNat 112, Char.ofNat 115, Char.ofNat 32, Char.ofNat 114, Char.ofNat 97, Char.ofNat 100, Char.ofNat 100, Char.ofNat 108, Char.ofNat 101, Char.ofNat 47, Char.ofNat 114, Char.ofNat 97, Char.ofNat 100, Char.ofNat 100, Char.ofNat 108, Char.ofNat 101, Char.ofNat 108, Char.ofNat 97, Char.ofNat 119, Char.ofNat 49, Char.ofNat 55, Char.ofNat 46, Char.ofNat 74, Char.ofNat 111, Char.ofNat 105, Char.ofNat 110, Char.ofNat 82, Char.ofNat 111, Char.ofNat 119, Char.ofNat 115, Char.ofNat 32, Char.ofNat 114, Char.ofNat 97, Char.ofNat 100, Char.ofNat 100, Char.ofNat 108, Char.ofNat 101, Char.ofNat 47, Char.ofNat 114, Char.ofNat 97, Char.ofNat 100, Char.ofNat 100, Char.ofNat 108, Char.ofNat 101, Char.ofNat 108, Char.ofNat 97, Char.ofNat 119, Char.ofNat 49, Char.ofNat 56, Char.ofNat 46, Char.ofNat 68, Char.ofNat 105, Char.ofNat 115, Char.ofNat 116, Char.ofNat 65, Char.ofNat 100, Char.ofNat 100, Char.ofNat 115, Char.ofNat 32, Char.ofNat 114, Char.ofNat 97, Char.ofNat 100, Char.ofNat 100, Char.ofNat 108, Char.ofNat 101, Char.ofNat 47, Char.ofNat 114, Char.ofNat 97, Char.ofNat 100, Char.ofNat 100, Char.ofNat 108, Char.ofNat 101, Char.ofNat 108, Char.ofNat 97, Char.ofNat 119, Char.ofNat 49, Char.ofNat 55, Char.ofNat 46, Char.ofNat 74, Char.ofNat 111, Char.ofNat 105, Char.ofNat 110, Char.ofNat 83, Char.ofNat 119, Char.ofNat 97, Char.ofNat 112, Char.ofNat 115, Char.ofNat 32, Char.ofNat 114, Char.ofNat 97, Char.ofNat 100, Char.ofNat 100, Char.ofNat 108, Char.ofNat 101, Char.ofNat 47, Char.ofNat 114, Char.ofNat 97, Char.ofNat 100, Char.ofNat 100, Char.ofNat 108, Char.ofNat 101, Char.ofNat 108, Char.ofNat 97, Char.ofNat 119, Char.ofNat 49, Char.ofNat 56, Char.ofNat 46, Char.ofNat 68, Char.ofNat 105, Char.ofNat 115, Char.ofNat 116, Char.ofNat 70, Char.ofNat 105, Char.ofNat 108, Char.ofNat 116, Char.ofNat 101, Char.ofNat 114, Char.ofNat 115, Char.ofNat 32, Char.ofNat 114, Char.ofNat 97, Char.ofNat 100, Char.ofNat 100, Char.ofNat 108, Char.ofNat 101, Char.ofNat 47, Char.ofNat 114, Char.ofNat 97, Char.ofNat 100, Char.ofNat 100, Char.ofNat 108, Char.ofNat 101, Char.ofNat 108, Char.ofNat 97, Char.ofNat 119, Char.ofNat 49, Char.ofNat 54, Char.ofNat 46, Char.ofNat 76, Char.ofNat 105, Char.ofNat 110, Char.ofNat 84, Char.ofNat 119, Char.ofNat 105, Char.ofNat 99, Char.ofNat 101, Char.ofNat 32, Char.ofNat 114, Char.ofNat 97, Char.ofNat 100, Char.ofNat 100, Char.ofNat 108, Char.ofNat 101, Char.ofNat 47, Char.ofNat 114, Char.ofNat 97, Char.ofNat 100, Char.ofNat 100, Char.ofNat 108, Char.ofNat 101, Char.ofNat 108, Char.ofNat 97, Char.ofNat 119, Char.ofNat 49, Char.ofNat 54, Char.ofNat 46, Char.ofNat 76, Char.ofNat 105, Char.ofNat 110, Char.ofNat 87, Char.ofNat 114, Char.ofNat 97, Char.ofNat 112, Char.ofNat 115, Char.ofNat 32, Char.ofNat 114, Char.ofNat 97, Char.ofNat 100, Char.ofNat 100, Char.ofNat 108, Char.ofNat 101, Char.ofNat 47, Char.ofNat 114, Char.ofNat 97, Char.ofNat 100, Char.ofNat 100, Char.ofNat 108, Char.ofNat 101, Char.ofNat 108, Char.ofNat 97, Char.ofNat 119, Char.ofNat 49, Char.ofNat 54, Char.ofNat 46, Char.ofNat 76, Char.ofNat 105, Char.ofNat 110, Char.ofNat 69, Char.ofNat 120, Char.ofNat 97, Char.ofNat 99, Char.ofNat 116, Char.ofNat 32, Char.ofNat 114, Char.ofNat 97, Char.ofNat 100, Char.ofNat 100, Char.ofNat 108, Char.ofNat 101, Char.ofNat 47, Char.ofNat 114, Char.ofNat 97, Char.ofNat 100, Char.ofNat 100, Char.ofNat 108, Char.ofNat 101, Char.ofNat 108, Char.ofNat 97, Char.ofNat 119, Char.ofNat 49, Char.ofNat 54, Char.ofNat 46, Char.ofNat 76, Char.ofNat 105, Char.ofNat 110, Char.ofNat 83, Char.ofNat 117, Char.ofNat 109, Char.ofNat 115, Char.ofNat 32, Char.ofNat 114, Char.ofNat 97, Char.ofNat 100, Char.ofNat 100, Char.ofNat 108, Char.ofNat 101, Char.ofNat 47, Char.ofNat 114, Char.ofNat 97, Char.ofNat 100, Char.ofNat 100, Char.ofNat 108, Char.ofNat 101, Char.ofNat 108, Char.ofNat 97, Char.ofNat 119, Char.ofNat 49, Char.ofNat 54, Char.ofNat 46, Char.ofNat 76, Char.ofNat 105, Char.ofNat 110, Char.ofNat 79, Char.ofNat 102, Char.ofNat 102, Char.ofNat 32, Char.ofNat 114, Char.ofNat 97, Char.ofNat 100, Char.ofNat 100, Char.ofNat 108, Char.ofNat 101, Char.ofNat 47, Char.ofNat 114, Char.ofNat 97, Char.ofNat 100, Char.ofNat 100, Char.ofNat 108, Char.ofNat 101, Char.ofNat 108, Char.ofNat 97, Char.ofNat 119, Char.ofNat 49, Char.ofNat 54, Char.ofNat 46, Char.ofNat 76, Char.ofNat 105, Char.ofNat 110, Char.ofNat 82, Char.ofNat 111, Char.ofNat 119, Char.ofNat 115, Char.ofNat 32, Char.ofNat 114, Char.ofNat 97, Char.ofNat 100, Char.ofNat 100, Char.ofNat 108, Char.ofNat 101, Char.ofNat 47, Char.ofNat 114, Char.ofNat 97, Char.ofNat 100, Char.ofNat 100, Char.ofNat 108, Char.ofNat 101, Char.ofNat 108, Char.ofNat 97, Char.ofNat 119, Char.ofNat 49, Char.ofNat 55, Char.ofNat 46, Char.ofNat 74, Char.ofNat 111, Char.ofNat 105, Char.ofNat 110, Char.ofNat 70, Char.ofNat 105, Char.ofNat 108, Char.ofNat 116, Char.ofNat 101, Char.ofNat 114, Char.ofNat 115, Char.ofNat 32, Char.ofNat 114, Char.ofNat 97, Char.ofNat 100, Char.ofNat 100, Char.ofNat 108, Char.ofNat 101, Char.ofNat 47, Char.ofNat 114, Char.ofNat 97, Char.ofNat 100, Char.ofNat 100, Char.ofNat 108, Char.ofNat 101, Char.ofNat 108, Char.ofNat 97, Char.ofNat 119, Char.ofNat 49, Char.ofNat 55, Char.ofNat 46, Char.ofNat 74, Char.ofNat 111, Char.ofNat 105, Char.ofNat 110, Char.ofNat 69, Char.ofNat 120, Char.ofNat 97, Char.ofNat 99, Char.ofNat 116, Char.ofNat 32, Char.ofNat 114, Char.ofNat 97, Char.ofNat 100, Char.ofNat 100, Char.ofNat 108, Char.ofNat 101, Char.ofNat 47, Char.ofNat 114, Char.ofNat 97, Char.ofNat 100, Char.ofNat 100, Char.ofNat 108, Char.ofNat 101, Char.ofNat 108, Char.ofNat 97, Char.ofNat 119, Char.ofNat 49, Char.ofNat 55, Char.ofNat 46, Char.ofNat 74, Char.ofNat 111, Char.ofNat 105, Char.ofNat 110, Char.ofNat 80, Char.ofNat 97, Char.ofNat 114, Char.ofNat 116, Char.ofNat 115, Char.ofNat 32, Char.ofNat 114, Char.ofNat 97, Char.ofNat 100, Char.ofNat 100, Char.ofNat 108, Char.ofNat 101, Char.ofNat 47, Char.ofNat 114, Char.ofNat 97, Char.ofNat 100, Char.ofNat 100, Char.ofNat 108, Char.ofNat 101, Char.ofNat 108, Char.ofNat 97, Char.ofNat 119, Char.ofNat 49, Char.ofNat 57, Char.ofNat 46, Char.ofNat 65, Char.ofNat 103, Char.ofNat 103, Char.ofNat 84, Char.ofNat 101, Char.ofNat 108, Char.ofNat 108, Char.ofNat 115, Char.ofNat 32, Char.ofNat 114, Char.ofNat 97, Char.ofNat 100, Char.ofNat 100, Char.ofNat 108, Char.ofNat 101, Char.ofNat 47, Char.ofNat 114, Char.ofNat 97, Char.ofNat 100, Char.ofNat 100, Char.ofNat 108, Char.ofNat 101, Char.ofNat 108, Char.ofNat 97, Char.ofNat 119, Char.ofNat 49, Char.ofNat 57, Char.ofNat 46, Char.ofNat 65, Char.ofNat 103, Char.ofNat 103, Char.ofNat 84, Char.ofNat 111, Char.ofNat 116, Char.ofNat 97, Char.ofNat 108, Char.ofNat 32, Char.ofNat 114, Char.ofNat 97, Char.ofNat 100, Char.ofNat 100, Char.ofNat 108, Char.ofNat 101, Char.ofNat 47, Char.ofNat 114, Char.ofNat 97, Char.ofNat 100, Char.ofNat 100, Char.ofNat 108, Char.ofNat 101, Char.ofNat 108, Char.ofNat 97, Char.ofNat 119, Char.ofNat 49, Char.ofNat 57, Char.ofNat 46, Char.ofNat 65, Char.ofNat 103, Char.ofNat 103, Char.ofNat 79, Char.ofNat 118, Char.ofNat 101, Char.ofNat 114, Char.ofNat 32, Char.ofNat 114, Char.ofNat 97, Char.ofNat 100, Char.ofNat 100, Char.ofNat 108, Char.ofNat 101, Char.ofNat 47, Char.ofNat 114, Char.ofNat 97, Char.ofNat 100, Char.ofNat 100, Char.ofNat 108, Char.ofNat 101, Char.ofNat 108, Char.ofNat 97, Char.ofNat 119, Char.ofNat 49, Char.ofNat 57, Char.ofNat 46, Char.ofNat 65, Char.ofNat 103, Char.ofNat 103, Char.ofNat 83, Char.ofNat 111, Char.ofNat 109, Char.ofNat 101, Char.ofNat 32, Char.ofNat 114, Char.ofNat 97, Char.ofNat 100, Char.ofNat 100, Char.ofNat 108, Char.ofNat 101, Char.ofNat 47, Char.ofNat 114, Char.ofNat 97, Char.ofNat 100, Char.ofNat 100, Char.ofNat 108, Char.ofNat 101, Char.ofNat 108, Char.ofNat 97, Char.ofNat 119, Char.ofNat 49, Char.ofNat 57, Char.ofNat 46, Char.ofNat 65, Char.ofNat 103, Char.ofNat 103, Char.ofNat 75, Char.ofNat 101, Char.ofNat 121, Char.ofNat 115, Char.ofNat 32, Char.ofNat 114, Char.ofNat 97, Char.ofNat 100, Char.ofNat 100, Char.ofNat 108, Char.ofNat 101, Char.ofNat 47, Char.ofNat 114, Char.ofNat 97, Char.ofNat 100, Char.ofNat 100, Char.ofNat 108, Char.ofNat 101, Char.ofNat 108, Char.ofNat 97, Char.ofNat 119, Char.ofNat 49, Char.ofNat 57, Char.ofNat 46, Char.ofNat 65, Char.ofNat 103, Char.ofNat 103, Char.ofNat 69, Char.ofNat 120, Char.ofNat 97, Char.ofNat 99, Char.ofNat 116, Char.ofNat 32, Char.ofNat 114, Char.ofNat 97, Char.ofNat 100, Char.ofNat 100, Char.ofNat 108, Char.ofNat 101, Char.ofNat 47, Char.ofNat 114, Char.ofNat 97, Char.ofNat 100, Char.ofNat 100, Char.ofNat 108, Char.ofNat 101, Char.ofNat 108, Char.ofNat 97, Char.ofNat 119, Char.ofNat 49, Char.ofNat 57, Char.ofNat 46, Char.ofNat 65, Char.ofNat 103, Char.ofNat 103, Char.ofNat 65, Char.ofNat 100, Char.ofNat 100, Char.ofNat 115]
theorem words_eq : headIs Try.prog ([Char.ofNat 99, Char.ofNat 117, Char.ofNat 116] :: [[Char.ofNat 97, Char.ofNat 116], [Char.ofNat 114, Char.ofNat 97, Char.ofNat 100, Char.ofNat 100, Char.ofNat 108, Char.ofNat 101, Char.ofNat 47, Char.ofNat 114, Char.ofNat 97, Char.ofNat 100, Char.ofNat 100, Char.ofNat 108, Char.ofNat 101, Char.ofNat 108, Char.ofNat 97, Char.ofNat 119, Char.ofNat 49, Char.ofNat 55, Char.ofNat 46, Char.ofNat 74, Char.ofNat 111, Char.ofNat 105, Char.ofNat 110, Char.ofNat 87, Char.ofNat 105, Char.ofNat 100, Char.ofNat 101], [Char.ofNat 114, Char.ofNat 97, Char.ofNat 100, Char.ofNat 100, Char.ofNat 108, Char.ofNat 101, Char.ofNat 47, Char.ofNat 114, Char.ofNat 97, Char.ofNat 100, Char.ofNat 100, Char.ofNat 108, Char.ofNat 101, Char.ofNat 108, Char.ofNat 97, Char.ofNat 119, Char.ofNat 49, Char.ofNat 56, Char.ofNat 46, Char.ofNat 68, Char.ofNat 105, Char.ofNat 115, Char.ofNat 116, Char.ofNat 69, Char.ofNat 120, Char.ofNat 97, Char.ofNat 99, Char.ofNat 116], [Char.ofNat 114, Char.ofNat 97, Char.ofNat 100, Char.ofNat 100, Char.ofNat 108, Char.ofNat 101, Char.ofNat 47, Char.ofNat 114, Char.ofNat 97, Char.ofNat 100, Char.ofNat 100, Char.ofNat 108, Char.ofNat 101, Char.ofNat 108, Char.ofNat 97, Char.ofNat 119, Char.ofNat 49, Char.ofNat 56, Char.ofNat 46, Char.ofNat 68, Char.ofNat 105, Char.ofNat 115, Char.ofNat 116, Char.ofNat 83, Char.ofNat 116, Char.ofNat 101, Char.ofNat 112, Char.ofNat 115], [Char.ofNat 114, Char.ofNat 97, Char.ofNat 100, Char.ofNat 100, Char.ofNat 108, Char.ofNat 101, Char.ofNat 47, Char.ofNat 114, Char.ofNat 97, Char.ofNat 100, Char.ofNat 100, Char.ofNat 108, Char.ofNat 101, Char.ofNat 108, Char.ofNat 97, Char.ofNat 119, Char.ofNat 49, Char.ofNat 55, Char.ofNat 46, Char.ofNat 74, Char.ofNat 111, Char.ofNat 105, Char.ofNat 110, Char.ofNat 82, Char.ofNat 111, Char.ofNat 119, Char.ofNat 115], [Char.ofNat 114, Char.ofNat 97, Char.ofNat 100, Char.ofNat 100, Char.ofNat 108, Char.ofNat 101, Char.ofNat 47, Char.ofNat 114, Char.ofNat 97, Char.ofNat 100, Char.ofNat 100, Char.ofNat 108, Char.ofNat 101, Char.ofNat 108, Char.ofNat 97, Char.ofNat 119, Char.ofNat 49, Char.ofNat 56, Char.ofNat 46, Char.ofNat 68, Char.ofNat 105, Char.ofNat 115, Char.ofNat 116, Char.ofNat 65, Char.ofNat 100, Char.ofNat 100, Char.ofNat 115], [Char.ofNat 114, Char.ofNat 97, Char.ofNat 100, Char.ofNat 100, Char.ofNat 108, Char.ofNat 101, Char.ofNat 47, Char.ofNat 114, Char.ofNat 97, Char.ofNat 100, Char.ofNat 100, Char.ofNat 108, Char.ofNat 101, Char.ofNat 108, Char.ofNat 97, Char.ofNat 119, Char.ofNat 49, Char.ofNat 55, Char.ofNat 46, Char.ofNat 74, Char.ofNat 111, Char.ofNat 105, Char.ofNat 110, Char.ofNat 83, Char.ofNat 119, Char.ofNat 97, Char.ofNat 112, Char.ofNat 115], [Char.ofNat 114, Char.ofNat 97, Char.ofNat 100, Char.ofNat 100, Char.ofNat 108, Char.ofNat 101, Char.ofNat 47, Char.ofNat 114, Char.ofNat 97, Char.ofNat 100, Char.ofNat 100, Char.ofNat 108, Char.ofNat 101, Char.ofNat 108, Char.ofNat 97, Char.ofNat 119, Char.ofNat 49, Char.ofNat 56, Char.ofNat 46, Char.ofNat 68, Char.ofNat 105, Char.ofNat 115, Char.ofNat 116, Char.ofNat 70, Char.ofNat 105, Char.ofNat 108, Char.ofNat 116, Char.ofNat 101, Char.ofNat 114, Char.ofNat 115], [Char.ofNat 114, Char.ofNat 97, Char.ofNat 100, Char.ofNat 100, Char.ofNat 108, Char.ofNat 101, Char.ofNat 47, Char.ofNat 114, Char.ofNat 97, Char.ofNat 100, Char.ofNat 100, Char.ofNat 108, Char.ofNat 101, Char.ofNat 108, Char.ofNat 97, Char.ofNat 119, Char.ofNat 49, Char.ofNat 54, Char.ofNat 46, Char.ofNat 76, Char.ofNat 105, Char.ofNat 110, Char.ofNat 84, Char.ofNat 119, Char.ofNat 105, Char.ofNat 99, Char.ofNat 101], [Char.ofNat 114, Char.ofNat 97, Char.ofNat 100, Char.ofNat 100, Char.ofNat 108, Char.ofNat 101, Char.ofNat 47, Char.ofNat 114, Char.ofNat 97, Char.ofNat 100, Char.ofNat 100, Char.ofNat 108, Char.ofNat 101, Char.ofNat 108, Char.ofNat 97, Char.ofNat 119, Char.ofNat 49, Char.ofNat 54, Char.ofNat 46, Char.ofNat 76, Char.ofNat 105, Char.ofNat 110, Char.ofNat 87, Char.ofNat 114, Char.ofNat 97, Char.ofNat 112, Char.ofNat 115], [Char.ofNat 114, Char.ofNat 97, Char.ofNat 100, Char.ofNat 100, Char.ofNat 108, Char.ofNat 101, Char.ofNat 47, Char.ofNat 114, Char.ofNat 97, Char.ofNat 100, Char.ofNat 100, Char.ofNat 108, Char.ofNat 101, Char.ofNat 108, Char.ofNat 97, Char.ofNat 119, Char.ofNat 49, Char.ofNat 54, Char.ofNat 46, Char.ofNat 76, Char.ofNat 105, Char.ofNat 110, Char.ofNat 69, Char.ofNat 120, Char.ofNat 97, Char.ofNat 99, Char.ofNat 116], [Char.ofNat 114, Char.ofNat 97, Char.ofNat 100, Char.ofNat 100, Char.ofNat 108, Char.ofNat 101, Char.ofNat 47, Char.ofNat 114, Char.ofNat 97, Char.ofNat 100, Char.ofNat 100, Char.ofNat 108, Char.ofNat 101, Char.ofNat 108, Char.ofNat 97, Char.ofNat 119, Char.ofNat 49, Char.ofNat 54, Char.ofNat 46, Char.ofNat 76, Char.ofNat 105, Char.ofNat 110, Char.ofNat 83, Char.ofNat 117, Char.ofNat 109, Char.ofNat 115], [Char.ofNat 114, Char.ofNat 97, Char.ofNat 100, Char.ofNat 100, Char.ofNat 108, Char.ofNat 101, Char.ofNat 47, Char.ofNat 114, Char.ofNat 97, Char.ofNat 100, Char.ofNat 100, Char.ofNat 108, Char.ofNat 101, Char.ofNat 108, Char.ofNat 97, Char.ofNat 119, Char.ofNat 49, Char.ofNat 54, Char.ofNat 46, Char.ofNat 76, Char.ofNat 105, Char.ofNat 110, Char.ofNat 79, Char.ofNat 102, Char.ofNat 102], [Char.ofNat 114, Char.ofNat 97, Char.ofNat 100, Char.ofNat 100, Char.ofNat 108, Char.ofNat 101, Char.ofNat 47, Char.ofNat 114, Char.ofNat 97, Char.ofNat 100, Char.ofNat 100, Char.ofNat 108, Char.ofNat 101, Char.ofNat 108, Char.ofNat 97, Char.ofNat 119, Char.ofNat 49, Char.ofNat 54, Char.ofNat 46, Char.ofNat 76, Char.ofNat 105, Char.ofNat 110, Char.ofNat 82, Char.ofNat 111, Char.ofNat 119, Char.ofNat 115], [Char.ofNat 114, Char.ofNat 97, Char.ofNat 100, Char.ofNat 100, Char.ofNat 108, Char.ofNat 101, Char.ofNat 47, Char.ofNat 114, Char.ofNat 97, Char.ofNat 100, Char.ofNat 100, Char.ofNat 108, Char.ofNat 101, Char.ofNat 108, Char.ofNat 97, Char.ofNat 119, Char.ofNat 49, Char.ofNat 55, Char.ofNat 46, Char.ofNat 74, Char.ofNat 111, Char.ofNat 105, Char.ofNat 110, Char.ofNat 70, Char.ofNat 105, Char.ofNat 108, Char.ofNat 116, Char.ofNat 101, Char.ofNat 114, Char.ofNat 115], [Char.ofNat 114, Char.ofNat 97, Char.ofNat 100, Char.ofNat 100, Char.ofNat 108, Char.ofNat 101, Char.ofNat 47, Char.ofNat 114, Char.ofNat 97, Char.ofNat 100, Char.ofNat 100, Char.ofNat 108, Char.ofNat 101, Char.ofNat 108, Char.ofNat 97, Char.ofNat 119, Char.ofNat 49, Char.ofNat 55, Char.ofNat 46, Char.ofNat 74, Char.ofNat 111, Char.ofNat 105, Char.ofNat 110, Char.ofNat 69, Char.ofNat 120, Char.ofNat 97, Char.ofNat 99, Char.ofNat 116], [Char.ofNat 114, Char.ofNat 97, Char.ofNat 100, Char.ofNat 100, Char.ofNat 108, Char.ofNat 101, Char.ofNat 47, Char.ofNat 114, Char.ofNat 97, Char.ofNat 100, Char.ofNat 100, Char.ofNat 108, Char.ofNat 101, Char.ofNat 108, Char.ofNat 97, Char.ofNat 119, Char.ofNat 49, Char.ofNat 55, Char.ofNat 46, Char.ofNat 74, Char.ofNat 111, Char.ofNat 105, Char.ofNat 110, Char.ofNat 80, Char.ofNat 97, Char.ofNat 114, Char.ofNat 116, Char.ofNat 115], [Char.ofNat 114, Char.ofNat 97, Char.ofNat 100, Char.ofNat 100, Char.ofNat 108, Char.ofNat 101, Char.ofNat 47, Char.ofNat 114, Char.ofNat 97, Char.ofNat 100, Char.ofNat 100, Char.ofNat 108, Char.ofNat 101, Char.ofNat 108, Char.ofNat 97, Char.ofNat 119, Char.ofNat 49, Char.ofNat 57, Char.ofNat 46, Char.ofNat 65, Char.ofNat 103, Char.ofNat 103, Char.ofNat 84, Char.ofNat 101, Char.ofNat 108, Char.ofNat 108, Char.ofNat 115], [Char.ofNat 114, Char.ofNat 97, Char.ofNat 100, Char.ofNat 100, Char.ofNat 108, Char.ofNat 101, Char.ofNat 47, Char.ofNat 114, Char.ofNat 97, Char.ofNat 100, Char.ofNat 100, Char.ofNat 108, Char.ofNat 101, Char.ofNat 108, Char.ofNat 97, Char.ofNat 119, Char.ofNat 49, Char.ofNat 57, Char.ofNat 46, Char.ofNat 65, Char.ofNat 103, Char.ofNat 103, Char.ofNat 84, Char.ofNat 111, Char.ofNat 116, Char.ofNat 97, Char.ofNat 108], [Char.ofNat 114, Char.ofNat 97, Char.ofNat 100, Char.ofNat 100, Char.ofNat 108, Char.ofNat 101, Char.ofNat 47, Char.ofNat 114, Char.ofNat 97, Char.ofNat 100, Char.ofNat 100, Char.ofNat 108, Char.ofNat 101, Char.ofNat 108, Char.ofNat 97, Char.ofNat 119, Char.ofNat 49, Char.ofNat 57, Char.ofNat 46, Char.ofNat 65, Char.ofNat 103, Char.ofNat 103, Char.ofNat 79, Char.ofNat 118, Char.ofNat 101, Char.ofNat 114], [Char.ofNat 114, Char.ofNat 97, Char.ofNat 100, Char.ofNat 100, Char.ofNat 108, Char.ofNat 101, Char.ofNat 47, Char.ofNat 114, Char.ofNat 97, Char.ofNat 100, Char.ofNat 100, Char.ofNat 108, Char.ofNat 101, Char.ofNat 108, Char.ofNat 97, Char.ofNat 119, Char.ofNat 49, Char.ofNat 57, Char.ofNat 46, Char.ofNat 65, Char.ofNat 103, Char.ofNat 103, Char.ofNat 83, Char.ofNat 111, Char.ofNat 109, Char.ofNat 101], [Char.ofNat 114, Char.ofNat 97, Char.ofNat 100, Char.ofNat 100, Char.ofNat 108, Char.ofNat 101, Char.ofNat 47, Char.ofNat 114, Char.ofNat 97, Char.ofNat 100, Char.ofNat 100, Char.ofNat 108, Char.ofNat 101, Char.ofNat 108, Char.ofNat 97, Char.ofNat 119, Char.ofNat 49, Char.ofNat 57, Char.ofNat 46, Char.ofNat 65, Char.ofNat 103, Char.ofNat 103, Char.ofNat 75, Char.ofNat 101, Char.ofNat 121, Char.ofNat 115], [Char.ofNat 114, Char.ofNat 97, Char.ofNat 100, Char.ofNat 100, Char.ofNat 108, Char.ofNat 101, Char.ofNat 47, Char.ofNat 114, Char.ofNat 97, Char.ofNat 100, Char.ofNat 100, Char.ofNat 108, Char.ofNat 101, Char.ofNat 108, Char.ofNat 97, Char.ofNat 119, Char.ofNat 49, Char.ofNat 57, Char.ofNat 46, Char.ofNat 65, Char.ofNat 103, Char.ofNat 103, Char.ofNat 69, Char.ofNat 120, Char.ofNat 97, Char.ofNat 99, Char.ofNat 116], [Char.ofNat 114, Char.ofNat 97, Char.ofNat 100, Char.ofNat 100, Char.ofNat 108, Char.ofNat 101, Char.ofNat 47, Char.ofNat 114, Char.ofNat 97, Char.ofNat 100, Char.ofNat 100, Char.ofNat 108, Char.ofNat 101, Char.ofNat 108, Char.ofNat 97, Char.ofNat 119, Char.ofNat 49, Char.ofNat 57, Char.ofNat 46, Char.ofNat 65, Char.ofNat 103, Char.ofNat 103, Char.ofNat 65, Char.ofNat 100, Char.ofNat 100, Char.ofNat 115]]) := head_of (l := signs) (by kernel_rfl) (by kernel_rfl)
theorem laid : laidOutB Try.prog = true := by kernel_rfl
theorem rowed : mapsRowed Try.prog = true := by kernel_rfl
theorem heard : Try.prog.stopsHeard = true := by kernel_rfl
theorem plain : Try.prog.plainKeys = true := by kernel_rfl
theorem doorRows : Try.prog.doorRows = [] := by kernel_rfl
theorem laysLater : Try.prog.laysLater = false := by kernel_rfl
theorem bearsReflect : Try.prog.bearsReflect = false := by kernel_rfl
theorem cutMade : Try.prog.make = some .cut := make_of words_eq (by kernel_rfl) (by kernel_rfl)
theorem cutLifts : Try.prog.liftsFinal = false := lifts_of words_eq (by kernel_rfl) (by kernel_rfl) (by kernel_rfl)
theorem cutEnter : Try.prog.mayEnter = true := enter_of words_eq (by kernel_rfl) (by kernel_rfl) (by kernel_rfl) (by kernel_rfl) doorRows laysLater bearsReflect
end Yt
