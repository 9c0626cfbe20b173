/- Contracts of the program's functions over abstract values and states, plain facts on which these lean, and the framework of these values over the model: Columns picked; sets projected. The wake of chapter 16; what is left aside. Freezing; what is filtered is small. Plain facts of what is projected. Distinct rows; sets as what their makers answer, let go. Plain facts of distinct rows; the wake of chapter 18. Products in 64 bits; what meets. Rows side by side. The pairs that meet. Sets joined. What a join is more; the wake of chapter 17. Plain facts of joins. Few; the wake of chapter 17. The law JoinParts. Rows of two columns; sums over pairs. The law JoinSwaps. The law JoinFilters. The law JoinRows. The law LinRows. The law DistFilters. The law DistAdds. The law DistSteps. Groups: what is told of each. Groups: the search among them. slices.Insert at groups: the roads, of memory itself. Groups: slices.Insert; objects of a family. The groups of a set. agg.Group. Wide sets; the wake of chapter 19; Delta. Groups of small sets: plain facts. The wake of chapter 19. agg.Delta. The law AggSome. The law AggKeys. Groups: sums and bests of parts. The conditions stand in each theorem. -/
import Derived.Test.YtbnbngkbngmndaaBd
import Derived.Test.YtbnbngkbngmndaaBb
import Derived.Test.YtbnbngkbngmndaaBc
import Derived.Shelf.RegionOpenPlain
import Derived.Shelf.Spec.SlicesInsertGrow
set_option linter.all false
namespace Yt
open Go Go.Vc Go.Proofs
set_option maxRecDepth 10000
set_option maxHeartbeats 8000000
set_option linter.unusedSimpArgs false
set_option linter.unusedVariables false
def intsL (l : List Int) : AV := .im 1 (l.map fun n => [iA n])
theorem c132 (g : Nat) (caps : List AV) (hc : noIds caps = true) (p : Int → Bool) (hg : ∀ n : Int, Spec0 Try.prog g (iA n :: caps) (· = bA (p n))) (a : List Int) (ha : a.length < 4611686018427387904) :
    Spec0 Try.prog 132 [intsL a, .fn g caps] (· = idxA p a) := by
  refine spec0_of_vc tabOk elems ord132 Try.func132 rfl (rl := [.tmp 4]) rfl (by kernel_rfl) rfl ?_
  (simp -implicitDefEqProofs only [go_sem, intsL]; repeat (refine GO ?_; simp -implicitDefEqProofs only [go_sem, intsL]))
  refine LOOP.mk (ι := { i : Nat // i ≤ a.length ∧ ∀ j (hj : j < a.length), j < i → p a[j] = false }) (fun i => mkS [(0, intsL a), (1, .fn g caps), (7, iA a.length), (8, iA i.1)] [] []) (fun i => a.length - i.1)
    ⟨0, by simp⟩ [] rfl rfl ?_ (fun i => ?_)
  · (simp -implicitDefEqProofs only [go_sem, intsL, iA]; repeat (refine GO ?_; simp -implicitDefEqProofs only [go_sem, intsL, iA]))
    exact ⟨id, wks_noId caps hc, rfl⟩
  · obtain ⟨i, hi, hz⟩ := i
    (simp -implicitDefEqProofs only [go_sem, intsL, iA]; repeat (refine GO ?_; simp -implicitDefEqProofs only [go_sem, intsL, iA]))
    refine VIF.split (fun h => ?_) (fun h => ?_)
    · have hi' : i < a.length := by simpa using h
      have w1 := wrap_add1 (show i < 4611686018427387904 by omega)
      (simp -implicitDefEqProofs only [go_sem]; repeat (refine GO ?_; simp -implicitDefEqProofs only [go_sem]))
      refine EL.map hi' ?_
      (simp -implicitDefEqProofs only [go_sem]; repeat (refine GO ?_; simp -implicitDefEqProofs only [go_sem]))
      refine .pure _ (hg a[i]) (by simpa [noIds, AV.noId, iA] using hc) fun r hr _ => ?_
      subst hr
      (simp -implicitDefEqProofs only [go_sem, bA]; repeat (refine GO ?_; simp -implicitDefEqProofs only [go_sem, bA]))
      refine VIF.split (fun e => ?_) (fun e => ?_)
      · (simp -implicitDefEqProofs only [go_sem]; repeat (refine GO ?_; simp -implicitDefEqProofs only [go_sem]))
        have : a.findIdx? p = some i := by
          rw [List.findIdx?_eq_some_iff_getElem]
          exact ⟨hi', e, fun j hj => by simpa using hz j (by omega) hj⟩
        simp [idxA, this, idxI, iA]
      · (simp -implicitDefEqProofs only [go_sem, w1]; repeat (refine GO ?_; simp -implicitDefEqProofs only [go_sem, w1]))
        refine BACK.mk ⟨i + 1, by omega, fun j hj hji => ?_⟩ [] rfl rfl (by show a.length - (i + 1) < a.length - i; omega) ?_
        · by_cases e2 : j = i
          · subst e2; exact e
          · exact hz j hj (by omega)
        · (simp -implicitDefEqProofs only [go_sem, intsL, iA, w1]; repeat (refine GO ?_; simp -implicitDefEqProofs only [go_sem, intsL, iA, w1]))
          exact ⟨id, wks_noId caps hc⟩
    · have h : i = a.length := by simp at h; omega
      subst h
      (simp -implicitDefEqProofs only [go_sem]; repeat (refine GO ?_; simp -implicitDefEqProofs only [go_sem]))
      have : a.findIdx? p = none := by
        rw [List.findIdx?_eq_none_iff]; intro x hx
        obtain ⟨j, hj, rfl⟩ := List.mem_iff_getElem.1 hx
        exact hz j hj hj
      simp [idxA, this, idxI, iA]
theorem c102 (g : Nat) (caps : List AV) (hc : noIds caps = true) (p : Int → Bool) (hg : ∀ n : Int, Spec0 Try.prog g (iA n :: caps) (· = bA (p n))) (a : List Int) (ha : a.length < 4611686018427387904) :
    Spec0 Try.prog 102 [intsL a, .fn g caps] (· = bA (a.any p)) := by
  refine spec0_of_vc tabOk elems ord102 Try.func102 rfl (rl := [.tmp 4]) rfl (by kernel_rfl) rfl ?_
  (simp -implicitDefEqProofs only [go_sem, intsL]; repeat (refine GO ?_; simp -implicitDefEqProofs only [go_sem, intsL]))
  refine .pure _ (c132 g caps hc p hg a ha) (by simpa [noIds, AV.noId, intsL] using hc) fun r hr _ => ?_
  subst hr
  (simp -implicitDefEqProofs only [go_sem, idxA, iA]; repeat (refine GO ?_; simp -implicitDefEqProofs only [go_sem, idxA, iA]))
  rw [idx_any]; rfl
def outC (n : Nat) (c : Int) : Bool := decide (c < 0) || decide ((n : Int) ≤ c)
theorem c103 (r : List V) (c : Int) : Spec0 Try.prog 103 [iA c, .ro [rowA r] 0] (· = bA (outC r.length c)) := by
  refine spec0_of_vc tabOk elems ord103 Try.func103 rfl (rl := [.tmp 3]) rfl (by kernel_rfl) rfl ?_
  (simp -implicitDefEqProofs only [go_sem, iA, rowA]; repeat (refine GO ?_; simp -implicitDefEqProofs only [go_sem, iA, rowA]))
  refine VIF.split (fun h => ?_) (fun h => ?_)
  · (simp -implicitDefEqProofs only [go_sem]; repeat (refine GO ?_; simp -implicitDefEqProofs only [go_sem]))
    simp at h; simp [outC, bA, h]
  · (simp -implicitDefEqProofs only [go_sem]; repeat (refine GO ?_; simp -implicitDefEqProofs only [go_sem]))
    have h : ¬ c < 0 := by simpa using h
    simp [outC, bA, h]
/-- What is picked of a row, or why not. -/
def pickE (r : List V) (cols : List Int) : Int := if cols.any (outC r.length) then 1 else if 12 < cols.length then 2 else 0
def pickR (r : List V) (cols : List Int) : List V := cols.map (getV r)
theorem c61 (r : List V) (cols : List Int) (hr : r.length < 1073741824) (hc : cols.length < 1073741824) :
    Spec1 Try.prog 61 [rowA r, intsL cols] (fun q o => ∃ (out : List V) (err : Int), q = .tu [.rf 0 0 out.length, iA err] ∧ o = ro3 out ∧ err = pickE r cols ∧ (err = 0 → out = pickR r cols) ∧ (err ≠ 0 → out = [])) := by
  refine spec1_of_vc tabOk elems ord61 Try.func61 rfl (rl := [.tmp 4, .tmp 5]) rfl (by kernel_rfl) rfl ?_
  (simp -implicitDefEqProofs only [go_sem, rowA, intsL]; repeat (refine GO ?_; simp -implicitDefEqProofs only [go_sem, rowA, intsL]))
  refine .lendTo (c102 103 [.ro [rowA r] 0] rfl (outC r.length) (fun n => c103 r n) cols (by omega)) ?_ (by rintro _ rfl; rfl) fun q hq => ?_
  · (simp -implicitDefEqProofs only [go_sem, rowA, intsL]; repeat (refine GO ?_; simp -implicitDefEqProofs only [go_sem, rowA, intsL]))
  subst hq
  have bad : ∀ (e : Int) (s : St), e ≠ 0 → e = pickE r cols → s.regs 4 = .nl → s.regs 5 = .pr (.int .i64 e) → FIN T noOb [.tmp 4, .tmp 5] (fun q O' => ∃ o, ((∃ (out : List V) (err : Int), q = .tu [.rf 0 0 out.length, iA err] ∧ o = ro3 out ∧ err = pickE r cols ∧ (err = 0 → out = pickR r cols) ∧ (err ≠ 0 → out = [])) ∧ q.only0 = true) ∧ o.leafy ∧ O' = upd noOb 0 (some o)) s := by
    intro e s he hp h4 h5
    refine FINmk [(0, none)] [(4, .rf 0 0 0), (5, iA e)] [(0, ro3 [])] [0] rfl ?_ ?_
    · (simp -implicitDefEqProofs only [go_sem, iA, h4, h5]; repeat (refine GO ?_; simp -implicitDefEqProofs only [go_sem, iA, h4, h5]))
      simp [ro3]
    · exact ⟨ro3 [], ⟨⟨[], e, rfl, rfl, hp, fun h => absurd h he, fun _ => rfl⟩, rfl⟩, ro3_leafy [], rfl⟩
  (simp -implicitDefEqProofs only [go_sem, bA]; repeat (refine GO ?_; simp -implicitDefEqProofs only [go_sem, bA]))
  refine VIF.split (fun h => ?_) (fun h => ?_)
  · (simp -implicitDefEqProofs only [go_sem]; repeat (refine GO ?_; simp -implicitDefEqProofs only [go_sem]))
    exact bad 1 _ (by decide) (by rw [pickE, if_pos h]) rfl rfl
  · (simp -implicitDefEqProofs only [go_sem]; repeat (refine GO ?_; simp -implicitDefEqProofs only [go_sem]))
    refine VIF.split (fun h2 => ?_) (fun h2 => ?_)
    · have h2 : 12 < cols.length := by simp at h2; omega
      (simp -implicitDefEqProofs only [go_sem]; repeat (refine GO ?_; simp -implicitDefEqProofs only [go_sem]))
      exact bad 2 _ (by decide) (by rw [pickE, if_neg (by simp [h]), if_pos h2]) rfl rfl
    · have h2 : ¬ 12 < cols.length := by simp at h2; omega
      have hp : pickE r cols = 0 := by rw [pickE, if_neg (by simp [h]), if_neg h2]
      have hin : ∀ i (hi : i < cols.length), 0 ≤ cols[i] ∧ cols[i].toNat < r.length := fun i hi => by
        rw [List.any_eq_false] at h
        have := h cols[i] (List.getElem_mem hi)
        simp [outC] at this
        omega
      (simp -implicitDefEqProofs only [go_sem]; repeat (refine GO ?_; simp -implicitDefEqProofs only [go_sem]))
      refine LOOP.mk (ι := { i : Nat // i ≤ cols.length }) (fun p => mkS [(2, .pt 1001 0 0), (6, .rf 1000 0 p.1), (17, intsL cols), (18, iA cols.length), (19, iA p.1)] [(1000, ro3 (pickR r (cols.take p.1))), (1001, ⟨1, [[rowA r]]⟩)] [1000, 1001])
        (fun p => cols.length - p.1) ⟨0, Nat.zero_le _⟩ [(1000, none), (1001, some 2)] rfl rfl ?_ (fun p => ?_)
      · (simp -implicitDefEqProofs only [go_sem, intsL, iA, ro3, rowA]; repeat (refine GO ?_; simp -implicitDefEqProofs only [go_sem, intsL, iA, ro3, rowA]))
        exact ⟨id, rfl, rfl, .same ⟨1, [[rowA r]]⟩ _ _ (by simp [AV.leaf]) rfl⟩
      · obtain ⟨i, hi⟩ := p
        (simp -implicitDefEqProofs only [go_sem, intsL, iA, ro3, rowA]; repeat (refine GO ?_; simp -implicitDefEqProofs only [go_sem, intsL, iA, ro3, rowA]))
        refine VIF.split (fun h3 => ?_) (fun h3 => ?_)
        · have h3 : i < cols.length := by simpa using h3
          have w1 := wrap_add1 (show i < 4611686018427387904 by omega)
          obtain ⟨g1, g2⟩ := hin i h3
          (simp -implicitDefEqProofs only [go_sem]; repeat (refine GO ?_; simp -implicitDefEqProofs only [go_sem]))
          refine EL.map h3 ?_
          (simp -implicitDefEqProofs only [go_sem]; repeat (refine GO ?_; simp -implicitDefEqProofs only [go_sem]))
          refine ⟨g1, EL.map g2 ?_⟩
          (simp -implicitDefEqProofs only [go_sem, V.c]; repeat (refine GO ?_; simp -implicitDefEqProofs only [go_sem, V.c]))
          refine ⟨by omega, ?_⟩
          have hpl : (pickR r (cols.take i)).length = i := by simp [pickR]; omega
          have e1 : (List.map V.c (pickR r (cols.take i))).take i ++ [V.c (r[cols[i].toNat]'g2)] = List.map V.c (pickR r (cols.take (i + 1))) := by
            have hgv : getV r cols[i] = r[cols[i].toNat]'g2 := by simp [getV, g2]
            rw [List.take_of_length_le (by rw [List.length_map]; omega), List.take_succ_eq_append_getElem h3, pickR, pickR, List.map_append, List.map_append]
            simp only [List.map_cons, List.map_nil, hgv]
          refine BACK.mk ⟨i + 1, by omega⟩ [(1000, some 29), (1001, some 1001)] rfl rfl (by show cols.length - (i + 1) < cols.length - i; omega) ?_
          (simp -implicitDefEqProofs only [go_sem, intsL, iA, ro3, rowA, w1]; repeat (refine GO ?_; simp -implicitDefEqProofs only [go_sem, intsL, iA, ro3, rowA, w1]))
          exact ⟨id, .same (ro3 []) _ _ (fun x hx => ro3_leafy (pickR r (cols.take (i + 1))) x (by rw [ro3]; exact e1 ▸ hx)) e1, .same ⟨1, [[rowA r]]⟩ _ _ (by simp [AV.leaf]) rfl⟩
        · have h3 : i = cols.length := by simp at h3; omega
          subst h3
          (simp -implicitDefEqProofs only [go_sem, List.take_length]; repeat (refine GO ?_; simp -implicitDefEqProofs only [go_sem, List.take_length]))
          refine FINmk [(0, some 1000)] [(4, .rf 0 0 cols.length), (5, iA 0)] [(0, ro3 (pickR r cols))] [0] rfl ?_ ?_
          · (simp -implicitDefEqProofs only [go_sem, ro3, iA]; repeat (refine GO ?_; simp -implicitDefEqProofs only [go_sem, ro3, iA]))
            exact .same (ro3 (pickR r cols)) _ _ (ro3_leafy (pickR r cols)) rfl
          · exact ⟨ro3 (pickR r cols), ⟨⟨pickR r cols, 0, by rw [pickR, List.length_map]; rfl, rfl, hp.symm, fun _ => rfl, fun h => absurd rfl h⟩, rfl⟩, ro3_leafy (pickR r cols), rfl⟩
/-- An item projected. -/
def projI (cols : List Int) (t : It) : It := ⟨pickR t.row cols, t.w⟩
/-- What is projected: out, and the refusal. -/
def ProjR (z : List It) (cols : List Int) (out : List It) (err : Int) : Prop :=
  (¬ Good z ∧ out = [] ∧ err = 1) ∨ (Good z ∧ (∃ t ∈ z, pickE t.row cols = err) ∧ err ≠ 0 ∧ out = []) ∨
  (Good z ∧ (∀ t ∈ z, pickE t.row cols = 0) ∧ MakeR (z.map (projI cols)) out err)
theorem c49 (z : List It) (cols : List Int) (hl : z.length ≤ 1048576) (hr : ∀ t ∈ z, t.row.length < 1073741824) (hc : cols.length < 1073741824) :
    Spec1 Try.prog 49 [setA z, intsL cols] (fun r o => ∃ (out : List It) (err : Int), r = .tu [.rf 0 0 out.length, iA err] ∧ o = so out ∧ ProjR z cols out err) := by
  refine spec1_of_vc tabOk elems ord49 Try.func49 rfl (rl := [.tmp 4, .tmp 5]) rfl (by kernel_rfl) rfl ?_
  (simp -implicitDefEqProofs only [go_sem, setA, intsL]; repeat (refine GO ?_; simp -implicitDefEqProofs only [go_sem, setA, intsL]))
  have bad : ∀ (e : Int) (s : St), s.regs 4 = .nl → s.regs 5 = .pr (.int .i64 e) → ProjR z cols [] e → FIN T noOb [.tmp 4, .tmp 5] (fun r O' => ∃ o, ((∃ (out : List It) (err : Int), r = .tu [.rf 0 0 out.length, iA err] ∧ o = so out ∧ ProjR z cols out err) ∧ r.only0 = true) ∧ o.leafy ∧ O' = upd noOb 0 (some o)) s := by
    intro e s h4 h5 hn
    refine FINmk [(0, none)] [(4, .rf 0 0 0), (5, iA e)] [(0, so [])] [0] rfl ?_ ?_
    · (simp -implicitDefEqProofs only [go_sem, iA, h4, h5]; repeat (refine GO ?_; simp -implicitDefEqProofs only [go_sem, iA, h4, h5]))
      simp [so]
    · exact ⟨so [], ⟨⟨[], e, rfl, rfl, hn⟩, rfl⟩, so_leafy [], rfl⟩
  refine .pure _ (s16 z (by omega) (fun t ht => by have := hr t ht; omega)) rfl fun q hq _ => ?_
  obtain ⟨e, rfl, he, hg⟩ := hq
  (simp -implicitDefEqProofs only [go_sem, iA]; repeat (refine GO ?_; simp -implicitDefEqProofs only [go_sem, iA]))
  refine VIF.split (fun h => ?_) (fun h => ?_)
  · have h : e ≠ 0 := by simpa using h
    have h1 : e = 1 := by omega
    subst h1
    (simp -implicitDefEqProofs only [go_sem]; repeat (refine GO ?_; simp -implicitDefEqProofs only [go_sem]))
    exact bad 1 _ rfl rfl (.inl ⟨fun g => h (hg.2 g), rfl, rfl⟩)
  · have h : e = 0 := by simpa using h
    have hg := hg.1 h
    (simp -implicitDefEqProofs only [go_sem]; repeat (refine GO ?_; simp -implicitDefEqProofs only [go_sem]))
    refine LOOP.mk (ι := { i : Nat // i ≤ z.length ∧ ∀ j (hj : j < z.length), j < i → pickE z[j].row cols = 0 }) (fun p => mkS [(1, intsL cols), (7, .rf 1000 0 p.1), (17, setA z), (18, iA z.length), (19, iA p.1)] [(1000, so ((z.take p.1).map (projI cols)))] [1000])
      (fun p => z.length - p.1) ⟨0, Nat.zero_le _, fun j _ h => absurd h (Nat.not_lt_zero _)⟩ [(1000, none)] rfl rfl ?_ (fun p => ?_)
    · (simp -implicitDefEqProofs only [go_sem, setA, intsL, iA, so]; repeat (refine GO ?_; simp -implicitDefEqProofs only [go_sem, setA, intsL, iA, so]))
      exact ⟨id, rfl, rfl⟩
    · obtain ⟨i, hi, hz⟩ := p
      (simp -implicitDefEqProofs only [go_sem, setA, intsL, iA, so]; repeat (refine GO ?_; simp -implicitDefEqProofs only [go_sem, setA, intsL, iA, so]))
      refine VIF.split (fun h1 => ?_) (fun h1 => ?_)
      · have h1 : i < z.length := by simpa using h1
        have w1 := wrap_add1 (show i < 4611686018427387904 by omega)
        (simp -implicitDefEqProofs only [go_sem]; repeat (refine GO ?_; simp -implicitDefEqProofs only [go_sem]))
        refine EL.map h1 ?_
        (simp -implicitDefEqProofs only [go_sem, It.c]; repeat (refine GO ?_; simp -implicitDefEqProofs only [go_sem, It.c]))
        refine .make 27 _ (c61 z[i].row cols (hr _ (List.getElem_mem h1)) hc) rfl (by simp) rfl fun q o hq hlf => ?_
        obtain ⟨out, err, rfl, rfl, he2, ho1, ho2⟩ := hq
        (simp -implicitDefEqProofs only [go_sem, iA]; repeat (refine GO ?_; simp -implicitDefEqProofs only [go_sem, iA]))
        refine VIF.split (fun h2 => ?_) (fun h2 => ?_)
        · have h2 : err ≠ 0 := by simpa using h2
          (simp -implicitDefEqProofs only [go_sem]; repeat (refine GO ?_; simp -implicitDefEqProofs only [go_sem]))
          exact bad err _ rfl rfl (.inr (.inl ⟨hg, ⟨_, List.getElem_mem h1, he2.symm⟩, h2, rfl⟩))
        · have h2 : err = 0 := by simpa using h2
          subst h2
          have ho1 := ho1 rfl
          subst ho1
          (simp -implicitDefEqProofs only [go_sem, w1]; repeat (refine GO ?_; simp -implicitDefEqProofs only [go_sem, w1]))
          refine ⟨by omega, ?_⟩
          refine BACK.mk ⟨i + 1, by omega, fun j hj hji => ?_⟩ [(1000, some 39)] rfl rfl (by show z.length - (i + 1) < z.length - i; omega) ?_
          · by_cases e2 : j = i
            · subst e2; exact he2.symm
            · exact hz j hj (by omega)
          · (simp -implicitDefEqProofs only [go_sem, setA, intsL, iA, so, w1]; repeat (refine GO ?_; simp -implicitDefEqProofs only [go_sem, setA, intsL, iA, so, w1]))
            refine ⟨id, ?_⟩
            rw [List.take_of_length_le (l := List.map It.c (List.map (projI cols) (z.take i))) (by simp; omega), List.take_succ_eq_append_getElem h1, List.map_append, List.map_append]
            refine Es_snoc (fun x hx a ha => so_leafy ((z.take i).map (projI cols)) x hx a ha) ?_
            (simp -implicitDefEqProofs only [go_sem, It.c, rowA, iA]; repeat (refine GO ?_; simp -implicitDefEqProofs only [go_sem, It.c, rowA, iA]))
            exact ⟨⟨by decide, _, rfl, hlf, rfl, List.take_of_length_le (by simp [ro3])⟩, rfl⟩
      · have h1 : i = z.length := by simp at h1; omega
        subst h1
        have hz : ∀ t ∈ z, pickE t.row cols = 0 := fun t ht => by
          obtain ⟨j, hj, rfl⟩ := List.mem_iff_getElem.1 ht
          exact hz j hj hj
        simp -implicitDefEqProofs only [go_sem, List.take_length]
        refine GO ?_
        simp -implicitDefEqProofs only [go_sem]
        refine TO [] [(41, setA (z.map (projI cols)))] [] [] rfl ?_ ?_
        · (simp -implicitDefEqProofs only [go_sem, setA]; repeat (refine GO ?_; simp -implicitDefEqProofs only [go_sem, setA]))
          exact ⟨id, by decide, _, rfl, so_leafy (z.map (projI cols)), rfl, List.take_of_length_le (by simp)⟩
        (simp -implicitDefEqProofs only [go_sem, setA]; repeat (refine GO ?_; simp -implicitDefEqProofs only [go_sem, setA]))
        refine .make 42 _ (s11 (z.map (projI cols)) (by simpa using hl) (fun t ht => by obtain ⟨u, hu, rfl⟩ := List.mem_map.1 ht; simpa [pickR, projI] using hc)) rfl (by simp) rfl fun q o hq _ => ?_
        obtain ⟨out, err, rfl, rfl, hm⟩ := hq
        (simp -implicitDefEqProofs only [go_sem, iA]; repeat (refine GO ?_; simp -implicitDefEqProofs only [go_sem, iA]))
        refine FINmk [(0, some 42)] [(4, .rf 0 0 out.length), (5, iA err)] [(0, so out)] [0] rfl ?_ ?_
        · (simp -implicitDefEqProofs only [go_sem, so, iA]; repeat (refine GO ?_; simp -implicitDefEqProofs only [go_sem, so, iA]))
          exact .same (so out) _ _ (so_leafy out) rfl
        · exact ⟨so out, ⟨⟨out, err, rfl, rfl, .inr (.inr ⟨hg, hz, hm⟩)⟩, rfl⟩, so_leafy out, rfl⟩
end Yt
namespace Yt
open Go Go.Vc Go.Proofs
set_option maxRecDepth 10000
set_option maxHeartbeats 8000000
set_option linter.unusedSimpArgs false
set_option linter.unusedVariables false
/-- Where lists of nothing will do, nil does. -/
def nlOk : List AV → List AV → Prop
  | [], [] => True
  | x :: r, y :: r' => (y = x ∨ (y = .nl ∧ ∃ sz, x = .im sz [])) ∧ nlOk r r'
  | _, _ => False
theorem nlOk_get : ∀ {l l' : List AV}, nlOk l l' → l.length = l'.length ∧ ∀ (j : Nat) (x y : AV), l[j]? = some x → l'[j]? = some y → y = x ∨ (y = .nl ∧ ∃ sz, x = .im sz [])
  | [], [], _ => ⟨rfl, by simp⟩
  | x :: r, y :: r', h => by
    obtain ⟨h1, h2⟩ := nlOk_get h.2
    refine ⟨by simp [h1], fun j u v hu hv => ?_⟩
    cases j with
    | zero => simp at hu hv; subst hu; subst hv; exact h.1
    | succ j => exact h2 j u v (by simpa using hu) (by simpa using hv)
theorem spec_nl {P : Program} {f : Nat} {l l' : List AV} {O : Nat → Option Ob} {U : List Nat} {R : AV → (Nat → Option Ob) → Prop} (h : FunSpec P f l O U R) (hn : nlOk l l') : FunSpec P f l' O U R := by
  obtain ⟨hl, hg⟩ := nlOk_get hn
  refine ⟨h.1, fun F φ w vs h1 h2 h3 H hs ha => h.2 F φ w vs h1 h2 h3 H (by rw [hs, hl]) fun j av hj => ?_⟩
  have hj' : j < l'.length := by rw [← hl]; exact (List.getElem?_eq_some_iff.1 hj).1
  have h4 := ha j _ (List.getElem?_eq_getElem hj')
  rcases hg j av _ hj (List.getElem?_eq_getElem hj') with e | ⟨e, sz, rfl⟩
  · rw [e] at h4; exact h4
  · rw [e] at h4
    generalize vs.getD j undef = v at h4 ⊢
    cases h4 with
    | rd r => cases r; exact .rd (.im0 none 0 sz)
def wl (n : Int) : List V := [⟨3, n, ByteArray.empty⟩]
end Yt
namespace Yt
open Go Go.Vc Go.Proofs
set_option maxRecDepth 10000
set_option maxHeartbeats 8000000
set_option linter.unusedSimpArgs false
set_option linter.unusedVariables false
@[go_sem] theorem fzE_so (id : Nat) (o : Ob) (z : List It) : fzE id o (List.map It.c z) = List.map It.c z := fzE_leafy (so_leafy z)
@[go_sem] theorem fzE_ro3 (id : Nat) (o : Ob) (z : List V) : fzE id o (List.map V.c z) = List.map V.c z := fzE_leafy (ro3_leafy z)
@[go_sem] theorem take_so (z : List It) : List.take z.length (List.map It.c z) = List.map It.c z := take_map_len _ _
@[go_sem] theorem take_ro3 (z : List V) : List.take z.length (List.map V.c z) = List.map V.c z := take_map_len _ _
theorem tot_filter (p : List V → Bool) (z : List It) (r : List V) : tot r (z.filter fun t => p t.row) = if p r then tot r z else 0 := by
  induction z with
  | nil => simp [tot]
  | cons t z ih =>
    by_cases h : p t.row = true
    · rw [List.filter_cons_of_pos (by simpa using h)]
      simp only [tot, ih]
      by_cases e : cmpR t.row r = 0
      · have e := lin_cmpR.eq _ _ e
        subst e
        simp [h]
      · simp [e]
    · rw [List.filter_cons_of_neg (by simpa using h), ih]
      simp only [tot]
      by_cases e : cmpR t.row r = 0
      · have e := lin_cmpR.eq _ _ e
        subst e
        simp [h]
      · simp [e]
theorem made_filter {z : List It} (h : Made z) (f : It → Bool) : Made (z.filter f) := ⟨h.pw.filter _, fun t ht => h.nz t (List.mem_filter.1 ht).1⟩
theorem Sm.mono {z : List It} {k j : Nat} (h : Sm z k) (hk : k ≤ j) : Sm z j := ⟨h.made, h.rows, by have := h.len; omega, fun r => by have := h.tot r; omega⟩
theorem Sm.nil (k : Nat) : Sm [] k := ⟨⟨.nil, by simp⟩, by simp, by simp, fun r => by simp [Yt.tot]; omega⟩
theorem Sm.r40 {z : List It} {k : Nat} (h : Sm z k) : ∀ t ∈ z, t.row.length < 1073741824 := fun t ht => by have := (h.rows t ht).2; omega
theorem Sm.min {x y out : List It} {i j : Nat} {err : Int} (hx : Sm x i) (hy : Sm y j) (hij : i + j ≤ 100) (h : MinR x y out err) : err = 0 ∧ Sm out (i + j) ∧ ∀ r, Yt.tot r out = Yt.tot r x - Yt.tot r y := by
  have h2 : AddR x (y.map negI) out err := by
    rcases h with ⟨h, _⟩ | ⟨_, _, h⟩
    · exact absurd ⟨hx.good, hy.good⟩ h
    · exact .inr ⟨hx.good, hy.neg.good, h⟩
  obtain ⟨a, b, c⟩ := hx.add hy.neg hij h2
  exact ⟨a, b, fun r => by rw [c, tot_neg]; omega⟩
theorem Sm.eq {x y : List It} {i j : Nat} (hx : Sm x i) (hy : Sm y j) (h : ∀ r, Yt.tot r x = Yt.tot r y) : x = y := made_eq hx.made hy.made h
theorem Sm.w {z : List It} {k : Nat} (h : Sm z k) : ∀ t ∈ z, -(356400 * (k : Int)) ≤ t.w ∧ t.w ≤ 356400 * k := fun t ht => by
  rw [← tot_made h.made ht]; exact h.tot _
theorem Sm.mul {z : List It} {k : Nat} (h : Sm z k) (n : Nat) (hn : 0 < n) (hk : n * k ≤ 1000) : Sm (z.map (mulI n)) (n * k) := by
  refine ⟨made_mul (by omega) h.made fun t ht => ?_, fun t ht => by obtain ⟨u, hu, rfl⟩ := List.mem_map.1 ht; exact h.rows u hu, ?_, fun r => ?_⟩
  · have h1 := h.w t ht
    have h2 : (n : Int) * t.w ≤ n * (356400 * k) := Int.mul_le_mul_of_nonneg_left h1.2 (by omega)
    have h3 : (n : Int) * (-(356400 * k)) ≤ n * t.w := Int.mul_le_mul_of_nonneg_left h1.1 (by omega)
    have e : (n : Int) * (356400 * k) = 356400 * ((n * k : Nat) : Int) := by rw [Int.natCast_mul, ← Int.mul_assoc, ← Int.mul_assoc, Int.mul_comm (n : Int) 356400]
    rw [Int.mul_neg, e] at h3
    rw [e] at h2
    simp only [okW, inB, Bool.and_eq_true, decide_eq_true_eq]; omega
  · rw [List.length_map]
    have := Nat.le_mul_of_pos_left k hn
    have := h.len
    have : 60 * k ≤ 60 * (n * k) := by omega
    omega
  · rw [tot_mul]
    have h1 := h.tot r
    have h2 : (n : Int) * Yt.tot r z ≤ n * (356400 * k) := Int.mul_le_mul_of_nonneg_left h1.2 (by omega)
    have h3 : (n : Int) * (-(356400 * k)) ≤ n * Yt.tot r z := Int.mul_le_mul_of_nonneg_left h1.1 (by omega)
    have e : (n : Int) * (356400 * k) = 356400 * ((n * k : Nat) : Int) := by rw [Int.natCast_mul, ← Int.mul_assoc, ← Int.mul_assoc, Int.mul_comm (n : Int) 356400]
    rw [Int.mul_neg, e] at h3
    rw [e] at h2
    exact ⟨h3, h2⟩
end Yt
namespace Yt
open Go Go.Vc Go.Proofs
set_option maxRecDepth 10000
set_option maxHeartbeats 8000000
set_option linter.unusedSimpArgs false
set_option linter.unusedVariables false
theorem pick_in {r : List V} {cols : List Int} (h : pickE r cols = 0) : cols.length ≤ 12 ∧ ∀ c ∈ cols, 0 ≤ c ∧ c < r.length := by
  simp only [pickE] at h
  split at h
  · cases h
  · rename_i h1
    split at h
    · cases h
    · refine ⟨by omega, fun c hc => ?_⟩
      have h1 : cols.any (outC r.length) = false := by simpa using h1
      rw [List.any_eq_false] at h1
      have := h1 c hc
      simp [outC] at this
      omega
theorem pick_row {r : List V} {cols : List Int} (h : pickE r cols = 0) (hr : okR r = 0) : okR (pickR r cols) = 0 ∧ (pickR r cols).length ≤ 12 := by
  obtain ⟨h1, h2⟩ := pick_in h
  have hl : (pickR r cols).length = cols.length := by simp [pickR]
  have ha : (pickR r cols).all okV = true := by
    rw [List.all_eq_true]
    intro v hv
    obtain ⟨c, hc, rfl⟩ := List.mem_map.1 hv
    obtain ⟨g1, g2⟩ := h2 c hc
    have hlt : c.toNat < r.length := by omega
    have e : getV r c = r[c.toNat] := by simp [getV, hlt]
    rw [e]
    simp only [okR] at hr
    split at hr
    · cases hr
    · split at hr
      · rename_i h3
        exact List.all_eq_true.1 h3 _ (List.getElem_mem _)
      · cases hr
  refine ⟨?_, by omega⟩
  rw [okR, if_neg (by omega), if_pos ha]
theorem ProjR.ok {z out : List It} {k j : Nat} {cols : List Int} {err : Int} (h : Sm z k) (hb : ∀ r, -(356400 * (j : Int)) ≤ Yt.tot r (z.map (projI cols)) ∧ Yt.tot r (z.map (projI cols)) ≤ 356400 * j) (hk : k ≤ j) (hj : j ≤ 1000)
    (hp : ProjR z cols out err) : (err = 0 ∧ (∀ t ∈ z, pickE t.row cols = 0) ∧ Sm out j ∧ ∀ r, Yt.tot r out = Yt.tot r (z.map (projI cols))) ∨ (err ≠ 0 ∧ out = [] ∧ ∃ t ∈ z, pickE t.row cols = err) := by
  rcases hp with ⟨hn, _⟩ | ⟨_, ht, he, ho⟩ | ⟨_, ht, hm⟩
  · exact absurd h.good hn
  · exact .inr ⟨he, ho, ht⟩
  · refine .inl ?_
    obtain ⟨h1, h2, h3, h4, h5⟩ := makeR_fine hm (by
      rw [List.any_eq_false]; intro t hv
      obtain ⟨u, hu, rfl⟩ := List.mem_map.1 hv
      have e1 := (pick_row (ht u hu) (h.rows u hu).1).1
      have e2 := (h.made.nz u hu).2
      simp [okI, projI, e1, e2]) fun r => by
        have := hb r
        simp only [okW, inB, Bool.and_eq_true, decide_eq_true_eq]; omega
    refine ⟨h1, ht, ⟨h2, fun t hu => ?_, ?_, fun r => by rw [h3]; exact hb r⟩, h3⟩
    · obtain ⟨g1, u, hu, e⟩ := h4 t hu
      obtain ⟨v, hv, rfl⟩ := List.mem_map.1 hu
      refine ⟨g1, ?_⟩
      rw [← e]
      have := (pick_row (ht v hv) (h.rows v hv).1).2
      have e3 : (projI cols v).row = pickR v.row cols := rfl
      rw [e3]; omega
    · have := h.len
      rw [List.length_map] at h5; omega
theorem u64_nat {n : Nat} (h : n < 4611686018427387904) : IntKind.u64.wrap (n : Int) = n := by simp [IntKind.wrap, IntKind.signed, IntKind.bits]; omega
theorem u64_rem (x k : Int) (hk : 0 < k) (hk' : k ≤ 4611686018427387904) : ∃ o : Nat, (IntKind.u64.wrap x).tmod k = o ∧ (o : Int) < k ∧ IntKind.i64.wrap (o : Int) = o := by
  have h0 : 0 ≤ IntKind.u64.wrap x := by simp [IntKind.wrap, IntKind.signed, IntKind.bits]; omega
  have h5 := Int.tmod_eq_emod_of_nonneg (b := k) h0
  have h6 := Int.emod_nonneg (IntKind.u64.wrap x) (show k ≠ 0 by omega)
  have h7 := Int.emod_lt_of_pos (IntKind.u64.wrap x) hk
  refine ⟨((IntKind.u64.wrap x).tmod k).toNat, by omega, by omega, by rw [wrap_i64] <;> omega⟩
theorem ProjR.len {z out : List It} {cols : List Int} {err : Int} (h : ProjR z cols out err) : out.length ≤ z.length := by
  rcases h with ⟨_, rfl, _⟩ | ⟨_, _, _, rfl⟩ | ⟨_, _, h⟩
  · simp
  · simp
  · rcases h with ⟨_, rfl, _⟩ | ⟨_, rfl, _⟩ | ⟨_, _, _, _, _, h⟩
    · simp
    · simp
    · simpa using h
end Yt
namespace Yt
open Go Go.Vc Go.Proofs
set_option maxRecDepth 10000
set_option maxHeartbeats 8000000
set_option linter.unusedSimpArgs false
set_option linter.unusedVariables false
theorem fz_so (z : List It) : (AV.rf 0 0 z.length).fz 0 (so z) = setA z := by
  rw [fz_rf, if_pos rfl, List.drop_zero, List.take_of_length_le (by simp [so])]; rfl
theorem fz_ro3 (r : List V) : (AV.rf 0 0 r.length).fz 0 (ro3 r) = rowA r := by
  rw [fz_rf, if_pos rfl, List.drop_zero, List.take_of_length_le (by simp [ro3])]; rfl
theorem Spec1.setE {f : Nat} {args : List AV} {Q : List It → Int → Prop} (h : Spec1 Try.prog f args (fun r o => ∃ (out : List It) (err : Int), r = .tu [.rf 0 0 out.length, iA err] ∧ o = so out ∧ Q out err)) :
    Spec0 Try.prog f args fun r => ∃ (out : List It) (err : Int), r = .tu [setA out, iA err] ∧ Q out err :=
  (Spec1.fz h).mono fun r O' ⟨⟨⟨r0, o, ⟨out, err, e1, e2, hq⟩, _, _, e3⟩, hn⟩, hO⟩ => by
    subst e1; subst e2; subst e3
    refine ⟨⟨⟨out, err, ?_, hq⟩, hn⟩, hO⟩
    rw [fz_tu, fzs_cons, fzs_cons, fzs_nil, fz_so, iA, fz_pr]
theorem Spec1.row1 {f : Nat} {args : List AV} {Q : List V → Prop} (h : Spec1 Try.prog f args (fun r o => ∃ (out : List V), r = .rf 0 0 out.length ∧ o = ro3 out ∧ Q out)) :
    Spec0 Try.prog f args fun r => ∃ (out : List V), r = rowA out ∧ Q out :=
  (Spec1.fz h).mono fun r O' ⟨⟨⟨r0, o, ⟨out, e1, e2, hq⟩, _, _, e3⟩, hn⟩, hO⟩ => by
    subst e1; subst e2; subst e3
    exact ⟨⟨⟨out, fz_ro3 out, hq⟩, hn⟩, hO⟩
theorem Spec1.rowE {f : Nat} {args : List AV} {Q : List V → Int → Prop} (h : Spec1 Try.prog f args (fun r o => ∃ (out : List V) (err : Int), r = .tu [.rf 0 0 out.length, iA err] ∧ o = ro3 out ∧ Q out err)) :
    Spec0 Try.prog f args fun r => ∃ (out : List V) (err : Int), r = .tu [rowA out, iA err] ∧ Q out err :=
  (Spec1.fz h).mono fun r O' ⟨⟨⟨r0, o, ⟨out, err, e1, e2, hq⟩, _, _, e3⟩, hn⟩, hO⟩ => by
    subst e1; subst e2; subst e3
    refine ⟨⟨⟨out, err, ?_, hq⟩, hn⟩, hO⟩
    rw [fz_tu, fzs_cons, fzs_cons, fzs_nil, fz_ro3, iA, fz_pr]
theorem spec0_nls {P : Program} {f : Nat} {l l' : List AV} {R : AV → Prop} (h : Spec0 P f l R) (hn : nlOk l l') : Spec0 P f l' R := spec_nl h hn
def distL (z : List It) : List It := (z.filter fun t => !decide (t.w < 0)).map fun t => oneI t.row
theorem makeR_rows {z out : List It} {err : Int} (h : MakeR z out err) : out.length ≤ z.length ∧ ∀ t ∈ out, ∃ u ∈ z, u.row = t.row := by
  rcases h with ⟨_, rfl, _⟩ | ⟨_, rfl, _⟩ | ⟨_, _, _, _, h, hl⟩
  · simp
  · simp
  · exact ⟨hl, fun t ht => (h t ht).2⟩
theorem addR_rows {a b out : List It} {err : Int} (h : AddR a b out err) : out.length ≤ a.length + b.length ∧ ∀ t ∈ out, ∃ u ∈ a ++ b, u.row = t.row := by
  rcases h with ⟨_, rfl, _⟩ | ⟨_, _, h⟩
  · simp
  · have := makeR_rows h
    rw [List.length_append] at this; exact this
theorem distL_len (z : List It) : (distL z).length ≤ z.length := by
  rw [distL, List.length_map]; exact List.length_filter_le _ _
theorem distL_rows {z : List It} {P : List V → Prop} (h : ∀ t ∈ z, P t.row) : ∀ t ∈ distL z, P t.row := fun t ht => by
  obtain ⟨u, hu, rfl⟩ := List.mem_map.1 ht
  exact h u (List.mem_filter.1 hu).1
end Yt
namespace Yt
open Go Go.Vc Go.Proofs
set_option maxRecDepth 10000
set_option maxHeartbeats 8000000
set_option linter.unusedSimpArgs false
set_option linter.unusedVariables false
theorem made_dist {z : List It} (h : Made z) : Made (distL z) := by
  refine ⟨?_, fun t ht => ?_⟩
  · rw [distL, List.pairwise_map]
    exact h.pw.filter _
  · obtain ⟨u, hu, rfl⟩ := List.mem_map.1 ht
    exact ⟨by simp [oneI], by simp [oneI, okW, inB]⟩
def sg (n : Int) : Int := if 0 < n then 1 else 0
theorem sg_cases (n : Int) : (0 < n ∧ sg n = 1) ∨ (n ≤ 0 ∧ sg n = 0) := by
  by_cases h : 0 < n
  · exact .inl ⟨h, if_pos h⟩
  · exact .inr ⟨by omega, if_neg h⟩
theorem tot_dist {z : List It} (h : Made z) (r : List V) : tot r (distL z) = sg (tot r z) := by
  by_cases hr : ∃ t ∈ z, t.row = r
  · obtain ⟨t, ht, rfl⟩ := hr
    rw [tot_made h ht]
    have h0 := (h.nz t ht).1
    by_cases hw : t.w < 0
    · have : sg t.w = 0 := if_neg (by omega)
      rw [this]
      refine tot_none fun u hu e => ?_
      obtain ⟨v, hv, rfl⟩ := List.mem_map.1 hu
      obtain ⟨hv1, hv2⟩ := List.mem_filter.1 hv
      have e : v.row = t.row := lin_cmpR.eq _ _ e
      have h1 := tot_made h hv1
      rw [e, tot_made h ht] at h1
      simp at hv2
      omega
    · have : sg t.w = 1 := if_pos (by omega)
      rw [this]
      exact tot_made (made_dist h) (t := oneI t.row) (List.mem_map.2 ⟨t, List.mem_filter.2 ⟨ht, by simpa using hw⟩, rfl⟩)
  · have hz : tot r z = 0 := tot_none fun u hu e => hr ⟨u, hu, lin_cmpR.eq _ _ e⟩
    rw [hz, tot_none fun u hu e => ?_]
    · rfl
    · obtain ⟨v, hv, rfl⟩ := List.mem_map.1 hu
      exact hr ⟨v, (List.mem_filter.1 hv).1, lin_cmpR.eq _ _ e⟩
theorem Sm.dist {z : List It} {k : Nat} (h : Sm z k) : Sm (distL z) (k + 1) :=
  ⟨made_dist h.made, fun t ht => distL_rows (P := fun r => okR r = 0 ∧ r.length ≤ 40) h.rows t ht, by have := distL_len z; have := h.len; omega, fun r => by
    rw [tot_dist h.made]
    have := sg_cases (Yt.tot r z)
    omega⟩
def wd : List It := [⟨wl 1, -2⟩, ⟨wl 3, 4⟩]
theorem wl_cmp (a b : Int) : cmpR (wl a) (wl b) = cmpI a b := by
  have : cmpS ByteArray.empty ByteArray.empty = 0 := by
    have := lin_cmpV.self ⟨0, 0, ByteArray.empty⟩
    simp [cmpV, nz, cmpI] at this
    exact Classical.byContradiction fun h => h (this h)
  simp only [wl, cmpR, cmpV, nz, cmpI, this]
  split <;> simp_all
end Yt
namespace Yt
open Go Go.Vc Go.Proofs
set_option maxRecDepth 10000
set_option maxHeartbeats 8000000
set_option linter.unusedSimpArgs false
set_option linter.unusedVariables false
def uA (n : Int) : AV := .pr (.int .u64 n)
theorem and_32 {x : Int} (h0 : 0 ≤ x) (h1 : x < 18446744073709551616) : bitsOp .and .u64 x 4294967295 = x % 4294967296 := by
  simp only [bitsOp]
  have h1 : (BitVec.ofInt IntKind.u64.bits x &&& BitVec.ofInt IntKind.u64.bits 4294967295).toNat = (x % 4294967296).toNat := by
    rw [BitVec.toNat_and]
    have e1 : (BitVec.ofInt IntKind.u64.bits 4294967295).toNat = 2 ^ 32 - 1 := by decide
    rw [e1, Nat.and_two_pow_sub_one_eq_mod]
    simp only [BitVec.toNat_ofInt, IntKind.bits]
    omega
  rw [h1]
  simp [IntKind.wrap, IntKind.signed, IntKind.bits]; omega
theorem wrap_u64 {x : Int} (h0 : 0 ≤ x) (h1 : x < 18446744073709551616) : IntKind.u64.wrap x = x := by
  simp [IntKind.wrap, IntKind.signed, IntKind.bits]; omega
theorem mul_bd {a b : Int} (ha : 0 ≤ a ∧ a ≤ 4294967295) (hb : 0 ≤ b ∧ b ≤ 4294967295) : 0 ≤ a * b ∧ a * b ≤ 18446744065119617025 :=
  ⟨Int.mul_nonneg ha.1 hb.1, Int.le_trans (Int.mul_le_mul ha.2 hb.2 hb.1 (by decide)) (by decide)⟩
/-- The upper half of a product of 64 bits, as it is worked out. -/
theorem mul64 {x y : Int} (hx : 0 ≤ x ∧ x < 18446744073709551616) (hy : 0 ≤ y ∧ y < 18446744073709551616) :
    IntKind.u64.wrap (IntKind.u64.wrap (IntKind.u64.wrap (x / 4294967296 * (y / 4294967296)) +
      IntKind.u64.wrap (IntKind.u64.wrap (x / 4294967296 * bitsOp .and .u64 y 4294967295) + IntKind.u64.wrap (bitsOp .and .u64 x 4294967295 * bitsOp .and .u64 y 4294967295) / 4294967296) / 4294967296) +
      IntKind.u64.wrap (bitsOp .and .u64 (IntKind.u64.wrap (IntKind.u64.wrap (x / 4294967296 * bitsOp .and .u64 y 4294967295) + IntKind.u64.wrap (bitsOp .and .u64 x 4294967295 * bitsOp .and .u64 y 4294967295) / 4294967296)) 4294967295 +
        IntKind.u64.wrap (bitsOp .and .u64 x 4294967295 * (y / 4294967296))) / 4294967296) = x * y / 18446744073709551616 := by
  rw [and_32 hx.1 hx.2, and_32 hy.1 hy.2]
  have ex : x = x / 4294967296 * 4294967296 + x % 4294967296 := by omega
  have ey : y = y / 4294967296 * 4294967296 + y % 4294967296 := by omega
  generalize hx1 : x / 4294967296 = x1 at *
  generalize hx0 : x % 4294967296 = x0 at *
  generalize hy1 : y / 4294967296 = y1 at *
  generalize hy0 : y % 4294967296 = y0 at *
  have e : x * y = x1 * y1 * 18446744073709551616 + (x1 * y0 + x0 * y1) * 4294967296 + x0 * y0 := by
    rw [ex, ey]
    simp only [Int.add_mul, Int.mul_add]
    have e1 : x1 * 4294967296 * (y1 * 4294967296) = x1 * y1 * 18446744073709551616 := by rw [Int.mul_assoc, Int.mul_left_comm 4294967296, ← Int.mul_assoc]; rfl
    have e2 : x1 * 4294967296 * y0 = x1 * y0 * 4294967296 := Int.mul_right_comm _ _ _
    have e3 : x0 * (y1 * 4294967296) = x0 * y1 * 4294967296 := (Int.mul_assoc _ _ _).symm
    rw [e1, e2, e3]
    omega
  have b1 := mul_bd (a := x1) (b := y1) (by omega) (by omega)
  have b2 := mul_bd (a := x1) (b := y0) (by omega) (by omega)
  have b3 := mul_bd (a := x0) (b := y1) (by omega) (by omega)
  have b4 := mul_bd (a := x0) (b := y0) (by omega) (by omega)
  rw [e]
  generalize x1 * y1 = d at *
  generalize x1 * y0 = a at *
  generalize x0 * y1 = c at *
  generalize x0 * y0 = b at *
  rw [wrap_u64 (x := d) (by omega) (by omega), wrap_u64 (x := a) (by omega) (by omega), wrap_u64 (x := b) (by omega) (by omega), wrap_u64 (x := c) (by omega) (by omega)]
  rw [wrap_u64 (x := a + b / 4294967296) (by omega) (by omega), and_32 (by omega) (by omega), wrap_u64 (x := (a + b / 4294967296) % 4294967296 + c) (by omega) (by omega)]
  rw [wrap_u64 (x := d + (a + b / 4294967296) / 4294967296) (by omega) (by omega), wrap_u64 (by omega) (by omega)]
  omega
theorem c115 (x y : Int) (hx : 0 ≤ x ∧ x < 18446744073709551616) (hy : 0 ≤ y ∧ y < 18446744073709551616) :
    Spec0 Try.prog 115 [uA x, uA y] (· = .tu [uA (x * y / 18446744073709551616), uA (x * y % 18446744073709551616)]) := by
  refine spec0_of_vc tabOk elems ord115 Try.func115 rfl (rl := [.tmp 4, .tmp 5]) rfl (by kernel_rfl) rfl ?_
  (simp -implicitDefEqProofs only [go_sem, uA]; repeat (refine GO ?_; simp -implicitDefEqProofs only [go_sem, uA]))
  refine ⟨by decide, by decide, by decide, by decide, by decide, ?_⟩
  (simp -implicitDefEqProofs only [go_sem, uA]; repeat (refine GO ?_; simp -implicitDefEqProofs only [go_sem, uA]))
  refine ⟨rfl, ?_⟩
  simp only [shr32]
  rw [mul64 hx hy]
  have e : IntKind.u64.wrap (x * y) = x * y % 18446744073709551616 := by simp [IntKind.wrap, IntKind.signed, IntKind.bits]
  rw [e]
theorem natAbs_mul_le (a b : Int) (k : Nat) : (a.natAbs : Int) * b.natAbs ≤ k ↔ -(k : Int) ≤ a * b ∧ a * b ≤ k := by
  have h := Int.natAbs_mul a b
  rw [← Int.natCast_mul, ← h]
  omega
/-- Do two rows meet? -/
def meetP (a b : List V) (cols others : List Int) : Bool := (cols.zip others).all fun p =>
  inC p.1 a.length && inC p.2 b.length && !decide ((getV a p.1).k = 1) && !decide ((getV b p.2).k = 1) && decide (cmpV (getV a p.1) (getV b p.2) = 0)
end Yt
namespace Yt
open Go Go.Vc Go.Proofs
set_option maxRecDepth 10000
set_option maxHeartbeats 8000000
set_option linter.unusedSimpArgs false
set_option linter.unusedVariables false
end Yt
namespace Yt
open Go Go.Vc Go.Proofs
set_option maxRecDepth 10000
set_option maxHeartbeats 8000000
set_option linter.unusedSimpArgs false
set_option linter.unusedVariables false
def pairL (a b : List It) (cols others : List Int) : List (It × It) := a.flatMap fun x => (b.filter fun y => meetP x.row y.row cols others).map fun y => (x, y)
def longP (p : It × It) : Bool := decide (12 < p.1.row.length + p.2.row.length)
theorem pairL_append (a a' b : List It) (cols others : List Int) : pairL (a ++ a') b cols others = pairL a b cols others ++ pairL a' b cols others := by simp [pairL]
theorem pairL_one (x : It) (b b' : List It) (cols others : List Int) : pairL [x] (b ++ b') cols others = pairL [x] b cols others ++ pairL [x] b' cols others := by simp [pairL]
theorem pairL_len (a b : List It) (cols others : List Int) : (pairL a b cols others).length ≤ a.length * b.length := by
  induction a with
  | nil => simp [pairL]
  | cons x a ih =>
    have e : pairL (x :: a) b cols others = (b.filter fun y => meetP x.row y.row cols others).map (fun y => (x, y)) ++ pairL a b cols others := by simp [pairL]
    rw [e, List.length_append, List.length_map, List.length_cons, Nat.succ_mul]
    have := List.length_filter_le (fun y => meetP x.row y.row cols others) b
    omega
theorem pairL_mem {a b : List It} {cols others : List Int} {p : It × It} (h : p ∈ pairL a b cols others) : p.1 ∈ a ∧ p.2 ∈ b ∧ meetP p.1.row p.2.row cols others = true := by
  simp only [pairL, List.mem_flatMap, List.mem_map, List.mem_filter] at h
  obtain ⟨x, hx, y, ⟨hy, hm⟩, rfl⟩ := h
  exact ⟨hx, hy, hm⟩
end Yt
namespace Yt
open Go Go.Vc Go.Proofs
set_option maxRecDepth 10000
set_option maxHeartbeats 8000000
set_option linter.unusedSimpArgs false
set_option linter.unusedVariables false
def joinI (p : It × It) : It := ⟨p.1.row ++ p.2.row, p.1.w * p.2.w⟩
/-- What a join is, or why not. -/
def JoinR (a b : List It) (cols others : List Int) (out : List It) (err : Int) : Prop :=
  (¬ (Good a ∧ Good b) ∧ out = [] ∧ err = 1) ∨ (Good a ∧ Good b ∧ (cols.length ≠ others.length ∨ (cols.length = others.length ∧ (pairL a b cols others).any longP = true)) ∧ out = [] ∧ err = 2) ∨
  (Good a ∧ Good b ∧ cols.length = others.length ∧ (pairL a b cols others).any longP = false ∧ (∃ p ∈ pairL a b cols others, okW (p.1.w * p.2.w) = false) ∧ out = [] ∧ err = 11) ∨
  (Good a ∧ Good b ∧ cols.length = others.length ∧ (pairL a b cols others).any longP = false ∧ (∀ p ∈ pairL a b cols others, okW (p.1.w * p.2.w) = true) ∧ MakeR ((pairL a b cols others).map joinI) out err)
theorem good_w {z : List It} (h : Good z) {t : It} (ht : t ∈ z) : -72057594037927936 ≤ t.w ∧ t.w ≤ 72057594037927936 := by
  have := ((good_made.1 h).1.nz t ht).2
  simp [okW, inB] at this; exact this
end Yt
namespace Yt
open Go Go.Vc Go.Proofs
set_option maxRecDepth 10000
set_option maxHeartbeats 8000000
set_option linter.unusedSimpArgs false
set_option linter.unusedVariables false
/-- On, if there is no refusal. -/
def Thn (out : List It) (err e : Int) (Q : Prop) : Prop := (e ≠ 0 ∧ out = [] ∧ err = e) ∨ (e = 0 ∧ Q)
theorem addR_small {a b out : List It} {err : Int} {k : Nat} (h : AddR a b out err) (ha : ∀ t ∈ a, t.row.length < k) (hb : ∀ t ∈ b, t.row.length < k) : ∀ t ∈ out, t.row.length < k := fun t ht => by
  obtain ⟨u, hu, e⟩ := (addR_rows h).2 t ht
  rw [← e]
  rcases List.mem_append.1 hu with hu | hu
  · exact ha u hu
  · exact hb u hu
end Yt
namespace Yt
open Go Go.Vc Go.Proofs
set_option maxRecDepth 10000
set_option maxHeartbeats 8000000
set_option linter.unusedSimpArgs false
set_option linter.unusedVariables false
/-- What items come to, each row as it counts. -/
def linF (f : List V → Int) : List It → Int
  | [] => 0
  | t :: z => t.w * f t.row + linF f z
/-- What a row comes to in a join. -/
def jt (cols others : List Int) (r : List V) (a b : List It) : Int := linF (fun ra => linF (fun rb => if meetP ra rb cols others = true ∧ cmpR (ra ++ rb) r = 0 then 1 else 0) b) a
theorem tot_join1 (cols others : List Int) (r : List V) (x : It) (b : List It) : tot r ((pairL [x] b cols others).map joinI) = x.w * linF (fun rb => if meetP x.row rb cols others = true ∧ cmpR (x.row ++ rb) r = 0 then 1 else 0) b := by
  induction b with
  | nil => simp [pairL, tot, linF]
  | cons y b ihb =>
    have e2 : pairL [x] (y :: b) cols others = pairL [x] [y] cols others ++ pairL [x] b cols others := by rw [← pairL_one]; rfl
    rw [e2, List.map_append, tot_append, ihb]
    simp only [linF, Int.mul_add]
    congr 1
    by_cases hm : meetP x.row y.row cols others = true
    · by_cases hc : cmpR (x.row ++ y.row) r = 0
      · simp [pairL, hm, tot, joinI, hc]
      · simp [pairL, hm, tot, joinI, hc]
    · simp [pairL, hm, tot]
theorem tot_join (cols others : List Int) (r : List V) (a b : List It) : tot r ((pairL a b cols others).map joinI) = jt cols others r a b := by
  induction a with
  | nil => rfl
  | cons x a ih =>
    have e : pairL (x :: a) b cols others = pairL [x] b cols others ++ pairL a b cols others := by rw [← pairL_append]; rfl
    rw [e, List.map_append, tot_append, ih, tot_join1]
    rfl
/-- As small as a law's sets are, when they are joined. -/
structure Fw (z : List It) (n : Nat) (k : Int) : Prop where
  good : Good z
  len : z.length ≤ n
  tot : ∀ r, -k ≤ tot r z ∧ tot r z ≤ k
theorem Fw.w {z : List It} {n : Nat} {k : Int} (h : Fw z n k) : ∀ t ∈ z, -k ≤ t.w ∧ t.w ≤ k := fun t ht => by
  rw [← tot_made (good_made.1 h.good).1 ht]; exact h.tot _
theorem mul_small {x y i j : Int} (hx : -i ≤ x ∧ x ≤ i) (hy : -j ≤ y ∧ y ≤ j) : -(i * j) ≤ x * y ∧ x * y ≤ i * j := by
  have h1 := Int.natAbs_mul x y
  have h2 : x.natAbs ≤ i.natAbs := by omega
  have h3 : y.natAbs ≤ j.natAbs := by omega
  have h4 := Nat.mul_le_mul h2 h3
  have h5 : (i.natAbs * j.natAbs : Nat) = (i * j).natAbs := (Int.natAbs_mul i j).symm
  have h6 : 0 ≤ i * j := Int.mul_nonneg (by omega) (by omega)
  omega
theorem joinR_fine {a b out : List It} {cols others : List Int} {err : Int} {n m : Nat} {i j : Int} (ha : Fw a n i) (hb : Fw b m j) (hl : cols.length = others.length) (hw : i * j * ((n * m : Nat) : Int) ≤ 72057594037927936)
    (hi : 0 ≤ i) (hj : 0 ≤ j) (hnm : 0 < n * m) (h : JoinR a b cols others out err) :
    (err = 2 ∧ out = [] ∧ (pairL a b cols others).any longP = true) ∨ (err = 0 ∧ (pairL a b cols others).any longP = false ∧ Good out ∧ Fw out (n * m) (i * j * ((n * m : Nat) : Int)) ∧ ∀ r, tot r out = jt cols others r a b) := by
  have hij : 0 ≤ i * j := Int.mul_nonneg hi hj
  have h1 : i * j ≤ i * j * ((n * m : Nat) : Int) := by
    have := Int.mul_le_mul_of_nonneg_left (show (1 : Int) ≤ ((n * m : Nat) : Int) by omega) hij
    omega
  have hp : ∀ p ∈ pairL a b cols others, -(i * j) ≤ p.1.w * p.2.w ∧ p.1.w * p.2.w ≤ i * j := fun p hp => by
    obtain ⟨g1, g2, _⟩ := pairL_mem hp
    exact mul_small (ha.w _ g1) (hb.w _ g2)
  have hok : ∀ p ∈ pairL a b cols others, okW (p.1.w * p.2.w) = true := fun p h => by
    have := hp p h
    simp only [okW, inB, Bool.and_eq_true, decide_eq_true_eq]; omega
  have hll := Nat.le_trans (pairL_len a b cols others) (Nat.mul_le_mul ha.len hb.len)
  rcases h with ⟨h, _⟩ | ⟨_, _, h, ho, he⟩ | ⟨_, _, _, _, ⟨p, hp, h⟩, _⟩ | ⟨ga, gb, _, hs, _, hm⟩
  · exact absurd ⟨ha.good, hb.good⟩ h
  · rcases h with h | ⟨_, h⟩
    · exact absurd hl h
    · exact .inl ⟨he, ho, h⟩
  · rw [hok p hp] at h; cases h
  · refine .inr ?_
    have hbd : ∀ r, -(i * j * ((n * m : Nat) : Int)) ≤ tot r ((pairL a b cols others).map joinI) ∧ tot r ((pairL a b cols others).map joinI) ≤ i * j * ((n * m : Nat) : Int) := fun r => by
      have h2 := tot_bound (z := (pairL a b cols others).map joinI) hij (fun t ht => by obtain ⟨p, h3, rfl⟩ := List.mem_map.1 ht; exact hp p h3) r
      rw [List.length_map] at h2
      have h3 : i * j * ((pairL a b cols others).length : Int) ≤ i * j * ((n * m : Nat) : Int) := Int.mul_le_mul_of_nonneg_left (by omega) hij
      omega
    obtain ⟨h1, h2, h3, h4, h5⟩ := makeR_fine hm (by
      rw [List.any_eq_false]; intro t ht
      obtain ⟨p, h3, rfl⟩ := List.mem_map.1 ht
      obtain ⟨g1, g2, _⟩ := pairL_mem h3
      have q1 := (good_made.1 ga).2 _ g1
      have q2 := (good_made.1 gb).2 _ g2
      rw [List.any_eq_false] at hs
      have q3 := hs p h3
      have q4 : okR (joinI p).row = 0 := by
        simp only [okR] at q1 q2 ⊢
        simp [longP] at q3
        rw [if_neg (by simp [joinI]; omega)]
        split at q1
        · cases q1
        · split at q1
          · split at q2
            · cases q2
            · split at q2
              · rename_i u1 _ u2
                rw [if_pos (by simp only [joinI, List.all_append, u1, u2]; rfl)]
              · cases q2
          · cases q1
      have q5 : (joinI p).w = p.1.w * p.2.w := rfl
      simp [okI, q4, q5, hok p h3]) fun r => by
        have := hbd r
        simp only [okW, inB, Bool.and_eq_true, decide_eq_true_eq]; omega
    have hg : Good out := good_made.2 ⟨h2, fun t ht => (h4 t ht).1⟩
    refine ⟨h1, hs, hg, ⟨hg, by rw [List.length_map] at h5; omega, fun r => by rw [h3]; exact hbd r⟩, fun r => by rw [h3, tot_join]⟩
theorem Fw.add {x y out : List It} {n m : Nat} {i j err : Int} (hx : Fw x n i) (hy : Fw y m j) (hij : i + j ≤ 72057594037927936) (h : AddR x y out err) : err = 0 ∧ Fw out (n + m) (i + j) ∧ ∀ r, Yt.tot r out = Yt.tot r x + Yt.tot r y := by
  rcases h with ⟨h, _⟩ | ⟨_, _, h⟩
  · exact absurd ⟨hx.good, hy.good⟩ h
  · have hok : ∀ z : List It, Good z → ∀ t ∈ z, okI t = true := fun z hz t ht => by
      have := (good_made.1 hz).2 t ht
      have h2 := ((good_made.1 hz).1.nz t ht).2
      simp [okI, this, h2]
    obtain ⟨h1, h2, h3, h4, h5⟩ := makeR_fine h (by
      rw [List.any_eq_false]; intro t ht
      rcases List.mem_append.1 ht with ht | ht
      · simp [hok _ hx.good t ht]
      · simp [hok _ hy.good t ht]) fun r => by
        rw [tot_append]
        have := hx.tot r; have := hy.tot r
        simp only [okW, inB, Bool.and_eq_true, decide_eq_true_eq]; omega
    refine ⟨h1, ⟨good_made.2 ⟨h2, fun t ht => (h4 t ht).1⟩, ?_, fun r => ?_⟩, fun r => by rw [h3, tot_append]⟩
    · rw [List.length_append] at h5
      have := hx.len; have := hy.len; omega
    · rw [h3, tot_append]
      have := hx.tot r; have := hy.tot r; omega
theorem Fw.eq {x y : List It} {n m : Nat} {i j : Int} (hx : Fw x n i) (hy : Fw y m j) (h : ∀ r, Yt.tot r x = Yt.tot r y) : x = y := made_eq (good_made.1 hx.good).1 (good_made.1 hy.good).1 h
theorem Fw.neg {x : List It} {n : Nat} {i : Int} (h : Fw x n i) : Fw (x.map negI) n i :=
  ⟨good_neg h.good, by rw [List.length_map]; exact h.len, fun r => by rw [tot_neg]; have := h.tot r; omega⟩
theorem Fw.rows {x : List It} {n : Nat} {i : Int} (h : Fw x n i) : ∀ t ∈ x, t.row.length ≤ 12 := fun t ht => by
  have := (good_made.1 h.good).2 t ht
  simp only [okR] at this
  split at this
  · cases this
  · omega
end Yt
namespace Yt
open Go Go.Vc Go.Proofs
set_option maxRecDepth 10000
set_option maxHeartbeats 8000000
set_option linter.unusedSimpArgs false
set_option linter.unusedVariables false
theorem made_tot {z : List It} {k : Int} (h : Made z) (hk : 0 ≤ k) (hw : ∀ t ∈ z, -k ≤ t.w ∧ t.w ≤ k) (r : List V) : -k ≤ tot r z ∧ tot r z ≤ k := by
  by_cases hr : ∃ t ∈ z, t.row = r
  · obtain ⟨t, ht, rfl⟩ := hr
    rw [tot_made h ht]; exact hw t ht
  · have : tot r z = 0 := tot_none fun u hu e => hr ⟨u, hu, lin_cmpR.eq _ _ e⟩
    omega
theorem good_sub {x z : List It} (h : Good z) (hs : x.Sublist z) : Good x := by
  obtain ⟨h1, h2⟩ := good_made.1 h
  exact good_made.2 ⟨⟨h1.pw.sublist hs, fun t ht => h1.nz t (hs.subset ht)⟩, fun t ht => h2 t (hs.subset ht)⟩
theorem cmpV_i (a b : Int) : cmpV ⟨3, a, ByteArray.empty⟩ ⟨3, b, ByteArray.empty⟩ = cmpI a b := by
  have h := wl_cmp a b
  simp only [wl, cmpR] at h
  split at h
  · rename_i h2; rw [h2]; exact h
  · exact h
end Yt
namespace Yt
open Go Go.Vc Go.Proofs
set_option maxRecDepth 10000
set_option maxHeartbeats 8000000
set_option linter.unusedSimpArgs false
set_option linter.unusedVariables false
theorem Fw.r40 {z : List It} {n : Nat} {k : Int} (h : Fw z n k) : ∀ t ∈ z, t.row.length < 1073741824 := fun t ht => by have := h.rows t ht; omega
/-- A join of few, as a law sees it. -/
def JoR (a b : List It) (cols others : List Int) (out : List It) (err : Int) : Prop :=
  (err = 2 ∧ out = [] ∧ (pairL a b cols others).any longP = true) ∨ (err = 0 ∧ (pairL a b cols others).any longP = false ∧ ∃ n k, Fw out n k ∧ n ≤ 2500 ∧ k ≤ 400000000000 ∧ ∀ r, tot r out = jt cols others r a b)
theorem JoR.of {a b out : List It} {cols others : List Int} {err : Int} {n m : Nat} {i j : Int} (ha : Fw a n i) (hb : Fw b m j) (hl : cols.length = others.length) (hnm : n * m ≤ 2500) (h0 : 0 < n * m) (hi : 0 ≤ i ∧ i ≤ 12000) (hj : 0 ≤ j ∧ j ≤ 12000)
    (h : JoinR a b cols others out err) : JoR a b cols others out err := by
  have h1 : i * j ≤ 12000 * 12000 := Int.mul_le_mul hi.2 hj.2 hj.1 (by decide)
  have h2 : 0 ≤ i * j := Int.mul_nonneg hi.1 hj.1
  have h3 : i * j * ((n * m : Nat) : Int) ≤ 12000 * 12000 * 2500 := Int.mul_le_mul h1 (by omega) (by omega) (by decide)
  rcases joinR_fine ha hb hl (by omega) hi.1 hj.1 h0 h with ⟨h4, h5, h7⟩ | ⟨h4, h7, _, h5, h6⟩
  · exact .inl ⟨h4, h5, h7⟩
  · exact .inr ⟨h4, h7, _, _, h5, hnm, by omega, h6⟩
theorem Fw.min {x y out : List It} {n m : Nat} {i j err : Int} (hx : Fw x n i) (hy : Fw y m j) (hij : i + j ≤ 72057594037927936) (h : MinR x y out err) : err = 0 ∧ Fw out (n + m) (i + j) ∧ ∀ r, Yt.tot r out = Yt.tot r x - Yt.tot r y := by
  have h2 : AddR x (y.map negI) out err := by
    rcases h with ⟨h, _⟩ | ⟨_, _, h⟩
    · exact absurd ⟨hx.good, hy.good⟩ h
    · exact .inr ⟨hx.good, hy.neg.good, h⟩
  obtain ⟨a, b, c⟩ := hx.add hy.neg hij h2
  exact ⟨a, b, fun r => by rw [c, tot_neg]; omega⟩
end Yt
namespace Yt
open Go Go.Vc Go.Proofs
set_option maxRecDepth 10000
set_option maxHeartbeats 8000000
set_option linter.unusedSimpArgs false
set_option linter.unusedVariables false
def two (t : It) : Bool := decide (t.row.length = 2)
end Yt
namespace Yt
open Go Go.Vc Go.Proofs
set_option maxRecDepth 10000
set_option maxHeartbeats 8000000
set_option linter.unusedSimpArgs false
set_option linter.unusedVariables false
theorem JoR.fine {a b out : List It} {cols others : List Int} {err : Int} (h : JoR a b cols others out err) (hl : (pairL a b cols others).any longP = false) :
    err = 0 ∧ ∃ n k, Fw out n k ∧ n ≤ 2500 ∧ k ≤ 400000000000 ∧ ∀ r, tot r out = jt cols others r a b := by
  rcases h with ⟨_, _, h⟩ | ⟨h, _, n, k, h1⟩
  · rw [hl] at h; cases h
  · exact ⟨h, n, k, h1⟩
theorem Fw.nil {n : Nat} {k : Int} (hk : 0 ≤ k) : Fw [] n k := ⟨good_made.2 ⟨⟨.nil, by simp⟩, by simp⟩, by simp, fun r => by simp [Yt.tot]; omega⟩
theorem Fw.pos {z : List It} {n : Nat} {k : Int} (h : Fw z n k) : 0 ≤ k := by have := h.tot []; omega
end Yt
namespace Yt
open Go Go.Vc Go.Proofs
set_option maxRecDepth 10000
set_option maxHeartbeats 8000000
set_option linter.unusedSimpArgs false
set_option linter.unusedVariables false
theorem made_rows {z : List It} (h : Made z) : z.Pairwise fun a b => a.row ≠ b.row := h.pw.imp fun {a b} hab e => by
  have := cI_eq.2 e; omega
end Yt
namespace Yt
open Go Go.Vc Go.Proofs
set_option maxRecDepth 10000
set_option maxHeartbeats 16000000
set_option linter.unusedSimpArgs false
set_option linter.unusedVariables false
end Yt
namespace Yt
open Go Go.Vc Go.Proofs
set_option maxRecDepth 10000
set_option maxHeartbeats 8000000
set_option linter.unusedSimpArgs false
set_option linter.unusedVariables false
end Yt
namespace Yt
open Go Go.Vc Go.Proofs
set_option maxRecDepth 10000
set_option maxHeartbeats 8000000
set_option linter.unusedSimpArgs false
set_option linter.unusedVariables false
end Yt
namespace Yt
open Go Go.Vc Go.Proofs
set_option maxRecDepth 10000
set_option maxHeartbeats 8000000
set_option linter.unusedSimpArgs false
set_option linter.unusedVariables false
end Yt
namespace Yt
open Go Go.Vc Go.Proofs
set_option maxRecDepth 10000
set_option maxHeartbeats 8000000
set_option linter.unusedSimpArgs false
set_option linter.unusedVariables false
end Yt
namespace Yt
open Go Go.Vc Go.Proofs
set_option maxRecDepth 10000
set_option maxHeartbeats 8000000
set_option linter.unusedSimpArgs false
set_option linter.unusedVariables false
def inVal (n : Int) : Bool := inB n (-1152921504606846976) 1152921504606846976
theorem c147 (n : Int) : Spec0 Try.prog 147 [iA n] (· = bA (inVal n)) := by
  refine spec0_of_vc tabOk elems ord147 Try.func147 rfl (rl := [.tmp 2]) rfl (by kernel_rfl) rfl ?_
  (simp -implicitDefEqProofs only [go_sem, iA]; repeat (refine GO ?_; simp -implicitDefEqProofs only [go_sem, iA]))
  refine VIF.split (fun h => ?_) (fun h => ?_)
  · (simp -implicitDefEqProofs only [go_sem]; repeat (refine GO ?_; simp -implicitDefEqProofs only [go_sem]))
    simp at h; simp [inVal, inB, bA, h]
  · (simp -implicitDefEqProofs only [go_sem]; repeat (refine GO ?_; simp -implicitDefEqProofs only [go_sem]))
    simp at h; simp [inVal, inB, bA]; omega
theorem u64_abs (a : Int) (h : -9223372036854775807 ≤ a ∧ a ≤ 9223372036854775807) : IntKind.u64.wrap (max a (IntKind.i64.wrap (0 - a))) = a.natAbs := by
  have w1 : IntKind.i64.wrap (0 - a) = -a := by rw [wrap_i64] <;> omega
  rw [w1, wrap_u64] <;> omega
theorem c146 (a b : Int) (ha : -4611686018427387904 ≤ a ∧ a ≤ 4611686018427387904) (hb : -4611686018427387904 ≤ b ∧ b ≤ 4611686018427387904) :
    Spec0 Try.prog 146 [iA a, iA b] (· = .tu [iA (IntKind.i64.wrap (a * b)), bA (inVal (a * b))]) := by
  refine spec0_of_vc tabOk elems ord146 Try.func146 rfl (rl := [.tmp 4, .tmp 5]) rfl (by kernel_rfl) rfl ?_
  have e1 := u64_abs a (by omega)
  have e2 := u64_abs b (by omega)
  (simp -implicitDefEqProofs only [go_sem, iA, e1, e2]; repeat (refine GO ?_; simp -implicitDefEqProofs only [go_sem, iA, e1, e2]))
  refine .pure _ (c115 (a.natAbs : Int) (b.natAbs : Int) (by omega) (by omega)) rfl fun r hq _ => ?_
  subst hq
  have hk := natAbs_mul_le a b 1152921504606846976
  have h0 : 0 ≤ (a.natAbs : Int) * b.natAbs := Int.mul_nonneg (by omega) (by omega)
  (simp -implicitDefEqProofs only [go_sem, iA, uA]; repeat (refine GO ?_; simp -implicitDefEqProofs only [go_sem, iA, uA]))
  refine VIF.split (fun h => ?_) (fun h => ?_)
  · have h : (a.natAbs : Int) * b.natAbs / 18446744073709551616 = 0 := by simpa using h
    (simp -implicitDefEqProofs only [go_sem]; repeat (refine GO ?_; simp -implicitDefEqProofs only [go_sem]))
    have e : (a.natAbs : Int) * b.natAbs % 18446744073709551616 = (a.natAbs : Int) * b.natAbs := by omega
    rw [e]
    simp only [inVal, inB, bA, h, decide_true]
    refine ⟨rfl, ?_⟩
    congr 5
    rw [← Bool.decide_and, decide_eq_decide]
    exact hk
  · have h : (a.natAbs : Int) * b.natAbs / 18446744073709551616 ≠ 0 := by simpa using h
    (simp -implicitDefEqProofs only [go_sem]; repeat (refine GO ?_; simp -implicitDefEqProofs only [go_sem]))
    have hn : ¬ (-1152921504606846976 ≤ a * b ∧ a * b ≤ 1152921504606846976) := fun h' => by have := hk.2 h'; omega
    have e : inVal (a * b) = false := by
      simp only [inVal, inB, ← Bool.decide_and]; exact decide_eq_false hn
    simp [h, e, bA, iA]
theorem c138 (n a b : Int) (ha : -4611686018427387904 ≤ a ∧ a ≤ 4611686018427387904) (hb : -4611686018427387904 ≤ b ∧ b ≤ 4611686018427387904) (hn : inVal n = true) :
    Spec0 Try.prog 138 [iA n, iA a, iA b] (fun r => ∃ v : Int, r = .tu [iA v, bA (inVal (a * b) && inVal (n + a * b))] ∧ ((inVal (a * b) && inVal (n + a * b)) = true → v = n + a * b)) := by
  refine spec0_of_vc tabOk elems ord138 Try.func138 rfl (rl := [.tmp 6, .tmp 7]) rfl (by kernel_rfl) rfl ?_
  (simp -implicitDefEqProofs only [go_sem, iA]; repeat (refine GO ?_; simp -implicitDefEqProofs only [go_sem, iA]))
  refine .pure _ (c146 a b ha hb) rfl fun r hq _ => ?_
  subst hq
  (simp -implicitDefEqProofs only [go_sem, iA, bA]; repeat (refine GO ?_; simp -implicitDefEqProofs only [go_sem, iA, bA]))
  refine VIF.split (fun h => ?_) (fun h => ?_)
  · have hm : -1152921504606846976 ≤ a * b ∧ a * b ≤ 1152921504606846976 := by simpa [inVal, inB] using h
    have hn' : -1152921504606846976 ≤ n ∧ n ≤ 1152921504606846976 := by simpa [inVal, inB] using hn
    have w1 : IntKind.i64.wrap (a * b) = a * b := by rw [wrap_i64] <;> omega
    have w2 : IntKind.i64.wrap (n + a * b) = n + a * b := by rw [wrap_i64] <;> omega
    (simp -implicitDefEqProofs only [go_sem, w1, w2]; repeat (refine GO ?_; simp -implicitDefEqProofs only [go_sem, w1, w2]))
    refine .pure _ (c147 (n + a * b)) rfl fun r hq _ => ?_
    subst hq
    (simp -implicitDefEqProofs only [go_sem, iA, bA]; repeat (refine GO ?_; simp -implicitDefEqProofs only [go_sem, iA, bA]))
    exact ⟨rfl, n + a * b, by rw [h, Bool.true_and], fun _ => rfl⟩
  · (simp -implicitDefEqProofs only [go_sem]; repeat (refine GO ?_; simp -implicitDefEqProofs only [go_sem]))
    refine ⟨rfl, _, by rw [h, Bool.false_and]; rfl, fun h' => ?_⟩
    rw [h, Bool.false_and] at h'; cases h'
/-- A group. -/
structure Gp where
  at_ : List V
  items : List It
def Gp.c (g : Gp) : List AV := [rowA g.at_, setA g.items]
/-- What an aggregate adds up. -/
def sumF (kind col : Int) : List It → Int → Option Int
  | [], n => some n
  | x :: r, n => if kind = 2 ∧ (getV x.row col).k ≠ 3 then sumF kind col r n else
      if (inVal (x.w * (if kind = 2 then (getV x.row col).i else 1)) && inVal (n + x.w * (if kind = 2 then (getV x.row col).i else 1))) = true then sumF kind col r (n + x.w * (if kind = 2 then (getV x.row col).i else 1)) else none
def V.zero : V := ⟨0, 0, ByteArray.empty⟩
def sumV : Option Int → V
  | some n => ⟨3, n, ByteArray.empty⟩
  | none => V.zero
theorem leaf1 : ∀ x ∈ (Ob.mk 3 [V.zero.c]).es, ∀ a ∈ x, a.leaf = true := by simp [V.c, AV.leaf]
theorem c109 (g : Gp) (kind col : Int) (hl : g.items.length < 4611686018427387904) (hr : ∀ t ∈ g.items, t.row.length < 4611686018427387904)
    (hw : ∀ t ∈ g.items, -72057594037927936 ≤ t.w ∧ t.w ≤ 72057594037927936) (hv : ∀ t ∈ g.items, ∀ v ∈ t.row, -4611686018427387904 ≤ v.i ∧ v.i ≤ 4611686018427387904) (hc : kind ≠ 1 → ∀ t ∈ g.items, inC col t.row.length = true) :
    Spec0 Try.prog 109 [.ag g.c, iA kind, iA col] (· = .tu [.ag (sumV (sumF kind col g.items 0)).c, bA (sumF kind col g.items 0).isSome]) := by
  refine spec0_of_vc tabOk elems ord109 Try.func109 rfl (rl := [.cell 6 25, .tmp 7]) rfl (by kernel_rfl) rfl ?_
  (simp -implicitDefEqProofs only [go_sem, Gp.c, rowA, setA, iA]; repeat (refine GO ?_; simp -implicitDefEqProofs only [go_sem, Gp.c, rowA, setA, iA]))
  refine LOOP.mk (ι := { p : Nat × Int // p.1 ≤ g.items.length ∧ sumF kind col g.items 0 = sumF kind col (g.items.drop p.1) p.2 ∧ inVal p.2 = true }) (fun p => mkS [(1, iA kind), (2, iA col), (6, .pt 1000 0 0), (8, iA p.1.2), (15, setA g.items), (16, iA g.items.length), (17, iA p.1.1)] [(1000, ⟨3, [V.zero.c]⟩)] [1000])
    (fun p => g.items.length - p.1.1) ⟨(0, 0), Nat.zero_le _, rfl, by decide⟩ [(1000, some 6)] rfl rfl ?_ (fun p => ?_)
  · (simp -implicitDefEqProofs only [go_sem, setA, iA, V.c, V.zero]; repeat (refine GO ?_; simp -implicitDefEqProofs only [go_sem, setA, iA, V.c, V.zero]))
    exact ⟨id, rfl, .same ⟨3, [V.zero.c]⟩ _ _ leaf1 rfl⟩
  obtain ⟨⟨i, n⟩, hi, hs, hn⟩ := p
  simp only at hi hs hn
  (simp -implicitDefEqProofs only [go_sem, setA, iA, V.c, V.zero]; repeat (refine GO ?_; simp -implicitDefEqProofs only [go_sem, setA, iA, V.c, V.zero]))
  refine VIF.split (fun h => ?_) (fun h => ?_)
  · have h : i < g.items.length := by simpa using h
    have hm := List.getElem_mem h
    have w1 := wrap_add1 (show i < 4611686018427387904 by omega)
    have hst : sumF kind col (g.items.drop i) n = if kind = 2 ∧ (getV g.items[i].row col).k ≠ 3 then sumF kind col (g.items.drop (i + 1)) n else
        if (inVal (g.items[i].w * (if kind = 2 then (getV g.items[i].row col).i else 1)) && inVal (n + g.items[i].w * (if kind = 2 then (getV g.items[i].row col).i else 1))) = true then sumF kind col (g.items.drop (i + 1)) (n + g.items[i].w * (if kind = 2 then (getV g.items[i].row col).i else 1)) else none := by
      rw [List.drop_eq_getElem_cons h]; rfl
    (simp -implicitDefEqProofs only [go_sem]; repeat (refine GO ?_; simp -implicitDefEqProofs only [go_sem]))
    refine EL.map h ?_
    (simp -implicitDefEqProofs only [go_sem, It.c, iA]; repeat (refine GO ?_; simp -implicitDefEqProofs only [go_sem, It.c, iA]))
    refine VIF.split (fun h2 => ?_) (fun h2 => ?_)
    · have h2 : kind = 2 := by simpa using h2
      have hin := hc (by omega) _ hm
      have hin' : 0 ≤ col ∧ col.toNat < g.items[i].row.length := by simp [inC] at hin; omega
      have hgv : getV g.items[i].row col = g.items[i].row[col.toNat] := by simp [getV, hin'.2]
      (simp -implicitDefEqProofs only [go_sem, rowA]; repeat (refine GO ?_; simp -implicitDefEqProofs only [go_sem, rowA]))
      refine ⟨hin'.1, EL.map hin'.2 ?_⟩
      (simp -implicitDefEqProofs only [go_sem, V.c]; repeat (refine GO ?_; simp -implicitDefEqProofs only [go_sem, V.c]))
      refine VIF.split (fun h3 => ?_) (fun h3 => ?_)
      · have h3 : g.items[i].row[col.toNat].k ≠ 3 := by simpa using h3
        (simp -implicitDefEqProofs only [go_sem, w1]; repeat (refine GO ?_; simp -implicitDefEqProofs only [go_sem, w1]))
        refine BACK.mk ⟨(i + 1, n), by simp only; omega, ?_, hn⟩ [(1000, some 1000)] rfl rfl (by show g.items.length - (i + 1) < g.items.length - i; omega) ?_
        · rw [hs, hst, if_pos ⟨h2, by rw [hgv]; exact h3⟩]
        · (simp -implicitDefEqProofs only [go_sem, setA, iA, w1]; repeat (refine GO ?_; simp -implicitDefEqProofs only [go_sem, setA, iA, w1]))
          exact ⟨id, .same ⟨3, [V.zero.c]⟩ _ _ leaf1 rfl⟩
      · have h3 : g.items[i].row[col.toNat].k = 3 := by simpa using h3
        have hb := hv _ hm _ (List.getElem_mem hin'.2)
        have hwm := hw _ hm
        rw [if_neg (fun h => h.2 (by rw [hgv]; exact h3)), if_pos h2, hgv] at hst
        (simp -implicitDefEqProofs only [go_sem]; repeat (refine GO ?_; simp -implicitDefEqProofs only [go_sem]))
        refine .pure _ (c138 n g.items[i].w g.items[i].row[col.toNat].i (by omega) hb hn) rfl fun r hq _ => ?_
        obtain ⟨v, rfl, hv2⟩ := hq
        (simp -implicitDefEqProofs only [go_sem, iA, bA]; repeat (refine GO ?_; simp -implicitDefEqProofs only [go_sem, iA, bA]))
        refine VIF.split (fun h4 => ?_) (fun h4 => ?_)
        · have h4 : (inVal (g.items[i].w * g.items[i].row[col.toNat].i) && inVal (n + g.items[i].w * g.items[i].row[col.toNat].i)) = false := by simpa only [Bool.not_eq_true'] using h4
          rw [if_neg (by rw [h4]; decide)] at hst
          (simp -implicitDefEqProofs only [go_sem]; repeat (refine GO ?_; simp -implicitDefEqProofs only [go_sem]))
          rw [hs, hst]
          exact ⟨rfl, rfl⟩
        · have h4 : (inVal (g.items[i].w * g.items[i].row[col.toNat].i) && inVal (n + g.items[i].w * g.items[i].row[col.toNat].i)) = true := by simpa only [Bool.not_eq_false'] using h4
          have hv3 := hv2 h4
          rw [if_pos h4, ← hv3] at hst
          (simp -implicitDefEqProofs only [go_sem, w1]; repeat (refine GO ?_; simp -implicitDefEqProofs only [go_sem, w1]))
          refine BACK.mk ⟨(i + 1, v), by simp only; omega, hs.trans hst, ?_⟩ [(1000, some 1000)] rfl rfl (by show g.items.length - (i + 1) < g.items.length - i; omega) ?_
          · rw [hv3]; exact (Bool.and_eq_true _ _ ▸ h4).2
          · (simp -implicitDefEqProofs only [go_sem, setA, iA, w1]; repeat (refine GO ?_; simp -implicitDefEqProofs only [go_sem, setA, iA, w1]))
            exact ⟨id, .same ⟨3, [V.zero.c]⟩ _ _ leaf1 rfl⟩
    · have h2 : kind ≠ 2 := by simpa using h2
      have hwm := hw _ hm
      simp only [h2, false_and, if_false, Int.mul_one] at hst
      (simp -implicitDefEqProofs only [go_sem, rowA, iA]; repeat (refine GO ?_; simp -implicitDefEqProofs only [go_sem, rowA, iA]))
      refine .pure _ (show Spec0 Try.prog 138 [iA n, iA g.items[i].w, iA 1] _ from c138 n g.items[i].w 1 (by omega) (by omega) hn) rfl fun r hq _ => ?_
      obtain ⟨v, rfl, hv2⟩ := hq
      rw [Int.mul_one] at hv2 ⊢
      (simp -implicitDefEqProofs only [go_sem, iA, bA]; repeat (refine GO ?_; simp -implicitDefEqProofs only [go_sem, iA, bA]))
      refine VIF.split (fun h4 => ?_) (fun h4 => ?_)
      · have h4 : (inVal (g.items[i].w) && inVal (n + g.items[i].w)) = false := by simpa only [Bool.not_eq_true'] using h4
        rw [if_neg (by rw [h4]; decide)] at hst
        (simp -implicitDefEqProofs only [go_sem]; repeat (refine GO ?_; simp -implicitDefEqProofs only [go_sem]))
        rw [hs, hst]
        exact ⟨rfl, rfl⟩
      · have h4 : (inVal (g.items[i].w) && inVal (n + g.items[i].w)) = true := by simpa only [Bool.not_eq_false'] using h4
        have hv3 := hv2 h4
        rw [if_pos h4, ← hv3] at hst
        (simp -implicitDefEqProofs only [go_sem, w1]; repeat (refine GO ?_; simp -implicitDefEqProofs only [go_sem, w1]))
        refine BACK.mk ⟨(i + 1, v), by simp only; omega, hs.trans hst, ?_⟩ [(1000, some 1000)] rfl rfl (by show g.items.length - (i + 1) < g.items.length - i; omega) ?_
        · rw [hv3]; exact (Bool.and_eq_true _ _ ▸ h4).2
        · (simp -implicitDefEqProofs only [go_sem, setA, iA, w1]; repeat (refine GO ?_; simp -implicitDefEqProofs only [go_sem, setA, iA, w1]))
          exact ⟨id, .same ⟨3, [V.zero.c]⟩ _ _ leaf1 rfl⟩
  · have h : i = g.items.length := by simp at h; omega
    subst h
    rw [List.drop_length] at hs
    (simp -implicitDefEqProofs only [go_sem]; repeat (refine GO ?_; simp -implicitDefEqProofs only [go_sem]))
    rw [hs]
    exact ⟨rfl, rfl⟩
def bestF (kind col : Int) : List It → V → V
  | [], o => o
  | x :: r, o => if (getV x.row col).k = 1 then bestF kind col r o else
      if o.k = 1 ∨ (kind = 3 ∧ cmpV (getV x.row col) o < 0) ∨ (kind = 4 ∧ 0 < cmpV (getV x.row col) o) then bestF kind col r (getV x.row col) else bestF kind col r o
def V.nul : V := ⟨1, 0, ByteArray.empty⟩
theorem leafV (v : V) : ∀ x ∈ (Ob.mk 3 [v.c]).es, ∀ a ∈ x, a.leaf = true := by simp [V.c, AV.leaf]
theorem c108 (g : Gp) (kind col : Int) (hl : g.items.length < 4611686018427387904) (hc : kind ≠ 1 → ∀ t ∈ g.items, inC col t.row.length = true) :
    Spec0 Try.prog 108 [.ag g.c, iA kind, iA col] (· = .ag (if kind = 1 then V.nul else bestF kind col g.items V.nul).c) := by
  refine spec0_of_vc tabOk elems ord108 Try.func108 rfl (rl := [.cell 6 25]) rfl (by kernel_rfl) rfl ?_
  (simp -implicitDefEqProofs only [go_sem, Gp.c, rowA, setA, iA]; repeat (refine GO ?_; simp -implicitDefEqProofs only [go_sem, Gp.c, rowA, setA, iA]))
  refine VIF.split (fun h => ?_) (fun h => ?_)
  · have h : kind = 1 := by simpa using h
    (simp -implicitDefEqProofs only [go_sem]; repeat (refine GO ?_; simp -implicitDefEqProofs only [go_sem]))
    rw [if_pos h]
    exact ⟨rfl, rfl⟩
  have h1 : kind ≠ 1 := by simpa using h
  rw [if_neg h1]
  (simp -implicitDefEqProofs only [go_sem]; repeat (refine GO ?_; simp -implicitDefEqProofs only [go_sem]))
  refine LOOP.mk (ι := { p : Nat × V // p.1 ≤ g.items.length ∧ bestF kind col g.items V.nul = bestF kind col (g.items.drop p.1) p.2 }) (fun p => mkS [(1, iA kind), (2, iA col), (6, .pt 1001 0 0), (7, .pt 1000 0 0), (17, setA g.items), (18, iA g.items.length), (19, iA p.1.1)] [(1000, ⟨3, [p.1.2.c]⟩), (1001, ⟨3, [V.zero.c]⟩)] [1000, 1001])
    (fun p => g.items.length - p.1.1) ⟨(0, V.nul), Nat.zero_le _, rfl⟩ [(1000, some 7), (1001, some 6)] rfl rfl ?_ (fun p => ?_)
  · (simp -implicitDefEqProofs only [go_sem, setA, iA, V.c, V.zero, V.nul]; repeat (refine GO ?_; simp -implicitDefEqProofs only [go_sem, setA, iA, V.c, V.zero, V.nul]))
    exact ⟨id, rfl, .same ⟨3, [V.nul.c]⟩ _ _ (leafV V.nul) rfl, .same ⟨3, [V.zero.c]⟩ _ _ leaf1 rfl⟩
  obtain ⟨⟨i, o⟩, hi, hs⟩ := p
  simp only at hi hs
  (simp -implicitDefEqProofs only [go_sem, setA, iA, V.c, V.zero]; repeat (refine GO ?_; simp -implicitDefEqProofs only [go_sem, setA, iA, V.c, V.zero]))
  refine VIF.split (fun h => ?_) (fun h => ?_)
  · have h : i < g.items.length := by simpa using h
    have hm := List.getElem_mem h
    have w1 := wrap_add1 (show i < 4611686018427387904 by omega)
    have hin := hc h1 _ hm
    have hin' : 0 ≤ col ∧ col.toNat < g.items[i].row.length := by simp [inC] at hin; omega
    have hgv : getV g.items[i].row col = g.items[i].row[col.toNat] := by simp [getV, hin'.2]
    have hst : bestF kind col (g.items.drop i) o = if g.items[i].row[col.toNat].k = 1 then bestF kind col (g.items.drop (i + 1)) o else
      if o.k = 1 ∨ (kind = 3 ∧ cmpV g.items[i].row[col.toNat] o < 0) ∨ (kind = 4 ∧ 0 < cmpV g.items[i].row[col.toNat] o) then bestF kind col (g.items.drop (i + 1)) g.items[i].row[col.toNat] else bestF kind col (g.items.drop (i + 1)) o := by
      rw [List.drop_eq_getElem_cons h, ← hgv]; rfl
    (simp -implicitDefEqProofs only [go_sem]; repeat (refine GO ?_; simp -implicitDefEqProofs only [go_sem]))
    refine EL.map h ?_
    (simp -implicitDefEqProofs only [go_sem, It.c, iA, rowA]; repeat (refine GO ?_; simp -implicitDefEqProofs only [go_sem, It.c, iA, rowA]))
    refine ⟨hin'.1, EL.map hin'.2 ?_⟩
    (simp -implicitDefEqProofs only [go_sem, V.c]; repeat (refine GO ?_; simp -implicitDefEqProofs only [go_sem, V.c]))
    refine VIF.split (fun h3 => ?_) (fun h3 => ?_)
    · have h3 : g.items[i].row[col.toNat].k = 1 := by simpa using h3
      rw [if_pos h3] at hst
      (simp -implicitDefEqProofs only [go_sem, w1]; repeat (refine GO ?_; simp -implicitDefEqProofs only [go_sem, w1]))
      refine BACK.mk ⟨(i + 1, o), by simp only; omega, hs.trans hst⟩ [(1000, some 1000), (1001, some 1001)] rfl rfl (by show g.items.length - (i + 1) < g.items.length - i; omega) ?_
      (simp -implicitDefEqProofs only [go_sem, setA, iA, w1, V.c, V.zero]; repeat (refine GO ?_; simp -implicitDefEqProofs only [go_sem, setA, iA, w1, V.c, V.zero]))
      exact ⟨id, .same ⟨3, [o.c]⟩ _ _ (leafV o) rfl, .same ⟨3, [V.zero.c]⟩ _ _ leaf1 rfl⟩
    have h3 : g.items[i].row[col.toNat].k ≠ 1 := by simpa using h3
    rw [if_neg h3] at hst
    (simp -implicitDefEqProofs only [go_sem]; repeat (refine GO ?_; simp -implicitDefEqProofs only [go_sem]))
    refine .pure _ (s45 g.items[i].row[col.toNat] o) rfl fun r hq _ => ?_
    subst hq
    (simp -implicitDefEqProofs only [go_sem, w1]; repeat (refine GO ?_; simp -implicitDefEqProofs only [go_sem, w1]))
    have hb : ∀ b : Bool, b = decide (o.k = 1 ∨ (kind = 3 ∧ cmpV g.items[i].row[col.toNat] o < 0) ∨ (kind = 4 ∧ 0 < cmpV g.items[i].row[col.toNat] o)) →
        bestF kind col (g.items.drop i) o = bestF kind col (g.items.drop (i + 1)) (if b = true then g.items[i].row[col.toNat] else o) := by
      rintro _ rfl
      rw [hst]
      by_cases h4 : o.k = 1 ∨ (kind = 3 ∧ cmpV g.items[i].row[col.toNat] o < 0) ∨ (kind = 4 ∧ 0 < cmpV g.items[i].row[col.toNat] o)
      · rw [if_pos h4, decide_eq_true h4]; rfl
      · rw [if_neg h4, decide_eq_false h4]; rfl
    have tk : ∀ b : Bool, b = decide (o.k = 1 ∨ (kind = 3 ∧ cmpV g.items[i].row[col.toNat] o < 0) ∨ (kind = 4 ∧ 0 < cmpV g.items[i].row[col.toNat] o)) →
        (i + 1, if b = true then g.items[i].row[col.toNat] else o).1 ≤ g.items.length ∧ bestF kind col g.items V.nul = bestF kind col (g.items.drop (i + 1, if b = true then g.items[i].row[col.toNat] else o).1) (i + 1, if b = true then g.items[i].row[col.toNat] else o).2 := fun b hb' =>
      ⟨by simp only; omega, hs.trans (hb b hb')⟩
    repeat' (refine VIF.split (fun a => ?_) (fun a => ?_) <;> (simp -implicitDefEqProofs only [go_sem, w1]; repeat (refine GO ?_; simp -implicitDefEqProofs only [go_sem, w1])))
    all_goals try simp only [decide_eq_true_eq, decide_eq_false_iff_not] at *
    all_goals first
      | (exfalso; omega)
      | (refine BACK.mk ⟨(i + 1, g.items[i].row[col.toNat]), tk true (by simp [*])⟩ [(1000, some 1000), (1001, some 1001)] rfl rfl (by show g.items.length - (i + 1) < g.items.length - i; omega) ?_
         (simp -implicitDefEqProofs only [go_sem, setA, iA, w1, V.c, V.zero]; repeat (refine GO ?_; simp -implicitDefEqProofs only [go_sem, setA, iA, w1, V.c, V.zero]))
         exact ⟨id, .same ⟨3, [g.items[i].row[col.toNat].c]⟩ _ _ (leafV g.items[i].row[col.toNat]) rfl, .same ⟨3, [V.zero.c]⟩ _ _ leaf1 rfl⟩)
      | (refine BACK.mk ⟨(i + 1, o), tk false (by simp [*])⟩ [(1000, some 1000), (1001, some 1001)] rfl rfl (by show g.items.length - (i + 1) < g.items.length - i; omega) ?_
         (simp -implicitDefEqProofs only [go_sem, setA, iA, w1, V.c, V.zero]; repeat (refine GO ?_; simp -implicitDefEqProofs only [go_sem, setA, iA, w1, V.c, V.zero]))
         exact ⟨id, .same ⟨3, [o.c]⟩ _ _ (leafV o) rfl, .same ⟨3, [V.zero.c]⟩ _ _ leaf1 rfl⟩)
  · have h : i = g.items.length := by simp at h; omega
    subst h
    rw [List.drop_length] at hs
    (simp -implicitDefEqProofs only [go_sem]; repeat (refine GO ?_; simp -implicitDefEqProofs only [go_sem]))
    rw [hs]
    exact ⟨rfl, rfl⟩
theorem c106 (z : List It) (cols : List Int) (kind col : Int) (hl : z.length < 4611686018427387904) (hr : ∀ t ∈ z, t.row.length < 1073741824) (hc : cols.length < 1073741824) :
    Spec0 Try.prog 106 [setA z, intsL cols, iA kind, iA col] (fun r => ∃ e : Int, r = iA e ∧ (e = 0 ∨ e = 1 ∨ e = 2) ∧ (e = 0 ↔ Good z ∧ 1 ≤ kind ∧ kind ≤ 4 ∧ cols.length < 12 ∧ ∀ t ∈ z, pickE t.row cols = 0 ∧ (kind ≠ 1 → inC col t.row.length = true)) ∧
      (e = 2 ↔ Good z ∧ 1 ≤ kind ∧ kind ≤ 4 ∧ 12 ≤ cols.length)) := by
  refine spec0_of_vc tabOk elems ord106 Try.func106 rfl (rl := [.tmp 8]) rfl (by kernel_rfl) rfl ?_
  (simp -implicitDefEqProofs only [go_sem, setA, intsL, iA]; repeat (refine GO ?_; simp -implicitDefEqProofs only [go_sem, setA, intsL, iA]))
  refine .pure _ (show Spec0 Try.prog 62 [setA z] _ from s16 z hl (fun t ht => by have := hr t ht; omega)) rfl fun r hq _ => ?_
  obtain ⟨e, rfl, he, hg⟩ := hq
  (simp -implicitDefEqProofs only [go_sem, iA]; repeat (refine GO ?_; simp -implicitDefEqProofs only [go_sem, iA]))
  refine VIF.split (fun h => ?_) (fun h => ?_)
  · have h : e ≠ 0 := by simpa using h
    have h1 : e = 1 := by omega
    subst h1
    (simp -implicitDefEqProofs only [go_sem]; repeat (refine GO ?_; simp -implicitDefEqProofs only [go_sem]))
    have hng : ¬ Good z := fun g => h (hg.2 g)
    exact ⟨1, rfl, by omega, ⟨fun h => by omega, fun g => absurd g.1 hng⟩, ⟨fun h => by omega, fun g => absurd g.1 hng⟩⟩
  have h : e = 0 := by simpa using h
  have hgz := hg.1 h
  subst h
  (simp -implicitDefEqProofs only [go_sem]; repeat (refine GO ?_; simp -implicitDefEqProofs only [go_sem]))
  refine VIF.split (fun h => ?_) (fun h => ?_)
  · have h : kind < 1 := by simpa using h
    (simp -implicitDefEqProofs only [go_sem]; repeat (refine GO ?_; simp -implicitDefEqProofs only [go_sem]))
    exact ⟨1, rfl, by omega, ⟨fun h => by omega, fun g => by omega⟩, ⟨fun h => by omega, fun g => by omega⟩⟩
  have k1 : 1 ≤ kind := by simpa using h
  (simp -implicitDefEqProofs only [go_sem]; repeat (refine GO ?_; simp -implicitDefEqProofs only [go_sem]))
  refine VIF.split (fun h => ?_) (fun h => ?_)
  · have h : 4 < kind := by simpa using h
    (simp -implicitDefEqProofs only [go_sem]; repeat (refine GO ?_; simp -implicitDefEqProofs only [go_sem]))
    exact ⟨1, rfl, by omega, ⟨fun h => by omega, fun g => by omega⟩, ⟨fun h => by omega, fun g => by omega⟩⟩
  have k2 : kind ≤ 4 := by simpa using h
  (simp -implicitDefEqProofs only [go_sem]; repeat (refine GO ?_; simp -implicitDefEqProofs only [go_sem]))
  refine VIF.split (fun h => ?_) (fun h => ?_)
  · have h : 12 ≤ cols.length := by simp at h; omega
    (simp -implicitDefEqProofs only [go_sem]; repeat (refine GO ?_; simp -implicitDefEqProofs only [go_sem]))
    exact ⟨2, rfl, by omega, ⟨fun h => by omega, fun g => by omega⟩, ⟨fun _ => ⟨hgz, k1, k2, h⟩, fun _ => rfl⟩⟩
  have k3 : cols.length < 12 := by simp at h; omega
  (simp -implicitDefEqProofs only [go_sem]; repeat (refine GO ?_; simp -implicitDefEqProofs only [go_sem]))
  refine LOOP.mk (ι := { i : Nat // i ≤ z.length ∧ ∀ j (h : j < z.length), j < i → pickE z[j].row cols = 0 ∧ (kind ≠ 1 → inC col z[j].row.length = true) }) (fun p => mkS [(1, intsL cols), (2, iA kind), (3, iA col), (31, setA z), (32, iA z.length), (33, iA p.1)] [] [])
    (fun p => z.length - p.1) ⟨0, Nat.zero_le _, fun j _ h => absurd h (Nat.not_lt_zero _)⟩ [] rfl rfl ?_ (fun p => ?_)
  · (simp -implicitDefEqProofs only [go_sem, setA, iA, intsL]; repeat (refine GO ?_; simp -implicitDefEqProofs only [go_sem, setA, iA, intsL]))
    exact ⟨id, rfl⟩
  obtain ⟨i, hi, hz⟩ := p
  (simp -implicitDefEqProofs only [go_sem, setA, iA, intsL]; repeat (refine GO ?_; simp -implicitDefEqProofs only [go_sem, setA, iA, intsL]))
  refine VIF.split (fun h => ?_) (fun h => ?_)
  · have h : i < z.length := by simpa using h
    have hm := List.getElem_mem h
    have hrl := hr _ hm
    have w1 := wrap_add1 (show i < 4611686018427387904 by omega)
    have bad : ∀ (hb : ¬ (pickE z[i].row cols = 0 ∧ (kind ≠ 1 → inC col z[i].row.length = true))), ∃ e : Int, AV.pr (Value.int .i64 1) = iA e ∧ (e = 0 ∨ e = 1 ∨ e = 2) ∧ (e = 0 ↔ Good z ∧ 1 ≤ kind ∧ kind ≤ 4 ∧ cols.length < 12 ∧ ∀ t ∈ z, pickE t.row cols = 0 ∧ (kind ≠ 1 → inC col t.row.length = true)) ∧
        (e = 2 ↔ Good z ∧ 1 ≤ kind ∧ kind ≤ 4 ∧ 12 ≤ cols.length) := fun hb => ⟨1, rfl, by omega, ⟨fun h => by omega, fun g => absurd (g.2.2.2.2 _ hm) hb⟩, ⟨fun h => by omega, fun g => by omega⟩⟩
    (simp -implicitDefEqProofs only [go_sem]; repeat (refine GO ?_; simp -implicitDefEqProofs only [go_sem]))
    refine EL.map h ?_
    (simp -implicitDefEqProofs only [go_sem, It.c, iA, rowA]; repeat (refine GO ?_; simp -implicitDefEqProofs only [go_sem, It.c, iA, rowA]))
    refine .make 41 _ (show Spec1 Try.prog 61 [rowA z[i].row, intsL cols] _ from c61 z[i].row cols hrl hc) rfl (by simp) rfl fun q o hq hlf => ?_
    obtain ⟨out, err, rfl, rfl, rfl, h6, h7⟩ := hq
    (simp -implicitDefEqProofs only [go_sem, iA]; repeat (refine GO ?_; simp -implicitDefEqProofs only [go_sem, iA]))
    refine VIF.split (fun h2 => ?_) (fun h2 => ?_)
    · have h2 : pickE z[i].row cols ≠ 0 := by simpa using h2
      (simp -implicitDefEqProofs only [go_sem]; repeat (refine GO ?_; simp -implicitDefEqProofs only [go_sem]))
      exact bad fun g => h2 g.1
    have h2 : pickE z[i].row cols = 0 := by simpa using h2
    (simp -implicitDefEqProofs only [go_sem]; repeat (refine GO ?_; simp -implicitDefEqProofs only [go_sem]))
    refine VIF.split (fun h3 => ?_) (fun h3 => ?_)
    · have h3 : kind ≠ 1 := by simpa using h3
      (simp -implicitDefEqProofs only [go_sem]; repeat (refine GO ?_; simp -implicitDefEqProofs only [go_sem]))
      refine VIF.split (fun h4 => ?_) (fun h4 => ?_)
      · have h4 : col < 0 := by simpa using h4
        (simp -implicitDefEqProofs only [go_sem]; repeat (refine GO ?_; simp -implicitDefEqProofs only [go_sem]))
        exact bad fun g => by have := g.2 h3; simp [inC] at this; omega
      have h4 : 0 ≤ col := by simpa using h4
      (simp -implicitDefEqProofs only [go_sem, rowA]; repeat (refine GO ?_; simp -implicitDefEqProofs only [go_sem, rowA]))
      refine VIF.split (fun h5 => ?_) (fun h5 => ?_)
      · have h5 : (z[i].row.length : Int) ≤ col := by simpa using h5
        (simp -implicitDefEqProofs only [go_sem]; repeat (refine GO ?_; simp -implicitDefEqProofs only [go_sem]))
        exact bad fun g => by have := g.2 h3; simp [inC] at this; omega
      have h5 : col < z[i].row.length := by simpa using h5
      (simp -implicitDefEqProofs only [go_sem, w1]; repeat (refine GO ?_; simp -implicitDefEqProofs only [go_sem, w1]))
      refine BACK.mk ⟨i + 1, by omega, fun j hj hji => ?_⟩ [] rfl rfl (by show z.length - (i + 1) < z.length - i; omega) ?_
      · by_cases ej : j = i
        · subst ej; exact ⟨h2, fun _ => by simp [inC]; omega⟩
        · exact hz j hj (by omega)
      · (simp -implicitDefEqProofs only [go_sem, setA, iA, intsL, w1]; repeat (refine GO ?_; simp -implicitDefEqProofs only [go_sem, setA, iA, intsL, w1]))
        exact id
    · have h3 : kind = 1 := by simpa using h3
      (simp -implicitDefEqProofs only [go_sem, w1]; repeat (refine GO ?_; simp -implicitDefEqProofs only [go_sem, w1]))
      refine BACK.mk ⟨i + 1, by omega, fun j hj hji => ?_⟩ [] rfl rfl (by show z.length - (i + 1) < z.length - i; omega) ?_
      · by_cases ej : j = i
        · subst ej; exact ⟨h2, fun g => absurd h3 g⟩
        · exact hz j hj (by omega)
      · (simp -implicitDefEqProofs only [go_sem, setA, iA, intsL, w1]; repeat (refine GO ?_; simp -implicitDefEqProofs only [go_sem, setA, iA, intsL, w1]))
        exact id
  · have h : i = z.length := by simp at h; omega
    subst h
    (simp -implicitDefEqProofs only [go_sem]; repeat (refine GO ?_; simp -implicitDefEqProofs only [go_sem]))
    refine ⟨0, rfl, by omega, ⟨fun _ => ⟨hgz, k1, k2, k3, fun t ht => ?_⟩, fun _ => rfl⟩, ⟨fun h => by omega, fun g => by omega⟩⟩
    obtain ⟨j, hj, rfl⟩ := List.mem_iff_getElem.1 ht
    exact hz j hj hj
end Yt
namespace Yt
open Go Go.Vc Go.Proofs
set_option maxRecDepth 10000
set_option maxHeartbeats 8000000
set_option linter.unusedSimpArgs false
set_option linter.unusedVariables false
theorem c136 (g : Gp) (a : List V) (hg : g.at_.length < 4611686018427387904) : Spec0 Try.prog 136 [.ag g.c, rowA a] (· = iA (cmpR g.at_ a)) := by
  refine spec0_of_vc tabOk elems ord136 Try.func136 rfl (rl := [.tmp 4]) rfl (by kernel_rfl) rfl ?_
  (simp -implicitDefEqProofs only [go_sem, Gp.c, rowA]; repeat (refine GO ?_; simp -implicitDefEqProofs only [go_sem, Gp.c, rowA]))
  refine .pure _ (show Spec0 Try.prog 93 [rowA g.at_, rowA a] _ from s13 g.at_ a hg) rfl fun r hq _ => ?_
  subst hq
  (simp -implicitDefEqProofs only [go_sem, iA]; repeat (refine GO ?_; simp -implicitDefEqProofs only [go_sem, iA]))
def gsA (gs : List Gp) : AV := .im 2 (gs.map Gp.c)
theorem shr1 (n : Nat) : (n : Int) / 2 ^ min (Int.toNat 1) 64 = ((n / 2 : Nat) : Int) := by
  have h2 : (2 : Int) ^ min (Int.toNat 1) 64 = 2 := by decide
  rw [h2]; omega
theorem c135 (gs : List Gp) (a : List V) (hl : gs.length < 1073741824) (hg : ∀ g ∈ gs, g.at_.length < 4611686018427387904) (hm : ∀ i j (hi : i < gs.length) (hj : j < gs.length), i < j → cmpR gs[j].at_ a < 0 → cmpR gs[i].at_ a < 0) :
    Spec0 Try.prog 135 [gsA gs, rowA a, .fn 136 []] (fun r => ∃ (k : Nat) (b : Bool), r = .tu [iA k, bA b] ∧ k ≤ gs.length ∧ (∀ j (h : j < gs.length), j < k → cmpR gs[j].at_ a < 0) ∧ (∀ j (h : j < gs.length), k ≤ j → 0 ≤ cmpR gs[j].at_ a) ∧
      (b = true ↔ ∃ h : k < gs.length, cmpR gs[k].at_ a = 0)) := by
  refine spec0_of_vc tabOk elems ord135 Try.func135 rfl (rl := [.tmp 6, .tmp 7]) rfl (by kernel_rfl) rfl ?_
  (simp -implicitDefEqProofs only [go_sem, gsA, rowA, iA]; repeat (refine GO ?_; simp -implicitDefEqProofs only [go_sem, gsA, rowA, iA]))
  refine LOOP.mk (ι := { p : Nat × Nat // p.1 ≤ p.2 ∧ p.2 ≤ gs.length ∧ (∀ j (h : j < gs.length), j < p.1 → cmpR gs[j].at_ a < 0) ∧ (∀ j (h : j < gs.length), p.2 ≤ j → 0 ≤ cmpR gs[j].at_ a) }) (fun p => mkS [(0, gsA gs), (1, rowA a), (2, .fn 136 []), (8, iA gs.length), (9, iA p.1.1), (10, iA p.1.2)] [] [])
    (fun p => p.1.2 - p.1.1) ⟨(0, gs.length), Nat.zero_le _, Nat.le_refl _, fun j _ h => absurd h (Nat.not_lt_zero _), fun j h h' => by simp only at h'; omega⟩ [] rfl rfl ?_ (fun p => ?_)
  · (simp -implicitDefEqProofs only [go_sem, gsA, rowA, iA]; repeat (refine GO ?_; simp -implicitDefEqProofs only [go_sem, gsA, rowA, iA]))
    exact ⟨id, rfl⟩
  obtain ⟨⟨i, j⟩, hij, hj, h1, h2⟩ := p
  simp only at hij hj h1 h2
  (simp -implicitDefEqProofs only [go_sem, gsA, rowA, iA]; repeat (refine GO ?_; simp -implicitDefEqProofs only [go_sem, gsA, rowA, iA]))
  refine VIF.split (fun h => ?_) (fun h => ?_)
  · have h : i < j := by simpa using h
    have e1 : IntKind.i64.wrap ((i : Int) + j) = ((i + j : Nat) : Int) := by rw [wrap_i64] <;> omega
    have e2 := u64_nat (show i + j < 4611686018427387904 by omega)
    have e3 := shr1 (i + j)
    obtain ⟨m, hme⟩ : ∃ m, m = (i + j) / 2 := ⟨_, rfl⟩
    rw [← hme] at e3
    have e4 : IntKind.i64.wrap (m : Int) = m := by rw [wrap_i64] <;> omega
    have hmi : i ≤ m ∧ m < j := by omega
    have hml : m < gs.length := by omega
    have w1 := wrap_add1 (show m < 4611686018427387904 by omega)
    (simp -implicitDefEqProofs only [go_sem, e1, e2, e3, e4]; repeat (refine GO ?_; simp -implicitDefEqProofs only [go_sem, e1, e2, e3, e4]))
    refine ⟨by decide, EL.map hml ?_⟩
    (simp -implicitDefEqProofs only [go_sem, Gp.c]; repeat (refine GO ?_; simp -implicitDefEqProofs only [go_sem, Gp.c]))
    refine .pure _ (show Spec0 Try.prog 136 [.ag gs[m].c, rowA a] _ from c136 gs[m] a (hg _ (List.getElem_mem hml))) rfl fun r hq _ => ?_
    subst hq
    (simp -implicitDefEqProofs only [go_sem, iA]; repeat (refine GO ?_; simp -implicitDefEqProofs only [go_sem, iA]))
    refine VIF.split (fun h3 => ?_) (fun h3 => ?_)
    · have h3 : cmpR gs[m].at_ a < 0 := by simpa using h3
      (simp -implicitDefEqProofs only [go_sem, w1]; repeat (refine GO ?_; simp -implicitDefEqProofs only [go_sem, w1]))
      refine BACK.mk ⟨(m + 1, j), by simp only; omega, hj, fun t ht htm => ?_, h2⟩ [] rfl rfl (by show j - (m + 1) < j - i; omega) ?_
      · rcases Nat.lt_or_ge t m with h4 | h4
        · exact hm t m ht hml h4 h3
        · have : t = m := by simp only at htm; omega
          subst this; exact h3
      · (simp -implicitDefEqProofs only [go_sem, gsA, rowA, iA, w1]; repeat (refine GO ?_; simp -implicitDefEqProofs only [go_sem, gsA, rowA, iA, w1]))
        exact id
    · have h3 : 0 ≤ cmpR gs[m].at_ a := by simpa using h3
      (simp -implicitDefEqProofs only [go_sem]; repeat (refine GO ?_; simp -implicitDefEqProofs only [go_sem]))
      refine BACK.mk ⟨(i, m), hmi.1, by simp only; omega, h1, fun t ht htm => ?_⟩ [] rfl rfl (by show m - i < j - i; omega) ?_
      · rcases Nat.lt_or_ge m t with h4 | h4
        · rcases Int.lt_or_le (cmpR gs[t].at_ a) 0 with h5 | h5
          · have := hm m t hml ht h4 h5; omega
          · exact h5
        · have : t = m := by simp only at htm; omega
          subst this; exact h3
      · (simp -implicitDefEqProofs only [go_sem, gsA, rowA, iA]; repeat (refine GO ?_; simp -implicitDefEqProofs only [go_sem, gsA, rowA, iA]))
        exact id
  · have h : i = j := by simp at h; omega
    subst h
    (simp -implicitDefEqProofs only [go_sem, gsA, rowA, iA]; repeat (refine GO ?_; simp -implicitDefEqProofs only [go_sem, gsA, rowA, iA]))
    refine VIF.split (fun h3 => ?_) (fun h3 => ?_)
    · have h3 : i < gs.length := by simpa using h3
      (simp -implicitDefEqProofs only [go_sem]; repeat (refine GO ?_; simp -implicitDefEqProofs only [go_sem]))
      refine EL.map h3 ?_
      (simp -implicitDefEqProofs only [go_sem, Gp.c]; repeat (refine GO ?_; simp -implicitDefEqProofs only [go_sem, Gp.c]))
      refine .pure _ (show Spec0 Try.prog 136 [.ag gs[i].c, rowA a] _ from c136 gs[i] a (hg _ (List.getElem_mem h3))) rfl fun r hq _ => ?_
      subst hq
      (simp -implicitDefEqProofs only [go_sem, iA, bA]; repeat (refine GO ?_; simp -implicitDefEqProofs only [go_sem, iA, bA]))
      exact ⟨rfl, i, _, rfl, hj, h1, h2, by simp [h3]⟩
    · have h3 : ¬ i < gs.length := by simpa using h3
      (simp -implicitDefEqProofs only [go_sem, iA, bA]; repeat (refine GO ?_; simp -implicitDefEqProofs only [go_sem, iA, bA]))
      exact ⟨rfl, i, _, rfl, hj, h1, h2, by simp [h3]⟩
end Yt
namespace Yt
open Go Go.Vc Go.Proofs Go.Lib
set_option maxRecDepth 100000
set_option maxHeartbeats 4000000
set_option linter.unusedSimpArgs false
set_option linter.unusedVariables false

theorem ins137_end (base : Option Addr) (n c : Nat) (vb : Option Addr) (vc : Nat) (w : World) {r : Value} {w' : World} (hz : base = none → n = 0)
    (hap : (Builtin.append_ #[104, 104] 104 #[.slice base n c, .slice vb 1 vc]).run Try.prog w = .ok r w') (hnc : n ≤ c) (hn : n ≤ 1073741824) :
    Calls Try.prog 137 #[.slice base n c, .int .i64 n, .slice vb 1 vc] w fun e w'' => e = .returned r ∧ w'' = w' := by
  have u0 := run_underlying Try.underlying104
  have u3 := run_underlying Try.underlying3
  have u4 := run_underlying Try.underlying4
  go_enter Try.func137, Try.f137
  cases base with
  | none =>
    have h0 := hz rfl
    subst h0
    go_wp2_with (at_builtin; refine Lib.wpList_append_run _ rfl _ _ _ _ rfl _ _ rfl rfl _ _ hap ?_)
    go_ret
    exact ⟨rfl, rfl⟩
  | some a =>
    obtain ⟨ab, ao, asp⟩ := a
    go_wp2_with (at_builtin; refine Lib.wpList_append_run _ rfl _ _ _ _ rfl _ _ rfl rfl _ _ hap ?_)
    all_goals (go_ret; exact ⟨rfl, rfl⟩)

theorem ins137_shift (b off n c k vb vo vc : Nat) (w : World) (hk : k < n) (hroom : n + 1 ≤ c) (hn : n ≤ 1073741824)
    (hov : ∀ lb cb, (callFunc 144 #[.slice (some ⟨vb, vo, none⟩) 1 vc, .slice (some ⟨b, off + (k + 1) * 2, none⟩) lb cb]).run Try.prog w = .ok (.value (.bool false)) w)
    {W1 W2 : World} {m1 m2 : Value}
    (hc1 : ∀ ty dc sc, (Builtin.copy_ #[104, 104] ty #[.slice (some ⟨b, off + (k + 1) * 2, none⟩) (n - k) dc, .slice (some ⟨b, off + k * 2, none⟩) (n + 1 - k) sc]).run Try.prog w.drew = .ok m1 W1)
    (hc2 : ∀ ty dc, (Builtin.copy_ #[104, 104] ty #[.slice (some ⟨b, off + k * 2, none⟩) (n + 1 - k) dc, .slice (some ⟨vb, vo, none⟩) 1 vc]).run Try.prog W1 = .ok m2 W2) :
    Calls Try.prog 137 #[.slice (some ⟨b, off, none⟩) n c, .int .i64 k, .slice (some ⟨vb, vo, none⟩) 1 vc] w fun e w' => e = .returned (.slice (some ⟨b, off, none⟩) (n + 1) c) ∧ w' = W2 := by
  have u0 := run_underlying Try.underlying104
  have u3 := run_underlying Try.underlying3
  have u4 := run_underlying Try.underlying4
  have hz2 : ¬ ((k : Int) = (n : Int)) := by omega
  have hw1 : IntKind.i64.wrap ((k : Int) + 1) = (k : Int) + 1 := by rw [IntKind.wrap_i64]; omega
  have hw2 : IntKind.i64.wrap ((n : Int) + 1) = (n : Int) + 1 := by rw [IntKind.wrap_i64]; omega
  have hb1 : (0 : Int) ≤ (k : Int) + 1 := by omega
  have hin : k ≤ n := by omega
  have htn : ((k : Int) + 1).toNat = k + 1 := by omega
  have htm : ((n : Int) + 1).toNat = n + 1 := by omega
  have hb2 : ¬ (c = k + 1) := by omega
  have hb3 : (k : Int) ≤ (n : Int) + 1 := by omega
  have hb4 : ¬ (c = k) := by omega
  have mixed := tabOk.mixed
  go_enter Try.func137, Try.f137
  go_wp2_with (simp only [hov])
  go_region_law_o (refine step_copy_runI rfl _ _ 104 104 rfl _ _ (by simp [Act.eval, Act.put]) (by simp [Act.eval, Act.put]) (hc1 _ _ _) ?_)
  go_wp2_with (at_builtin; refine wpList_copy_runI _ rfl _ _ 104 104 rfl _ _ rfl rfl (hc2 _ _) ?_)
  go_ret
  exact ⟨rfl, rfl⟩

theorem ins137_grow (b off n c k vb vo vc N G : Nat) (w : World) (hk : k < n) (hnc : n ≤ c) (hroom : c < n + 1) (hn : n ≤ 1073741824) (hGn : n + 1 ≤ G)
    {W1 W2 W3 : World} {m1 m2 : Value}
    (hap : (Builtin.append_ #[104, 3] 104 #[.slice (some ⟨b, off, none⟩) k c, .int .i64 ((n : Int) + 1 - (k : Int))]).run Try.prog w = .ok (.slice (some ⟨N, 0, none⟩) (n + 1) G) W1)
    (hc1 : ∀ ty dc, (Builtin.copy_ #[104, 104] ty #[.slice (some ⟨N, k * 2, none⟩) (n + 1 - k) dc, .slice (some ⟨vb, vo, none⟩) 1 vc]).run Try.prog W1 = .ok m1 W2)
    (hc2 : ∀ ty dc sc, (Builtin.copy_ #[104, 104] ty #[.slice (some ⟨N, (k + 1) * 2, none⟩) (n - k) dc, .slice (some ⟨b, off + k * 2, none⟩) (n - k) sc]).run Try.prog W2.drew = .ok m2 W3) :
    Calls Try.prog 137 #[.slice (some ⟨b, off, none⟩) n c, .int .i64 k, .slice (some ⟨vb, vo, none⟩) 1 vc] w fun e w' => e = .returned (.slice (some ⟨N, 0, none⟩) (n + 1) G) ∧ w' = W3 := by
  have u0 := run_underlying Try.underlying104
  have u3 := run_underlying Try.underlying3
  have u4 := run_underlying Try.underlying4
  have hz2 : ¬ ((k : Int) = (n : Int)) := by omega
  have hz3 : (c : Int) < (n : Int) + 1 := by omega
  have hw1 : IntKind.i64.wrap ((k : Int) + 1) = (k : Int) + 1 := by rw [IntKind.wrap_i64]; omega
  have hw2 : IntKind.i64.wrap ((n : Int) + 1) = (n : Int) + 1 := by rw [IntKind.wrap_i64]; omega
  have hw3 : IntKind.i64.wrap ((n : Int) + 1 - (k : Int)) = (n : Int) + 1 - (k : Int) := by rw [IntKind.wrap_i64]; omega
  have hb1 : (0 : Int) ≤ (k : Int) + 1 := by omega
  have hin : k ≤ n := by omega
  have htn : ((k : Int) + 1).toNat = k + 1 := by omega
  have htm : ((n : Int) + 1).toNat = n + 1 := by omega
  have hb3 : (k : Int) ≤ (n : Int) + 1 := by omega
  have hb5 : (k : Int) ≤ (n : Int) := by omega
  have hGi : ¬ (G = k) := by omega
  have hGim : ¬ (G = k + 1) := by omega
  have hci : ¬ (c = k) := by omega
  have mixed := tabOk.mixed
  go_enter Try.func137, Try.f137
  go_wp2_with (first
    | (at_builtin; refine Lib.wpList_append_run _ rfl _ _ _ _ rfl _ _ rfl rfl _ _ hap ?_)
    | (at_builtin; refine wpList_copy_runI _ rfl _ _ 104 104 rfl _ _ rfl rfl (hc1 _ _) ?_))
  go_region_law_o (refine step_copy_runI rfl _ _ 104 104 rfl (.slice (some ⟨N, (k + 1) * 2, none⟩) (n - k) (G - (k + 1))) (.slice (some ⟨b, off + k * 2, none⟩) (n - k) (c - k)) (by simp [Act.eval, Act.put]) (by simp [Act.eval, Act.put]) (hc2 3 (G - (k + 1)) (c - k)) ?_)
  go_wp2
  go_ret
  exact ⟨rfl, rfl⟩
end Yt
namespace Yt
open Go Go.Vc Go.Proofs Go.Lib
set_option maxRecDepth 10000
set_option linter.unusedSimpArgs false
set_option linter.unusedVariables false
theorem insG : InsRaw Try.prog 137 104 3 144 2 :=
  { fn := ⟨_, Try.func137, rfl, rfl⟩
    ov := fun w vs h => by
      rw [run_callFunc_extern Try.func144 (by kernel_rfl) (by kernel_rfl) (by kernel_rfl) (e := Extern.SlicesOverlaps.overlaps #[104, 104] #[4]) (by kernel_rfl), h 4]
      rfl
    atEnd := fun base n c vb vc w r w' h h1 h2 h3 => ins137_end base n c vb vc w h h1 h2 h3
    shift := fun b off n c k vb vo vc w h1 h2 h3 h4 W1 W2 m1 m2 h5 h6 => ins137_shift b off n c k vb vo vc w h1 h2 h3 h4 h5 h6
    grow := fun b off n c k vb vo vc N G w h1 h2 h3 h4 h5 W1 W2 W3 m1 m2 h6 h7 h8 => ins137_grow b off n c k vb vo vc N G w h1 h2 h3 h4 h5 h6 h7 h8 }
end Yt
namespace Go.Vc
section
variable {α : Type} {st : St} {m : List (Nat × Option Nat)}
theorem mkO_fam {L : List (Nat × α)} {f : Nat × α → Ob} (hn : (L.map Prod.fst).Nodup) {p : Nat × α} (hp : p ∈ L) : mkO (L.map fun p => (p.1, f p)) p.1 = some (f p) := by
  induction L with
  | nil => cases hp
  | cons q r ih =>
    simp only [List.map_cons, List.nodup_cons] at hn
    simp only [List.map_cons, mkO, upd]
    rcases List.mem_cons.1 hp with rfl | hp
    · rw [if_pos rfl]
    · rw [if_neg (fun (h : q.1 = p.1) => hn.1 (by rw [h]; exact List.mem_map_of_mem hp))]; exact ih hn.2 hp
theorem nms_fam {L : List (Nat × α)} {ν : Nat × α → Nat} (hn : (L.map Prod.fst).Nodup) {p : Nat × α} (hp : p ∈ L) : nms (L.map fun p => (p.1, some (ν p))) p.1 = some (some (ν p)) := by
  induction L with
  | nil => cases hp
  | cons q r ih =>
    simp only [List.map_cons, List.nodup_cons] at hn
    simp only [List.map_cons, nms]
    rcases List.mem_cons.1 hp with rfl | hp
    · rw [if_pos rfl]
    · rw [if_neg (fun (h : q.1 = p.1) => hn.1 (by rw [h]; exact List.mem_map_of_mem hp))]; exact ih hn.2 hp
theorem nms_not {L : List (Nat × α)} {ν : Nat × α → Nat} {k : Nat} (hk : k ∉ L.map Prod.fst) : nms (L.map fun p => (p.1, some (ν p))) k = none := by
  induction L with
  | nil => rfl
  | cons q r ih =>
    simp only [List.map_cons, List.mem_cons, not_or] at hk
    simp only [List.map_cons, nms]
    rw [if_neg (fun h => hk.1 h.symm)]; exact ih hk.2
theorem olds_fam {L : List (Nat × α)} {ν : Nat × α → Nat} : olds (L.map fun p => (p.1, some (ν p))) = L.map ν := by
  induction L with
  | nil => rfl
  | cons q r ih => simp only [List.map_cons, olds, ih]
/-- The names of an object and of a family behind it. -/
theorem nmOk_fam {L : List (Nat × α)} {ν : Nat × α → Nat} {a : Nat} (h1 : (a :: L.map ν).Nodup) (h0 : 0 ∉ L.map Prod.fst) : nmOk ((1000, some a) :: L.map fun p => (p.1, some (ν p))) (1000 :: L.map Prod.fst) = true := by
  simp only [nmOk, Bool.and_eq_true, decide_eq_true_eq, List.all_eq_true, olds, olds_fam, nms]
  refine ⟨⟨h1, fun x hx => ?_⟩, ?_⟩
  · rcases List.mem_cons.1 hx with rfl | hx
    · simp
    · obtain ⟨p, hp, rfl⟩ := List.mem_map.1 hx
      simp only [List.contains_eq_mem, decide_eq_true_eq]
      exact List.mem_cons_of_mem _ (List.mem_map_of_mem hp)
  · rw [if_neg (by decide), nms_not h0]
theorem Es_all {l l' : List (List AV)} (hl : l.length = l'.length) (h : ∀ i (h1 : i < l.length) (h2 : i < l'.length), wk.wks st m l[i] l'[i]) : Es st m l l' := by
  induction l generalizing l' with
  | nil =>
    cases l' with
    | nil => exact .nil
    | cons y r => cases hl
  | cons x r ih =>
    cases l' with
    | nil => cases hl
    | cons y r' => exact .cons (h 0 (by simp) (by simp)) (ih (by simpa using hl) fun i h1 h2 => h (i + 1) (Nat.succ_lt_succ h1) (Nat.succ_lt_succ h2))
theorem eobs_fam {L : List (Nat × α)} {f : Nat × α → Ob} (h : ∀ p ∈ L, eob st m (nms m p.1) (f p)) : eobs st m (L.map fun p => (p.1, f p)) := by
  induction L with
  | nil => trivial
  | cons q r ih => exact ⟨h q (by simp), ih fun p hp => h p (by simp [hp])⟩
end
end Go.Vc
namespace Yt
open Go Go.Vc Go.Proofs
set_option maxRecDepth 10000
set_option maxHeartbeats 8000000
set_option linter.unusedSimpArgs false
set_option linter.unusedVariables false
/-- Orders in raddle/agg.groups. -/
def og107 : Ords
  | 10 => some (.fork [(0, some false, false, false), (1, some false, false, false), (2, some false, false, false), (3, some false, false, false), (7, some false, false, false)] 4 (.fork [(5, some false, false, false)] 6 (.lin [(8, none, false, false), (9, none, false, false), (10, some false, false, false), (11, some false, false, false), (12, none, false, false)]) 8 (.lin [(6, some false, false, false), (9, none, false, false), (10, some false, false, false), (11, some false, false, false), (12, none, false, false)])) 8 (.lin [(4, some false, false, false), (5, some false, false, false), (6, some false, false, false), (9, none, false, false), (10, some false, false, false), (11, some false, false, false), (12, none, false, false)]))
  | _ => none
@[go_sem] theorem og107_0 : og107 0 = none := rfl
@[go_sem] theorem og107_1 : og107 1 = none := rfl
@[go_sem] theorem og107_2 : og107 2 = none := rfl
@[go_sem] theorem og107_3 : og107 3 = none := rfl
@[go_sem] theorem og107_4 : og107 4 = none := rfl
@[go_sem] theorem og107_5 : og107 5 = none := rfl
@[go_sem] theorem og107_6 : og107 6 = none := rfl
@[go_sem] theorem og107_7 : og107 7 = none := rfl
@[go_sem] theorem og107_8 : og107 8 = none := rfl
@[go_sem] theorem og107_9 : og107 9 = none := rfl
@[go_sem] theorem og107_10 : og107 10 = some (.fork [(0, some false, false, false), (1, some false, false, false), (2, some false, false, false), (3, some false, false, false), (7, some false, false, false)] 4 (.fork [(5, some false, false, false)] 6 (.lin [(8, none, false, false), (9, none, false, false), (10, some false, false, false), (11, some false, false, false), (12, none, false, false)]) 8 (.lin [(6, some false, false, false), (9, none, false, false), (10, some false, false, false), (11, some false, false, false), (12, none, false, false)])) 8 (.lin [(4, some false, false, false), (5, some false, false, false), (6, some false, false, false), (9, none, false, false), (10, some false, false, false), (11, some false, false, false), (12, none, false, false)])) := rfl
@[go_sem] theorem og107_11 : og107 11 = none := rfl
@[go_sem] theorem og107_12 : og107 12 = none := rfl
/-- The groups of what was met so far. -/
structure GpI (cols : List Int) (y : List It) (gs : List Gp) : Prop where
  up : gs.Pairwise fun a b => cmpR a.at_ b.at_ < 0
  items : ∀ g ∈ gs, g.items = y.filter fun t => !decide (t.w < 0) && decide (cmpR (pickR t.row cols) g.at_ = 0)
  some : ∀ g ∈ gs, g.items ≠ []
  all : ∀ t ∈ y, ¬ t.w < 0 → ∃ g ∈ gs, g.at_ = pickR t.row cols
theorem GpI.nil (cols : List Int) : GpI cols [] [] := ⟨.nil, by simp, by simp, by simp⟩
/-- A group's cells, its items being an object. -/
theorem GpI.skip {cols : List Int} {y : List It} {gs : List Gp} (h : GpI cols y gs) {t : It} (ht : t.w < 0) : GpI cols (y ++ [t]) gs :=
  { up := h.up
    items := fun g hg => by rw [h.items g hg, List.filter_append]; simp [ht]
    some := h.some
    all := fun u hu hw => by
      rcases List.mem_append.1 hu with hu | hu
      · exact h.all u hu hw
      · simp at hu; subst hu; exact absurd ht hw }
theorem cmpR_self (a : List V) : cmpR a a = 0 := lin_cmpR.self a
theorem GpI.get {cols : List Int} {y : List It} {gs : List Gp} (h : GpI cols y gs) {i j : Nat} (hi : i < gs.length) (hj : j < gs.length) (hij : i < j) : cmpR gs[i].at_ gs[j].at_ < 0 :=
  List.pairwise_iff_getElem.1 h.up i j hi hj hij
theorem GpI.add {cols : List Int} {y : List It} {gs : List Gp} (h : GpI cols y gs) {t : It} (ht : ¬ t.w < 0) {k : Nat} (hk : k < gs.length) (he : cmpR gs[k].at_ (pickR t.row cols) = 0) :
    GpI cols (y ++ [t]) (gs.set k ⟨gs[k].at_, gs[k].items ++ [t]⟩) := by
  have hkey : pickR t.row cols = gs[k].at_ := (lin_cmpR.eq _ _ he).symm
  have hat : ∀ j (hj : j < gs.length), ((gs.set k ⟨gs[k].at_, gs[k].items ++ [t]⟩)[j]'(by simpa using hj)).at_ = gs[j].at_ := fun j hj => by
    rw [List.getElem_set]; split
    · subst_vars; rfl
    · rfl
  refine { up := ?_, items := fun g hg => ?_, some := fun g hg => ?_, all := fun u hu hw => ?_ }
  · rw [List.pairwise_iff_getElem]
    intro i j hi hj hij
    have hi' : i < gs.length := by simpa using hi
    have hj' : j < gs.length := by simpa using hj
    rw [hat i hi', hat j hj']; exact h.get hi' hj' hij
  · obtain ⟨j, hj, rfl⟩ := List.mem_iff_getElem.1 hg
    have hj' : j < gs.length := by simpa using hj
    have hm := List.getElem_mem hj'
    rw [hat j hj', List.filter_append, ← h.items _ hm, List.getElem_set]
    by_cases e : k = j
    · subst e
      rw [if_pos rfl]
      simp [ht, hkey, cmpR_self]
    · rw [if_neg e]
      have hne : cmpR (pickR t.row cols) gs[j].at_ ≠ 0 := fun h0 => by
        have := lin_cmpR.eq _ _ h0
        rcases Nat.lt_or_gt_of_ne e with h1 | h1
        · have h2 := h.get hk hj' h1; rw [← hkey, this, cmpR_self] at h2; omega
        · have h2 := h.get hj' hk h1; rw [← hkey, this, cmpR_self] at h2; omega
      simp [hne]
  · obtain ⟨j, hj, rfl⟩ := List.mem_iff_getElem.1 hg
    rw [List.getElem_set]
    split
    · simp
    · exact h.some _ (List.getElem_mem _)
  · have tr : ∀ j (hj : j < gs.length), gs[j].at_ = pickR u.row cols → ∃ g ∈ gs.set k ⟨gs[k].at_, gs[k].items ++ [t]⟩, g.at_ = pickR u.row cols := fun j hj e =>
      ⟨_, List.getElem_mem (by simpa using hj), by rw [hat j hj]; exact e⟩
    rcases List.mem_append.1 hu with hu | hu
    · obtain ⟨g, hg, e⟩ := h.all u hu hw
      obtain ⟨j, hj, rfl⟩ := List.mem_iff_getElem.1 hg
      exact tr j hj e
    · simp at hu; subst hu
      exact tr k hk hkey.symm
theorem GpI.ins {cols : List Int} {y : List It} {gs : List Gp} (h : GpI cols y gs) {t : It} (ht : ¬ t.w < 0) {k : Nat} (hk : k ≤ gs.length) (h1 : ∀ j (h : j < gs.length), j < k → cmpR gs[j].at_ (pickR t.row cols) < 0)
    (h2 : ∀ j (h : j < gs.length), k ≤ j → 0 < cmpR gs[j].at_ (pickR t.row cols)) : GpI cols (y ++ [t]) (gs.take k ++ ⟨pickR t.row cols, [t]⟩ :: gs.drop k) := by
  have lo : ∀ g ∈ gs.take k, cmpR g.at_ (pickR t.row cols) < 0 := fun g hg => by
    obtain ⟨j, hj, rfl⟩ := List.mem_iff_getElem.1 hg
    have hj' : j < k ∧ j < gs.length := by rw [List.length_take] at hj; omega
    rw [List.getElem_take]; exact h1 j hj'.2 hj'.1
  have hi : ∀ g ∈ gs.drop k, cmpR (pickR t.row cols) g.at_ < 0 := fun g hg => by
    obtain ⟨j, hj, rfl⟩ := List.mem_iff_getElem.1 hg
    simp at hj
    rw [List.getElem_drop]
    have := h2 (k + j) (by omega) (by omega)
    rw [lin_cmpR.neg]; omega
  have ne : ∀ g ∈ gs, cmpR (pickR t.row cols) g.at_ ≠ 0 := fun g hg h0 => by
    have e := lin_cmpR.eq _ _ h0
    rw [← List.take_append_drop k gs] at hg
    rcases List.mem_append.1 hg with hg | hg
    · have := lo g hg; rw [e, cmpR_self] at this; omega
    · have := hi g hg; rw [← e, cmpR_self] at this; omega
  have mem : ∀ g, g ∈ gs.take k ++ ⟨pickR t.row cols, [t]⟩ :: gs.drop k ↔ g = ⟨pickR t.row cols, [t]⟩ ∨ g ∈ gs := fun g => by
    constructor
    · intro hg
      rcases List.mem_append.1 hg with hg | hg
      · exact .inr (List.mem_of_mem_take hg)
      · rcases List.mem_cons.1 hg with hg | hg
        · exact .inl hg
        · exact .inr (List.mem_of_mem_drop hg)
    · rintro (rfl | hg)
      · simp
      · rw [← List.take_append_drop k gs] at hg
        rcases List.mem_append.1 hg with hg | hg
        · exact List.mem_append_left _ hg
        · exact List.mem_append_right _ (List.mem_cons_of_mem _ hg)
  refine { up := ?_, items := fun g hg => ?_, some := fun g hg => ?_, all := fun u hu hw => ?_ }
  · have hu := h.up
    rw [← List.take_append_drop k gs, List.pairwise_append] at hu
    rw [List.pairwise_append, List.pairwise_cons]
    refine ⟨hu.1, ⟨hi, hu.2.1⟩, fun a ha b hb => ?_⟩
    rcases List.mem_cons.1 hb with rfl | hb
    · exact lo a ha
    · exact hu.2.2 a ha b hb
  · rcases (mem g).1 hg with rfl | hg
    · have : (y.filter fun u => !decide (u.w < 0) && decide (cmpR (pickR u.row cols) (pickR t.row cols) = 0)) = [] := by
        rw [List.filter_eq_nil_iff]
        intro u hu hc
        simp at hc
        obtain ⟨g, hg, e⟩ := h.all u hu (by omega)
        refine ne g hg ?_
        rw [e, lin_cmpR.eq _ _ hc.2, cmpR_self]
      rw [List.filter_append, this]
      simp [ht, cmpR_self]
    · rw [List.filter_append, ← h.items g hg]
      simp [ne g hg]
  · rcases (mem g).1 hg with rfl | hg
    · simp
    · exact h.some g hg
  · rcases List.mem_append.1 hu with hu | hu
    · obtain ⟨g, hg, e⟩ := h.all u hu hw
      exact ⟨g, (mem g).2 (.inr hg), e⟩
    · simp at hu; subst hu
      exact ⟨_, (mem _).2 (.inl rfl), rfl⟩
def gCell (p : Nat × Gp) : List AV := [rowA p.2.at_, .rf p.1 0 p.2.items.length]
def gOb (L : List (Nat × Gp)) : Ob := ⟨2, L.map gCell⟩
def gFam (L : List (Nat × Gp)) : List (Nat × Ob) := L.map fun p => (p.1, so p.2.items)
theorem set_keys {L : List (Nat × Gp)} {k : Nat} {hk : k < L.length} {g : Gp} : (L.set k (L[k].1, g)).map Prod.fst = L.map Prod.fst := by
  refine List.ext_getElem (by simp) fun j q1 q2 => ?_
  simp only [List.getElem_map, List.getElem_set]
  split
  · subst_vars; rfl
  · rfl
theorem key_inj {L : List (Nat × Gp)} (hn : (L.map Prod.fst).Nodup) {i j : Nat} (hi : i < L.length) (hj : j < L.length) (h : L[i].1 = L[j].1) : i = j := by
  refine (List.getElem_inj (xs := L.map Prod.fst) (h₀ := by simpa using hi) (h₁ := by simpa using hj) hn).1 ?_
  simpa using h
theorem set_cells {L : List (Nat × Gp)} (hn : (L.map Prod.fst).Nodup) {k : Nat} (hk : k < L.length) {g : Gp} :
    (L.map gCell).set k [rowA g.at_, .rf 51 0 g.items.length] = (L.set k (L[k].1, g)).map fun p => [rowA p.2.at_, .rf (if p.1 = L[k].1 then 51 else p.1) 0 p.2.items.length] := by
  refine List.ext_getElem (by simp) fun j q1 q2 => ?_
  simp only [List.getElem_map, List.getElem_set]
  by_cases e : k = j
  · subst e; simp
  · have hj : j < L.length := by simpa using q1
    have hne : L[j].1 ≠ L[k].1 := fun h => e (key_inj hn hk hj h.symm)
    rw [if_neg e, if_neg e, if_neg hne]; rfl
theorem lent_leafy {objs : Nat → Option Ob} {id : Nat} {o : Ob} {len : Nat} {es : List (List AV)} (ho : objs id = some o) (hes : o.es = es) (hl : es.length = len) (hleaf : o.leafy) (hr : ∀ x ∈ es, x.length = o.sz) : Lent objs (.rf id 0 len) (.im o.sz es) := by
  subst hes; subst hl
  refine .rf ho (by rw [List.drop_zero, List.take_length]) rfl hr (fun i j a' h => leafy_get hleaf h) fun i j a a' h h' => ?_
  rw [h] at h'; cases h'
  exact .same (leaf_noId (leafy_get hleaf h))
theorem lent_groups {objs : Nat → Option Ob} {L : List (Nat × Gp)} (h0 : objs 1000 = some (gOb L)) (h : ∀ p ∈ L, objs p.1 = some (so p.2.items)) : Lent objs (.rf 1000 0 L.length) (gsA (L.map Prod.snd)) := by
  have e : gsA (L.map Prod.snd) = .im (gOb L).sz ((L.map Prod.snd).map Gp.c) := rfl
  rw [e]
  refine .rf (es := L.map gCell) h0 (by simp only [gOb, List.drop_zero]; exact take_map_len _ _) (by simp) (fun x hx => ?_) (fun i j a' h => ?_) fun i j a a' g g' => ?_
  · obtain ⟨g, _, rfl⟩ := List.mem_map.1 hx
    rfl
  · simp only [cellAt] at h
    cases hi : ((L.map Prod.snd).map Gp.c)[i]? with
    | none => rw [hi] at h; cases h
    | some x =>
      rw [hi] at h
      obtain ⟨g, _, rfl⟩ := List.mem_map.1 (List.mem_of_getElem? hi)
      have := List.mem_of_getElem? h
      simp [Gp.c, rowA, setA] at this
      rcases this with rfl | rfl <;> rfl
  · have hi : i < L.length := by
      simp only [cellAt] at g
      rcases Nat.lt_or_ge i L.length with h1 | h1
      · exact h1
      · rw [List.getElem?_eq_none (by simpa using h1)] at g; cases g
    simp only [cellAt, List.getElem?_map, List.getElem?_eq_getElem hi, Option.map_some, Option.bind_some] at g g'
    match j with
    | 0 => simp [gCell, Gp.c] at g g'; subst g; subst g'; exact .same rfl
    | 1 =>
      simp [gCell, Gp.c] at g g'; subst g; subst g'
      exact lent_leafy (o := so L[i].2.items) (h _ (List.getElem_mem hi)) rfl (by simp) (so_leafy _) (fun x hx => by obtain ⟨t, _, rfl⟩ := List.mem_map.1 hx; rfl)
    | j + 2 => simp [gCell] at g
theorem nd_repl {α : Type} {L : List (Nat × α)} {a x : Nat} (hn : (L.map Prod.fst).Nodup) (hge : ∀ q ∈ L.map Prod.fst, 2000 ≤ q) (ha : a < 2000) (ha2 : a ≠ 51) : (a :: L.map fun p => if p.1 = x then 51 else p.1).Nodup := by
  refine List.nodup_cons.2 ⟨fun h => ?_, ?_⟩
  · obtain ⟨p, hp, e⟩ := List.mem_map.1 h
    have := hge _ (List.mem_map_of_mem hp)
    split at e <;> omega
  · induction L with
    | nil => exact .nil
    | cons p r ih =>
      simp only [List.map_cons, List.nodup_cons] at hn ⊢
      have hge' : ∀ q ∈ r.map Prod.fst, 2000 ≤ q := fun q hq => hge q (by simp only [List.map_cons]; exact List.mem_cons_of_mem _ hq)
      refine ⟨fun h => ?_, ih hn.2 hge'⟩
      obtain ⟨q, hq, e⟩ := List.mem_map.1 h
      have h1 := hge' _ (List.mem_map_of_mem hq)
      have h2 := hge p.1 (by simp)
      have h3 : q.1 ≠ p.1 := fun h => hn.1 (h ▸ List.mem_map_of_mem hq)
      split at e <;> split at e <;> omega
theorem EL.mid {l : List (List AV)} {x : List AV} {k : Nat} {K : List AV → Prop} (h : k ≤ l.length) (hK : K x) : EL (List.take k l ++ x :: List.drop k l) k K :=
  ⟨x, by rw [List.getElem?_append_right (by simp; omega)]; simp [Nat.min_eq_left h], hK⟩
theorem fresh_name (l : List Nat) : ∃ n, 2000 ≤ n ∧ n ∉ l := by
  have h : ∃ m, ∀ x ∈ l, x ≤ m := by
    induction l with
    | nil => exact ⟨0, by simp⟩
    | cons y r ih =>
      obtain ⟨m, hm⟩ := ih
      refine ⟨y + m, fun x hx => ?_⟩
      rcases List.mem_cons.1 hx with rfl | hx
      · omega
      · have := hm x hx; omega
  obtain ⟨m, hm⟩ := h
  exact ⟨2000 + m, by omega, fun h => by have := hm _ h; omega⟩
theorem fam_ents {st : St} {L : List (Nat × Gp)} {a : Nat} {ν : Nat × Gp → Nat} {es : List (List AV)} (hn : (L.map Prod.fst).Nodup) (h1 : ∀ q ∈ L.map Prod.fst, 2000 ≤ q) (ha : st.objs a = some ⟨2, es⟩)
    (hes : es = L.map fun p => [rowA p.2.at_, .rf (ν p) 0 p.2.items.length]) (hob : ∀ p ∈ L, st.objs (ν p) = some (so p.2.items)) :
    eobs st ((1000, some a) :: L.map fun p => (p.1, some (ν p))) ((1000, gOb L) :: gFam L) := by
  have hk : ∀ p ∈ L, nms ((1000, some a) :: L.map fun p => (p.1, some (ν p))) p.1 = some (some (ν p)) := fun p hp => by
    simp only [nms]
    rw [if_neg (fun (h : 1000 = p.1) => by have := h1 p.1 (List.mem_map_of_mem hp); omega)]
    exact nms_fam hn hp
  refine ⟨?_, eobs_fam fun p hp => ?_⟩
  · simp only [nms, if_pos, eob]
    refine ⟨_, ha, rfl, Es_all (by rw [hes]; simp [gOb]) fun i q1 q2 => ?_⟩
    subst hes
    have hi : i < L.length := by simpa using q1
    simp only [gOb, List.getElem_map, gCell, wk.wks, and_true]
    refine ⟨wk_leaf rfl, ?_⟩
    simp only [wk, hk _ (List.getElem_mem hi)]
    exact ⟨trivial, trivial, trivial⟩
  · rw [hk p hp]
    exact ⟨_, hob p hp, rfl, .same (so p.2.items) _ _ (so_leafy _) rfl⟩
theorem c107 (z : List It) (cols : List Int) (hl : z.length ≤ 1048576) (hr : ∀ t ∈ z, t.row.length < 1073741824) (hc : cols.length < 1073741824) (hp : ∀ t ∈ z, pickE t.row cols = 0) :
    Spec0 Try.prog 107 [setA z, intsL cols] (fun r => ∃ gs : List Gp, r = gsA gs ∧ GpI cols z gs ∧ gs.length ≤ z.length) := by
  refine spec0_of_vc tabOk elems og107 Try.func107 rfl (rl := [.tmp 4]) rfl (by kernel_rfl) rfl ?_
  (simp -implicitDefEqProofs only [go_sem, setA, intsL, iA]; repeat (refine GO ?_; simp -implicitDefEqProofs only [go_sem, setA, intsL, iA]))
  refine LOOP.mk (ι := { p : Nat × List (Nat × Gp) // p.1 ≤ z.length ∧ GpI cols (z.take p.1) (p.2.map Prod.snd) ∧ (p.2.map Prod.fst).Nodup ∧ (∀ q ∈ p.2.map Prod.fst, 2000 ≤ q) ∧ p.2.length ≤ p.1 })
    (fun p => mkS [(1, intsL cols), (5, .rf 1000 0 p.1.2.length), (12, setA z), (13, iA z.length), (14, iA p.1.1)] ((1000, gOb p.1.2) :: gFam p.1.2) (1000 :: p.1.2.map Prod.fst))
    (fun p => z.length - p.1.1) ⟨(0, []), Nat.zero_le _, GpI.nil cols, .nil, by simp, Nat.le_refl _⟩ [(1000, none)] rfl rfl ?_ (fun p => ?_)
  · (simp -implicitDefEqProofs only [go_sem, setA, intsL, iA, gOb, gFam]; repeat (refine GO ?_; simp -implicitDefEqProofs only [go_sem, setA, intsL, iA, gOb, gFam]))
    simp
    trivial
  obtain ⟨⟨i, L⟩, hi, hg, hn, h2000, hLi⟩ := p
  simp only at hi hg hn h2000 hLi
  (simp -implicitDefEqProofs only [go_sem, setA, intsL, iA]; repeat (refine GO ?_; simp -implicitDefEqProofs only [go_sem, setA, intsL, iA]))
  refine VIF.split (fun h => ?_) (fun h => ?_)
  · have h : i < z.length := by simpa using h
    have hm := List.getElem_mem h
    have w1 := wrap_add1 (show i < 4611686018427387904 by omega)
    have hfr : ∀ k < 2000, (k ∈ L.map Prod.fst) = False := fun k hk => eq_false fun h => by have := h2000 k h; omega
    have f7 := hfr 7 (by decide)
    have f40 := hfr 40 (by decide)
    have f41 := hfr 41 (by decide)
    have f50 := hfr 50 (by decide)
    have f51 := hfr 51 (by decide)
    (simp -implicitDefEqProofs only [go_sem]; repeat (refine GO ?_; simp -implicitDefEqProofs only [go_sem]))
    refine EL.map h ?_
    (simp -implicitDefEqProofs only [go_sem, It.c, iA, f7]; repeat (refine GO ?_; simp -implicitDefEqProofs only [go_sem, It.c, iA, f7]))
    refine VIF.split (fun h2 => ?_) (fun h2 => ?_)
    · have h2 : z[i].w < 0 := by simpa using h2
      (simp -implicitDefEqProofs only [go_sem, w1]; repeat (refine GO ?_; simp -implicitDefEqProofs only [go_sem, w1]))
      refine BACK.mk ⟨(i + 1, L), by simp only; omega, ?_, hn, h2000, by simp only; omega⟩ ((1000, some 1000) :: L.map fun p => (p.1, some p.1)) rfl (nmOk_fam (ν := Prod.fst) (by simp [hfr, hn]) (by simp [hfr])) (by show z.length - (i + 1) < z.length - i; omega) ?_
      · rw [List.take_succ_eq_append_getElem h]; exact hg.skip h2
      · refine ⟨by simp [hfr], ?_, fam_ents (ν := Prod.fst) hn h2000 (es := L.map gCell) ?_ rfl fun p hp => ?_⟩
        · (simp -implicitDefEqProofs only [go_sem, setA, iA, intsL, w1]; repeat (refine GO ?_; simp -implicitDefEqProofs only [go_sem, setA, iA, intsL, w1]))
        · (simp -implicitDefEqProofs only [go_sem, gOb]; repeat (refine GO ?_; simp -implicitDefEqProofs only [go_sem, gOb]))
        · have := h2000 p.1 (List.mem_map_of_mem hp)
          have e1 : (7 = p.1) = False := eq_false (by omega)
          have e2 : (1000 = p.1) = False := eq_false (by omega)
          (simp -implicitDefEqProofs only [go_sem, e1, e2]; repeat (refine GO ?_; simp -implicitDefEqProofs only [go_sem, e1, e2]))
          exact mkO_fam hn hp
    · have h2 : 0 ≤ z[i].w := by simpa using h2
      have hrl := hr _ hm
      have hkey := hp _ hm
      (simp -implicitDefEqProofs only [go_sem, rowA]; repeat (refine GO ?_; simp -implicitDefEqProofs only [go_sem, rowA]))
      refine .pure _ (show Spec0 Try.prog 61 [rowA z[i].row, intsL cols] _ from Spec1.rowE (c61 z[i].row cols hrl hc)) rfl fun r hq _ => ?_
      obtain ⟨key, err, rfl, rfl, hk1, _⟩ := hq
      have hk1 := hk1 hkey
      (simp -implicitDefEqProofs only [go_sem, iA, rowA]; repeat (refine GO ?_; simp -implicitDefEqProofs only [go_sem, iA, rowA]))
      have hlen : (L.map Prod.snd).length = L.length := by simp
      have hat : ∀ g ∈ L.map Prod.snd, g.at_.length < 4611686018427387904 := fun g hg' => by
        obtain ⟨t, ht⟩ := List.exists_mem_of_ne_nil _ (hg.some g hg')
        rw [hg.items g hg', List.mem_filter] at ht
        have h3 := hp t (List.mem_of_mem_take ht.1)
        have h4 : cmpR (pickR t.row cols) g.at_ = 0 := by have := ht.2; simp at this; exact this.2
        rw [← lin_cmpR.eq _ _ h4]
        have : (pickR t.row cols).length = cols.length := by simp [pickR]
        omega
      have hmono : ∀ a b (ha : a < (L.map Prod.snd).length) (hb : b < (L.map Prod.snd).length), a < b → cmpR (L.map Prod.snd)[b].at_ key < 0 → cmpR (L.map Prod.snd)[a].at_ key < 0 := fun a b ha hb hab h3 =>
        lin_cmpR.trans _ _ _ (hg.get ha hb hab) h3
      refine .lendR (show Spec0 Try.prog 135 [gsA (L.map Prod.snd), rowA key, .fn 136 []] _ from c135 (L.map Prod.snd) key (by rw [hlen]; omega) hat hmono) ?_ ?_ fun r hq => ?_
      · refine ⟨lent_groups ?_ fun p hp => ?_, .same rfl, .same rfl, trivial⟩
        · (simp -implicitDefEqProofs only [go_sem]; repeat (refine GO ?_; simp -implicitDefEqProofs only [go_sem]))
        · have r0 := h2000 p.1 (List.mem_map_of_mem hp)
          have r1 : (7 = p.1) = False := eq_false (by omega)
          have r2 : (1000 = p.1) = False := eq_false (by omega)
          (simp -implicitDefEqProofs only [go_sem, r1, r2]; repeat (refine GO ?_; simp -implicitDefEqProofs only [go_sem, r1, r2]))
          exact mkO_fam hn hp
      · rintro _ ⟨k, b, rfl, _⟩; rfl
      obtain ⟨k, b, rfl, hkl, hk2, hk3, hb⟩ := hq
      (simp -implicitDefEqProofs only [go_sem, iA, bA]; repeat (refine GO ?_; simp -implicitDefEqProofs only [go_sem, iA, bA]))
      refine VIF.split (fun h4 => ?_) (fun h4 => ?_)
      · have h4 : b = false := by simpa using h4
        have hk : k ≤ L.length := by rw [← hlen]; exact hkl
        (simp -implicitDefEqProofs only [go_sem, iA, rowA, f7, f40, f41]; repeat (refine GO ?_; simp -implicitDefEqProofs only [go_sem, iA, rowA, f7, f40, f41]))
        refine .ins (e := 107) (tS := 104) (tI := 3) (fo := 144) tabOk elems insG rfl rfl (id := 1000) (id2 := 40) (o := gOb L) (o2 := ⟨2, [[rowA key, .nl]]⟩) (x := [rowA key, .nl]) (by (simp -implicitDefEqProofs only [go_sem]; repeat (refine GO ?_; simp -implicitDefEqProofs only [go_sem]))) (by (simp -implicitDefEqProofs only [go_sem, rowA]; repeat (refine GO ?_; simp -implicitDefEqProofs only [go_sem, rowA]))) (by decide) (by simp [hfr]) rfl rfl rfl hk (by omega) ?_
        have htl : ((gOb L).es.drop 0).take L.length = L.map gCell := by simp only [gOb, List.drop_zero]; exact take_map_len _ _
        rw [htl]
        have e5 : ((k : Int) < ((L.length + 1 : Nat) : Int)) = True := eq_true (by omega)
        have hkm : k ≤ (L.map gCell).length := by simpa using hk
        obtain ⟨fr, hf1, hf2⟩ := fresh_name (L.map Prod.fst)
        obtain ⟨L', hL'⟩ : ∃ L', L' = L.take k ++ (fr, (⟨key, [z[i]]⟩ : Gp)) :: L.drop k := ⟨_, rfl⟩
        have hg1 : GpI cols (z.take (i + 1)) (L'.map Prod.snd) := by
          have hnb : ¬ ∃ h : k < (L.map Prod.snd).length, cmpR (L.map Prod.snd)[k].at_ key = 0 := fun g => by have := hb.2 g; rw [h4] at this; cases this
          have h3 := hg.ins (t := z[i]) (by omega) (k := k) hkl (by rw [← hk1]; exact hk2) (by
            rw [← hk1]
            intro j hj hkj
            have h5 := hk3 j hj hkj
            rcases Nat.lt_or_ge k j with h6 | h6
            · rcases Int.lt_or_le 0 (cmpR (L.map Prod.snd)[j].at_ key) with h7 | h7
              · exact h7
              · have h8 : cmpR (L.map Prod.snd)[j].at_ key = 0 := by omega
                have h9 := hk3 k (by omega) (Nat.le_refl _)
                have h10 := hg.get (by omega) hj h6
                rw [lin_cmpR.eq _ _ h8] at h10; omega
            · have : j = k := by omega
              subst this
              have : cmpR (L.map Prod.snd)[j].at_ key ≠ 0 := fun h => hnb ⟨hj, h⟩
              omega)
          rw [List.take_succ_eq_append_getElem h, hL', List.map_append, List.map_cons, List.map_take, List.map_drop, hk1]
          exact h3
        have hmem : ∀ p ∈ L', p = (fr, ⟨key, [z[i]]⟩) ∨ p ∈ L := fun p hp => by
          rw [hL'] at hp
          rcases List.mem_append.1 hp with h | h
          · exact .inr (List.mem_of_mem_take h)
          · rcases List.mem_cons.1 h with h | h
            · exact .inl h
            · exact .inr (List.mem_of_mem_drop h)
        have hn' : (L'.map Prod.fst).Nodup := by
          rw [hL', List.map_append, List.map_cons, (List.perm_middle).nodup_iff, ← List.map_append, List.take_append_drop]
          exact List.nodup_cons.2 ⟨hf2, hn⟩
        have h2000' : ∀ q ∈ L'.map Prod.fst, 2000 ≤ q := fun q hq => by
          obtain ⟨p, hp, rfl⟩ := List.mem_map.1 hq
          rcases hmem p hp with rfl | h
          · exact hf1
          · exact h2000 _ (List.mem_map_of_mem h)
        have hfl : ∀ p ∈ L, p.1 ≠ fr := fun p hp h => hf2 (h ▸ List.mem_map_of_mem hp)
        have hnd : (41 :: L'.map fun p => if p.1 = fr then 51 else p.1).Nodup := nd_repl hn' h2000' (by decide) (by decide)
        have h00 : 0 ∉ L'.map Prod.fst := fun h => absurd (h2000' 0 h) (by omega)
        have hlL : L'.length = L.length + 1 := by rw [hL']; simp; omega
        have hsc : (List.take k (L.map gCell) ++ [rowA key, .nl] :: List.drop k (L.map gCell)).set k [rowA key, .rf 51 0 1] = L'.map fun p => [rowA p.2.at_, .rf (if p.1 = fr then 51 else p.1) 0 p.2.items.length] := by
          have hcl : ∀ p ∈ L, gCell p = [rowA p.2.at_, .rf (if p.1 = fr then 51 else p.1) 0 p.2.items.length] := fun p hp => by rw [if_neg (hfl p hp)]; rfl
          have htk : (List.take k (L.map gCell)).length = k := by simp; omega
          rw [List.set_append_right _ _ (by omega), htk, Nat.sub_self, List.set_cons_zero, hL', List.map_append, List.map_cons, ← List.map_take, ← List.map_drop]
          congr 1
          · exact List.map_congr_left fun p hp => hcl p (List.mem_of_mem_take hp)
          · congr 1
            · simp
            · exact List.map_congr_left fun p hp => hcl p (List.mem_of_mem_drop hp)
        (simp -implicitDefEqProofs only [go_sem, iA, rowA, f7, f40, f41, f50, f51, e5]; repeat (refine GO ?_; simp -implicitDefEqProofs only [go_sem, iA, rowA, f7, f40, f41, f50, f51, e5]))
        refine ⟨⟨EL.mid hkm ?_, EL.mid hkm ?_⟩, EL.mid hkm ?_⟩
        all_goals (simp -implicitDefEqProofs only [go_sem, iA, rowA, f7, f40, f41, f50, f51, e5, w1]; repeat (refine GO ?_; simp -implicitDefEqProofs only [go_sem, iA, rowA, f7, f40, f41, f50, f51, e5, w1]))
        all_goals refine EL.mid hkm ?_
        all_goals (simp -implicitDefEqProofs only [go_sem, iA, rowA, f7, f40, f41, f50, f51, e5, w1]; repeat (refine GO ?_; simp -implicitDefEqProofs only [go_sem, iA, rowA, f7, f40, f41, f50, f51, e5, w1]))
        all_goals refine BACK.mk ⟨(i + 1, L'), by simp only; omega, hg1, hn', h2000', by simp only; omega⟩ ((1000, some 41) :: L'.map fun p => (p.1, some (if p.1 = fr then 51 else p.1))) rfl (nmOk_fam (ν := fun p => if p.1 = fr then 51 else p.1) hnd h00) (by show z.length - (i + 1) < z.length - i; omega) ?_
        all_goals
          refine ⟨by simp [hfr], ?_, fam_ents (ν := fun p => if p.1 = fr then 51 else p.1) hn' h2000' (es := (List.take k (L.map gCell) ++ [rowA key, .nl] :: List.drop k (L.map gCell)).set k [rowA key, .rf 51 0 1]) ?_ hsc fun p hp => ?_⟩
          · (simp -implicitDefEqProofs only [go_sem, setA, iA, intsL, w1, hlL]; repeat (refine GO ?_; simp -implicitDefEqProofs only [go_sem, setA, iA, intsL, w1, hlL]))
          · (simp -implicitDefEqProofs only [go_sem, rowA]; repeat (refine GO ?_; simp -implicitDefEqProofs only [go_sem, rowA]))
          · rcases hmem p hp with rfl | hp
            · rw [if_pos rfl]
              (simp -implicitDefEqProofs only [go_sem, so, It.c]; repeat (refine GO ?_; simp -implicitDefEqProofs only [go_sem, so, It.c]))
              rfl
            · rw [if_neg (hfl p hp)]
              have r0 := h2000 p.1 (List.mem_map_of_mem hp)
              have r1 : (7 = p.1) = False := eq_false (by omega)
              have r2 : (50 = p.1) = False := eq_false (by omega)
              have r3 : (51 = p.1) = False := eq_false (by omega)
              have r4 : (1000 = p.1) = False := eq_false (by omega)
              have r5 : (40 = p.1) = False := eq_false (by omega)
              have r6 : (41 = p.1) = False := eq_false (by omega)
              (simp -implicitDefEqProofs only [go_sem, r1, r2, r3, r4, r5, r6]; repeat (refine GO ?_; simp -implicitDefEqProofs only [go_sem, r1, r2, r3, r4, r5, r6]))
              exact mkO_fam hn hp
      · have h4 : b = true := by simpa using h4
        obtain ⟨h5, h6⟩ := hb.1 h4
        have hk : k < L.length := by simpa using h5
        have hkm := List.getElem_mem hk
        have hge := h2000 _ (List.mem_map_of_mem hkm)
        have e1 : (1000 = L[k].1) = False := eq_false (by omega)
        have e2 : (7 = L[k].1) = False := eq_false (by omega)
        have e3 : (50 = L[k].1) = False := eq_false (by omega)
        have e4 : mkO (gFam L) L[k].1 = some (so L[k].2.items) := mkO_fam hn hkm
        have e5 : ((k : Int) < L.length) = True := eq_true (by omega)
        have e6 : (L[k].1 = 1000) = False := eq_false (by omega)
        have e7 : (L[k].1 = 7) = False := eq_false (by omega)
        have e8 : (L[k].1 = 50) = False := eq_false (by omega)
        (simp -implicitDefEqProofs only [go_sem, iA, rowA, f7, f50, f51, gOb, e5]; repeat (refine GO ?_; simp -implicitDefEqProofs only [go_sem, iA, rowA, f7, f50, f51, gOb, e5]))
        have e9 : (L[k].1 = 51) = False := eq_false (by omega)
        have e10 : (51 = L[k].1) = False := eq_false (by omega)
        have esz : ∀ l, (so l).sz = 2 := fun _ => rfl
        have hil : L[k].2.items.length ≤ 1073741823 := by
          rw [hg.items _ (List.mem_map_of_mem hkm)]
          have := List.length_filter_le (fun t : It => !decide (t.w < 0) && decide (cmpR (pickR t.row cols) L[k].2.at_ = 0)) (z.take i)
          rw [List.length_take] at this
          omega
        have hil2 : (L[k].2.items.length ≤ 1073741823) = True := eq_true hil
        obtain ⟨L', hL'⟩ : ∃ L', L' = L.set k (L[k].1, ⟨L[k].2.at_, L[k].2.items ++ [z[i]]⟩) := ⟨_, rfl⟩
        have hks : L'.map Prod.fst = L.map Prod.fst := by rw [hL']; exact set_keys (hk := hk)
        have hg1 : GpI cols (z.take (i + 1)) (L'.map Prod.snd) := by
          have h3 := hg.add (t := z[i]) (by omega) h5 (by rw [← hk1]; exact h6)
          rw [List.take_succ_eq_append_getElem h, hL', List.map_set]
          simpa only [List.getElem_map] using h3
        have hnd : (1000 :: L'.map fun p => if p.1 = L[k].1 then 51 else p.1).Nodup := nd_repl (by rw [hks]; exact hn) (by rw [hks]; exact h2000) (by decide) (by decide)
        have h00 : 0 ∉ L'.map Prod.fst := by rw [hks, hfr 0 (by decide)]; exact id
        have hsc := set_cells hn hk (g := ⟨L[k].2.at_, L[k].2.items ++ [z[i]]⟩)
        rw [← hL'] at hsc
        have hlL : L'.length = L.length := by rw [hL', List.length_set]
        have hob : ∀ p ∈ L', p.1 = L[k].1 ∧ p.2.items = L[k].2.items ++ [z[i]] ∨ p.1 ≠ L[k].1 ∧ mkO (gFam L) p.1 = some (so p.2.items) := by
          intro p hp'
          obtain ⟨t, ht, rfl⟩ := List.mem_iff_getElem.1 hp'
          simp only [hL', List.getElem_set]
          by_cases e : k = t
          · subst e; simp
          · have ht' : t < L.length := by rw [← hlL]; exact ht
            refine .inr ⟨?_, ?_⟩
            · rw [if_neg e]; exact fun h => e (key_inj hn hk ht' h.symm)
            · rw [if_neg e]; exact mkO_fam hn (List.getElem_mem ht')
        refine ⟨⟨EL.map hk ?_, EL.map hk ?_⟩, EL.map hk ?_⟩
        all_goals (simp -implicitDefEqProofs only [go_sem, gCell, f50, f51, e1, e2, e3, e4, e5, e6, e7, e8, e9, e10, esz, hil2, w1]; repeat (refine GO ?_; simp -implicitDefEqProofs only [go_sem, gCell, f50, f51, e1, e2, e3, e4, e5, e6, e7, e8, e9, e10, esz, hil2, w1]))
        all_goals refine EL.map hk ?_
        all_goals (simp -implicitDefEqProofs only [go_sem, gCell, f50, f51, e1, e2, e3, e4, e5, e6, e7, e8, e9, e10, esz, hil2, w1]; repeat (refine GO ?_; simp -implicitDefEqProofs only [go_sem, gCell, f50, f51, e1, e2, e3, e4, e5, e6, e7, e8, e9, e10, esz, hil2, w1]))
        all_goals refine BACK.mk ⟨(i + 1, L'), by simp only; omega, hg1, by rw [hks]; exact hn, by rw [hks]; exact h2000, by simp only; omega⟩ ((1000, some 1000) :: L'.map fun p => (p.1, some (if p.1 = L[k].1 then 51 else p.1))) rfl (nmOk_fam (ν := fun p => if p.1 = L[k].1 then 51 else p.1) hnd h00) (by show z.length - (i + 1) < z.length - i; omega) ?_
        all_goals
          refine ⟨by simp [hfr], ?_, fam_ents (ν := fun p => if p.1 = L[k].1 then 51 else p.1) (by rw [hks]; exact hn) (by rw [hks]; exact h2000) (es := (L.map gCell).set k [rowA L[k].2.at_, .rf 51 0 (L[k].2.items.length + 1)]) ?_ ?_ fun p hp => ?_⟩
          · (simp -implicitDefEqProofs only [go_sem, setA, iA, intsL, w1, hlL]; repeat (refine GO ?_; simp -implicitDefEqProofs only [go_sem, setA, iA, intsL, w1, hlL]))
          · (simp -implicitDefEqProofs only [go_sem, e1, e2, e3, e4, e6, e7, e8, e9, e10, rowA]; repeat (refine GO ?_; simp -implicitDefEqProofs only [go_sem, e1, e2, e3, e4, e6, e7, e8, e9, e10, rowA]))
          · simpa using hsc
          · rcases hob p hp with ⟨q1, q2⟩ | ⟨q1, q2⟩
            · rw [if_pos q1, q2]
              (simp -implicitDefEqProofs only [go_sem, so, It.c]; repeat (refine GO ?_; simp -implicitDefEqProofs only [go_sem, so, It.c]))
              rw [List.map_append]; rfl
            · rw [if_neg q1]
              have r0 := h2000 p.1 (by rw [← hks]; exact List.mem_map_of_mem hp)
              have r1 : (7 = p.1) = False := eq_false (by omega)
              have r2 : (50 = p.1) = False := eq_false (by omega)
              have r3 : (51 = p.1) = False := eq_false (by omega)
              have r4 : (1000 = p.1) = False := eq_false (by omega)
              have r5 : (L[k].1 = p.1) = False := eq_false (fun h => q1 h.symm)
              (simp -implicitDefEqProofs only [go_sem, r1, r2, r3, r4, r5]; repeat (refine GO ?_; simp -implicitDefEqProofs only [go_sem, r1, r2, r3, r4, r5]))
              exact q2
  · have h : i = z.length := by simp at h; omega
    subst h
    rw [List.take_length] at hg
    simp -implicitDefEqProofs only [go_sem]
    refine TO [(1000, some 1000)] [(5, .rf 1000 0 L.length)] [(1000, ⟨2, (L.map Prod.snd).map Gp.c⟩)] [1000] rfl ?_ ?_
    · (simp -implicitDefEqProofs only [go_sem, gOb]; repeat (refine GO ?_; simp -implicitDefEqProofs only [go_sem, gOb]))
      have h0 : 0 ∉ L.map Prod.fst := fun h => absurd (h2000 0 h) (by omega)
      refine ⟨fun h => h.elim id (fun h => h0 h), Es_all (by simp) fun j q1 q2 => ?_⟩
      have hj : j < L.length := by simpa using q1
      have hmj := List.getElem_mem hj
      have hge := h2000 _ (List.mem_map_of_mem hmj)
      simp only [List.getElem_map, gCell, Gp.c, wk.wks, and_true]
      refine ⟨wk_leaf rfl, ?_⟩
      simp only [wk, setA]
      refine ⟨by simp [olds]; omega, so L[j].2.items, ?_, so_leafy _, rfl, by simp only [so, List.drop_zero]; exact take_map_len _ _⟩
      have e2 : (1000 = L[j].1) = False := eq_false (by omega)
      (simp -implicitDefEqProofs only [go_sem, e2]; repeat (refine GO ?_; simp -implicitDefEqProofs only [go_sem, e2]))
      exact mkO_fam hn hmj
    simp -implicitDefEqProofs only [go_sem]
    refine FRZ 1000 ⟨2, (L.map Prod.snd).map Gp.c⟩ rfl (leafy_do ▸ leafs2_map fun x _ => by simp [leafs, Gp.c, rowA, setA, AV.leaf]) ?_
    (simp -implicitDefEqProofs only [go_sem]; repeat (refine GO ?_; simp -implicitDefEqProofs only [go_sem]))
    exact ⟨L.map Prod.snd, by rw [List.take_of_length_le (by simp)]; rfl, hg, by simpa using hLi⟩
end Yt
namespace Yt
open Go Go.Vc Go.Proofs
set_option maxRecDepth 10000
set_option maxHeartbeats 8000000
set_option linter.unusedSimpArgs false
set_option linter.unusedVariables false
/-- What is told of a group; none: it is beyond. -/
def gval (kind col : Int) (g : Gp) : Option V := if kind = 1 ∨ kind = 2 then (sumF kind col g.items 0).map fun n => ⟨3, n, ByteArray.empty⟩ else some (bestF kind col g.items V.nul)
def gItem (kind col : Int) (g : Gp) : It := ⟨g.at_ ++ [(gval kind col g).getD V.zero], 1⟩
def Wr0 (z : List It) (cols : List Int) (kind col : Int) : Prop := Good z ∧ 1 ≤ kind ∧ kind ≤ 4 ∧ cols.length < 12 ∧ ∀ t ∈ z, pickE t.row cols = 0 ∧ (kind ≠ 1 → inC col t.row.length = true)
def GroupR (z : List It) (cols : List Int) (kind col : Int) (out : List It) (err : Int) : Prop :=
  (¬ Wr0 z cols kind col ∧ out = [] ∧ (err = 1 ∨ err = 2) ∧ (err = 2 ↔ Good z ∧ 1 ≤ kind ∧ kind ≤ 4 ∧ 12 ≤ cols.length)) ∨
  (Wr0 z cols kind col ∧ ∃ gs, GpI cols z gs ∧ gs.length ≤ z.length ∧ (((∃ g ∈ gs, gval kind col g = none) ∧ out = [] ∧ err = 11) ∨ ((∀ g ∈ gs, gval kind col g ≠ none) ∧ MakeR (gs.map (gItem kind col)) out err)))
theorem okR_bound {r : List V} (h : okR r = 0) : ∀ v ∈ r, -4611686018427387904 ≤ v.i ∧ v.i ≤ 4611686018427387904 := by
  intro v hv
  simp only [okR] at h
  split at h
  · cases h
  · split at h
    · rename_i h2
      have := List.all_eq_true.1 h2 v hv
      simp only [okV, inB] at this
      split at this
      · simp at this; omega
      · split at this
        · simp at this; omega
        · split at this
          · simp at this; omega
          · split at this
            · simp at this; omega
            · cases this
    · cases h
theorem GpI.atlen {cols : List Int} {y : List It} {gs : List Gp} (h : GpI cols y gs) : ∀ g ∈ gs, g.at_.length = cols.length := fun g hg => by
  obtain ⟨t, ht⟩ := List.exists_mem_of_ne_nil _ (h.some g hg)
  rw [h.items g hg, List.mem_filter] at ht
  have h4 : cmpR (pickR t.row cols) g.at_ = 0 := by have := ht.2; simp at this; exact this.2
  rw [← lin_cmpR.eq _ _ h4]; simp [pickR]
theorem c67 (z : List It) (cols : List Int) (kind col : Int) (hl : z.length ≤ 1048576) (hr : ∀ t ∈ z, t.row.length < 1073741824) (hc : cols.length < 1073741824) :
    Spec1 Try.prog 67 [setA z, intsL cols, iA kind, iA col] (fun r o => ∃ (out : List It) (err : Int), r = .tu [.rf 0 0 out.length, iA err] ∧ o = so out ∧ GroupR z cols kind col out err) := by
  refine spec1_of_vc tabOk elems ord67 Try.func67 rfl (rl := [.tmp 8, .tmp 9]) rfl (by kernel_rfl) rfl ?_
  (simp -implicitDefEqProofs only [go_sem, setA, intsL, iA]; repeat (refine GO ?_; simp -implicitDefEqProofs only [go_sem, setA, intsL, iA]))
  refine .pure _ (show Spec0 Try.prog 106 [setA z, intsL cols, iA kind, iA col] _ from c106 z cols kind col (by omega) hr hc) rfl fun r hq _ => ?_
  obtain ⟨e, rfl, he, he0, he2⟩ := hq
  (simp -implicitDefEqProofs only [go_sem, iA]; repeat (refine GO ?_; simp -implicitDefEqProofs only [go_sem, iA]))
  refine VIF.split (fun h => ?_) (fun h => ?_)
  · have h : e ≠ 0 := by simpa using h
    (simp -implicitDefEqProofs only [go_sem]; repeat (refine GO ?_; simp -implicitDefEqProofs only [go_sem]))
    refine FINmk [(0, none)] [(8, .rf 0 0 0), (9, iA e)] [(0, so [])] [0] rfl ?_ ?_
    · (simp -implicitDefEqProofs only [go_sem, iA]; repeat (refine GO ?_; simp -implicitDefEqProofs only [go_sem, iA]))
      simp [so]
    · exact ⟨so [], ⟨⟨[], e, rfl, rfl, .inl ⟨fun g => h (he0.2 g), rfl, by omega, he2⟩⟩, rfl⟩, so_leafy [], rfl⟩
  have h : e = 0 := by simpa using h
  have hw := he0.1 h
  subst h
  (simp -implicitDefEqProofs only [go_sem]; repeat (refine GO ?_; simp -implicitDefEqProofs only [go_sem]))
  refine .pure _ (show Spec0 Try.prog 107 [setA z, intsL cols] _ from c107 z cols hl hr hc (fun t ht => (hw.2.2.2.2 t ht).1)) rfl fun r hq _ => ?_
  obtain ⟨gs, rfl, hg, hgl⟩ := hq
  (simp -implicitDefEqProofs only [go_sem, gsA, iA]; repeat (refine GO ?_; simp -implicitDefEqProofs only [go_sem, gsA, iA]))
  refine LOOP.mk (ι := { i : Nat // i ≤ gs.length ∧ ∀ j (h : j < gs.length), j < i → gval kind col gs[j] ≠ none }) (fun p => mkS [(2, iA kind), (3, iA col), (11, .rf 1000 0 p.1), (26, gsA gs), (27, iA gs.length), (28, iA p.1)] [(1000, so ((gs.take p.1).map (gItem kind col)))] [1000])
    (fun p => gs.length - p.1) ⟨0, Nat.zero_le _, fun j _ h => absurd h (Nat.not_lt_zero _)⟩ [(1000, none)] rfl rfl ?_ (fun p => ?_)
  · (simp -implicitDefEqProofs only [go_sem, gsA, iA, so]; repeat (refine GO ?_; simp -implicitDefEqProofs only [go_sem, gsA, iA, so]))
    simp
  obtain ⟨i, hi, hv⟩ := p
  (simp -implicitDefEqProofs only [go_sem, gsA, iA]; repeat (refine GO ?_; simp -implicitDefEqProofs only [go_sem, gsA, iA]))
  refine VIF.split (fun h => ?_) (fun h => ?_)
  · have h : i < gs.length := by simpa using h
    have hm := List.getElem_mem h
    have w1 := wrap_add1 (show i < 4611686018427387904 by omega)
    (simp -implicitDefEqProofs only [go_sem]; repeat (refine GO ?_; simp -implicitDefEqProofs only [go_sem]))
    refine EL.map h ?_
    (simp -implicitDefEqProofs only [go_sem, Gp.c, iA]; repeat (refine GO ?_; simp -implicitDefEqProofs only [go_sem, Gp.c, iA]))
    have hgi : ∀ t ∈ gs[i].items, t ∈ z := fun t ht => by rw [hg.items _ hm, List.mem_filter] at ht; exact ht.1
    have hgl2 : gs[i].items.length ≤ z.length := by rw [hg.items _ hm]; exact List.length_filter_le _ _
    have hal : gs[i].at_.length = cols.length := by
      obtain ⟨t, ht⟩ := List.exists_mem_of_ne_nil _ (hg.some _ hm)
      rw [hg.items _ hm, List.mem_filter] at ht
      have h4 : cmpR (pickR t.row cols) gs[i].at_ = 0 := by have := ht.2; simp at this; exact this.2
      rw [← lin_cmpR.eq _ _ h4]; simp [pickR]
    have hcc : kind ≠ 1 → ∀ t ∈ gs[i].items, inC col t.row.length = true := fun hk t ht => (hw.2.2.2.2 t (hgi t ht)).2 hk
    refine .pure _ (show Spec0 Try.prog 108 [.ag gs[i].c, iA kind, iA col] _ from c108 gs[i] kind col (by omega) hcc) rfl fun r hq _ => ?_
    subst hq
    (simp -implicitDefEqProofs only [go_sem, V.c, iA]; repeat (refine GO ?_; simp -implicitDefEqProofs only [go_sem, V.c, iA]))
    have hwb : ∀ t ∈ gs[i].items, -72057594037927936 ≤ t.w ∧ t.w ≤ 72057594037927936 := fun t ht => good_w hw.1 (hgi t ht)
    have hvb : ∀ t ∈ gs[i].items, ∀ v ∈ t.row, -4611686018427387904 ≤ v.i ∧ v.i ≤ 4611686018427387904 := fun t ht v hv => by
      have h3 := (good_made.1 hw.1).2 t (hgi t ht)
      exact okR_bound h3 v hv
    have s109 : Spec0 Try.prog 109 [.ag [.im 3 (gs[i].at_.map V.c), .im 2 (gs[i].items.map It.c)], .pr (.int .i64 kind), .pr (.int .i64 col)] _ := c109 gs[i] kind col (by omega) (fun t ht => by have := hr t (hgi t ht); omega) hwb hvb hcc
    have hor : ∀ h : kind = 1 ∨ kind = 2, gval kind col gs[i] = (sumF kind col gs[i].items 0).map fun n => ⟨3, n, ByteArray.empty⟩ := fun h => if_pos h
    have bad : gval kind col gs[i] = none → ∃ o, ((∃ (out : List It) (err : Int), AV.tu [.rf 0 0 0, .pr (.int .i64 11)] = .tu [.rf 0 0 out.length, iA err] ∧ o = so out ∧ GroupR z cols kind col out err) ∧ AV.only0 (.tu [.rf 0 0 0, .pr (.int .i64 11)]) = true) ∧ o.leafy ∧ upd noOb 0 (some (so [])) = upd noOb 0 (some o) := fun hn =>
      ⟨so [], ⟨⟨[], 11, rfl, rfl, .inr ⟨hw, gs, hg, hgl, .inl ⟨⟨_, hm, hn⟩, rfl, rfl⟩⟩⟩, rfl⟩, so_leafy [], rfl⟩
    refine VIF.split (fun h1 => ?_) (fun h1 => ?_)
    · have h1 : kind = 1 := by simpa using h1
      (simp -implicitDefEqProofs only [go_sem, V.c, iA, rowA, setA]; repeat (refine GO ?_; simp -implicitDefEqProofs only [go_sem, V.c, iA, rowA, setA]))
      refine .pure _ s109 rfl fun r hq _ => ?_
      subst hq
      (simp -implicitDefEqProofs only [go_sem, V.c, iA, bA]; repeat (refine GO ?_; simp -implicitDefEqProofs only [go_sem, V.c, iA, bA]))
      refine VIF.split (fun h3 => ?_) (fun h3 => ?_)
      · have h3 : (sumF kind col gs[i].items 0).isSome = false := by simpa only [Bool.not_eq_true'] using h3
        have hno : gval kind col gs[i] = none := by
          rw [hor (.inl h1)]
          cases hs : sumF kind col gs[i].items 0 with
          | none => rfl
          | some n => rw [hs] at h3; cases h3
        (simp -implicitDefEqProofs only [go_sem]; repeat (refine GO ?_; simp -implicitDefEqProofs only [go_sem]))
        refine FINmk [(0, none)] [(8, .rf 0 0 0), (9, iA 11)] [(0, so [])] [0] rfl ?_ ?_
        · (simp -implicitDefEqProofs only [go_sem, iA]; repeat (refine GO ?_; simp -implicitDefEqProofs only [go_sem, iA]))
          simp [so]
        · exact bad hno
      have h3 : (sumF kind col gs[i].items 0).isSome = true := by simpa only [Bool.not_eq_false'] using h3
      obtain ⟨n, hs⟩ := Option.isSome_iff_exists.1 h3
      have hgv : gval kind col gs[i] = some ⟨3, n, ByteArray.empty⟩ := by rw [hor (.inl h1), hs]; rfl
      rw [hs]
      obtain ⟨v, hv'⟩ : ∃ v : V, v = ⟨3, n, ByteArray.empty⟩ := ⟨_, rfl⟩
      rw [← hv'] at hgv
      rw [show sumV (some n) = v from hv'.symm]
      simp -implicitDefEqProofs only [go_sem, V.c, iA, rowA, setA]
      refine TO [(1000, some 1000)] [(2, iA kind), (3, iA col), (11, .rf 1000 0 i), (13, .ro gs[i].c 0), (14, .ro v.c 0), (26, gsA gs), (27, iA gs.length), (28, iA i)] [(1000, so ((gs.take i).map (gItem kind col)))] [1000] rfl ?_ ?_
      · (simp -implicitDefEqProofs only [go_sem, V.c, iA, Gp.c, gsA, bA]; repeat (refine GO ?_; simp -implicitDefEqProofs only [go_sem, V.c, iA, Gp.c, gsA, bA]))
        exact ⟨id, ⟨⟨by decide, _, rfl, by simp [Ob.leafy, AV.leaf, rowA, setA], rfl⟩, by decide, _, rfl, by simp [Ob.leafy, AV.leaf], rfl⟩, .same (so ((gs.take i).map (gItem kind col))) _ _ (so_leafy _) rfl⟩
      (simp -implicitDefEqProofs only [go_sem, V.c, iA, Gp.c, rowA, bA]; repeat (refine GO ?_; simp -implicitDefEqProofs only [go_sem, V.c, iA, Gp.c, rowA, bA]))
      have hla : gs[i].at_.length ≤ 1073741823 := by omega
      have s43' : Spec1 Try.prog 110 [.im 3 (gs[i].at_.map V.c)] _ := s43 gs[i].at_ (by omega)
      refine ⟨.make 54 _ s43' rfl (by simp) rfl fun q o hq _ => ?_, .make 54 _ s43' rfl (by simp) rfl fun q o hq _ => ?_⟩
      all_goals obtain ⟨rfl, rfl⟩ := hq
      all_goals (simp -implicitDefEqProofs only [go_sem, V.c, iA, Gp.c, ro3, so, w1]; repeat (refine GO ?_; simp -implicitDefEqProofs only [go_sem, V.c, iA, Gp.c, ro3, so, w1]))
      all_goals refine ⟨hla, by omega, ?_⟩
      all_goals refine BACK.mk ⟨i + 1, by omega, fun j hj hji => if e : j = i then (by subst e; rw [hgv]; simp) else hv j hj (by omega)⟩ [(1000, some 60)] rfl rfl (by show gs.length - (i + 1) < gs.length - i; omega) ?_
      all_goals (simp -implicitDefEqProofs only [go_sem, gsA, iA, so, w1]; repeat (refine GO ?_; simp -implicitDefEqProofs only [go_sem, gsA, iA, so, w1]))
      all_goals
        refine ⟨id, ?_⟩
        rw [List.take_succ_eq_append_getElem h, List.map_append, List.map_append, List.map_cons, List.map_nil, List.map_cons, List.map_nil, List.take_of_length_le (l := List.map It.c (List.map (gItem kind col) (List.take i gs))) (by simp; omega)]
        refine Es_snoc (l := List.map It.c (List.map (gItem kind col) (List.take i gs))) (fun x hx a ha => so_leafy ((gs.take i).map (gItem kind col)) x hx a ha) ?_
        (simp -implicitDefEqProofs only [go_sem, It.c, gItem, hgv, rowA, iA]; repeat (refine GO ?_; simp -implicitDefEqProofs only [go_sem, It.c, gItem, hgv, rowA, iA]))
        exact ⟨by decide, ro3 (gs[i].at_ ++ [v]), by rw [ro3, List.map_append]; rfl, ro3_leafy _, rfl, List.take_of_length_le (by simp [ro3])⟩
    have h1 : kind ≠ 1 := by simpa using h1
    (simp -implicitDefEqProofs only [go_sem, V.c, iA]; repeat (refine GO ?_; simp -implicitDefEqProofs only [go_sem, V.c, iA]))
    refine VIF.split (fun h2 => ?_) (fun h2 => ?_)
    · have h2 : kind = 2 := by simpa using h2
      (simp -implicitDefEqProofs only [go_sem, V.c, iA, rowA, setA]; repeat (refine GO ?_; simp -implicitDefEqProofs only [go_sem, V.c, iA, rowA, setA]))
      refine .pure _ s109 rfl fun r hq _ => ?_
      subst hq
      (simp -implicitDefEqProofs only [go_sem, V.c, iA, bA]; repeat (refine GO ?_; simp -implicitDefEqProofs only [go_sem, V.c, iA, bA]))
      refine VIF.split (fun h3 => ?_) (fun h3 => ?_)
      · have h3 : (sumF kind col gs[i].items 0).isSome = false := by simpa only [Bool.not_eq_true'] using h3
        have hno : gval kind col gs[i] = none := by
          rw [hor (.inr h2)]
          cases hs : sumF kind col gs[i].items 0 with
          | none => rfl
          | some n => rw [hs] at h3; cases h3
        (simp -implicitDefEqProofs only [go_sem]; repeat (refine GO ?_; simp -implicitDefEqProofs only [go_sem]))
        refine FINmk [(0, none)] [(8, .rf 0 0 0), (9, iA 11)] [(0, so [])] [0] rfl ?_ ?_
        · (simp -implicitDefEqProofs only [go_sem, iA]; repeat (refine GO ?_; simp -implicitDefEqProofs only [go_sem, iA]))
          simp [so]
        · exact bad hno
      have h3 : (sumF kind col gs[i].items 0).isSome = true := by simpa only [Bool.not_eq_false'] using h3
      obtain ⟨n, hs⟩ := Option.isSome_iff_exists.1 h3
      have hgv : gval kind col gs[i] = some ⟨3, n, ByteArray.empty⟩ := by rw [hor (.inr h2), hs]; rfl
      rw [hs]
      obtain ⟨v, hv'⟩ : ∃ v : V, v = ⟨3, n, ByteArray.empty⟩ := ⟨_, rfl⟩
      rw [← hv'] at hgv
      rw [show sumV (some n) = v from hv'.symm]
      simp -implicitDefEqProofs only [go_sem, V.c, iA, rowA, setA]
      refine TO [(1000, some 1000)] [(2, iA kind), (3, iA col), (11, .rf 1000 0 i), (13, .ro gs[i].c 0), (14, .ro v.c 0), (26, gsA gs), (27, iA gs.length), (28, iA i)] [(1000, so ((gs.take i).map (gItem kind col)))] [1000] rfl ?_ ?_
      · (simp -implicitDefEqProofs only [go_sem, V.c, iA, Gp.c, gsA, bA]; repeat (refine GO ?_; simp -implicitDefEqProofs only [go_sem, V.c, iA, Gp.c, gsA, bA]))
        exact ⟨id, ⟨⟨by decide, _, rfl, by simp [Ob.leafy, AV.leaf, rowA, setA], rfl⟩, by decide, _, rfl, by simp [Ob.leafy, AV.leaf], rfl⟩, .same (so ((gs.take i).map (gItem kind col))) _ _ (so_leafy _) rfl⟩
      (simp -implicitDefEqProofs only [go_sem, V.c, iA, Gp.c, rowA, bA]; repeat (refine GO ?_; simp -implicitDefEqProofs only [go_sem, V.c, iA, Gp.c, rowA, bA]))
      have hla : gs[i].at_.length ≤ 1073741823 := by omega
      have s43' : Spec1 Try.prog 110 [.im 3 (gs[i].at_.map V.c)] _ := s43 gs[i].at_ (by omega)
      refine ⟨.make 54 _ s43' rfl (by simp) rfl fun q o hq _ => ?_, .make 54 _ s43' rfl (by simp) rfl fun q o hq _ => ?_⟩
      all_goals obtain ⟨rfl, rfl⟩ := hq
      all_goals (simp -implicitDefEqProofs only [go_sem, V.c, iA, Gp.c, ro3, so, w1]; repeat (refine GO ?_; simp -implicitDefEqProofs only [go_sem, V.c, iA, Gp.c, ro3, so, w1]))
      all_goals refine ⟨hla, by omega, ?_⟩
      all_goals refine BACK.mk ⟨i + 1, by omega, fun j hj hji => if e : j = i then (by subst e; rw [hgv]; simp) else hv j hj (by omega)⟩ [(1000, some 60)] rfl rfl (by show gs.length - (i + 1) < gs.length - i; omega) ?_
      all_goals (simp -implicitDefEqProofs only [go_sem, gsA, iA, so, w1]; repeat (refine GO ?_; simp -implicitDefEqProofs only [go_sem, gsA, iA, so, w1]))
      all_goals
        refine ⟨id, ?_⟩
        rw [List.take_succ_eq_append_getElem h, List.map_append, List.map_append, List.map_cons, List.map_nil, List.map_cons, List.map_nil, List.take_of_length_le (l := List.map It.c (List.map (gItem kind col) (List.take i gs))) (by simp; omega)]
        refine Es_snoc (l := List.map It.c (List.map (gItem kind col) (List.take i gs))) (fun x hx a ha => so_leafy ((gs.take i).map (gItem kind col)) x hx a ha) ?_
        (simp -implicitDefEqProofs only [go_sem, It.c, gItem, hgv, rowA, iA]; repeat (refine GO ?_; simp -implicitDefEqProofs only [go_sem, It.c, gItem, hgv, rowA, iA]))
        exact ⟨by decide, ro3 (gs[i].at_ ++ [v]), by rw [ro3, List.map_append]; rfl, ro3_leafy _, rfl, List.take_of_length_le (by simp [ro3])⟩
    have h2 : kind ≠ 2 := by simpa using h2
    rw [if_neg h1]
    have hgv : gval kind col gs[i] = some (bestF kind col gs[i].items V.nul) := by simp [gval, h1, h2]
    simp -implicitDefEqProofs only [go_sem, V.c, iA]
    generalize bestF kind col gs[i].items V.nul = v at hgv ⊢
    refine TO [(1000, some 1000)] [(2, iA kind), (3, iA col), (11, .rf 1000 0 i), (13, .ro gs[i].c 0), (14, .ro v.c 0), (15, bA true), (26, gsA gs), (27, iA gs.length), (28, iA i)] [(1000, so ((gs.take i).map (gItem kind col)))] [1000] rfl ?_ ?_
    · (simp -implicitDefEqProofs only [go_sem, V.c, iA, Gp.c, gsA, bA]; repeat (refine GO ?_; simp -implicitDefEqProofs only [go_sem, V.c, iA, Gp.c, gsA, bA]))
      exact ⟨id, ⟨⟨by decide, _, rfl, by simp [Ob.leafy, AV.leaf, rowA, setA], rfl⟩, by decide, _, rfl, by simp [Ob.leafy, AV.leaf], rfl⟩, .same (so ((gs.take i).map (gItem kind col))) _ _ (so_leafy _) rfl⟩
    (simp -implicitDefEqProofs only [go_sem, V.c, iA, Gp.c, rowA, bA]; repeat (refine GO ?_; simp -implicitDefEqProofs only [go_sem, V.c, iA, Gp.c, rowA, bA]))
    have hla : gs[i].at_.length ≤ 1073741823 := by omega
    have s43' : Spec1 Try.prog 110 [.im 3 (gs[i].at_.map V.c)] _ := s43 gs[i].at_ (by omega)
    refine ⟨.make 54 _ s43' rfl (by simp) rfl fun q o hq _ => ?_, .make 54 _ s43' rfl (by simp) rfl fun q o hq _ => ?_⟩
    all_goals obtain ⟨rfl, rfl⟩ := hq
    all_goals (simp -implicitDefEqProofs only [go_sem, V.c, iA, Gp.c, ro3, so, w1]; repeat (refine GO ?_; simp -implicitDefEqProofs only [go_sem, V.c, iA, Gp.c, ro3, so, w1]))
    all_goals refine ⟨hla, by omega, ?_⟩
    all_goals refine BACK.mk ⟨i + 1, by omega, fun j hj hji => if e : j = i then (by subst e; rw [hgv]; simp) else hv j hj (by omega)⟩ [(1000, some 60)] rfl rfl (by show gs.length - (i + 1) < gs.length - i; omega) ?_
    all_goals (simp -implicitDefEqProofs only [go_sem, gsA, iA, so, w1]; repeat (refine GO ?_; simp -implicitDefEqProofs only [go_sem, gsA, iA, so, w1]))
    all_goals
      refine ⟨id, ?_⟩
      rw [List.take_succ_eq_append_getElem h, List.map_append, List.map_append, List.map_cons, List.map_nil, List.map_cons, List.map_nil, List.take_of_length_le (l := List.map It.c (List.map (gItem kind col) (List.take i gs))) (by simp; omega)]
      refine Es_snoc (l := List.map It.c (List.map (gItem kind col) (List.take i gs))) (fun x hx a ha => so_leafy ((gs.take i).map (gItem kind col)) x hx a ha) ?_
      (simp -implicitDefEqProofs only [go_sem, It.c, gItem, hgv, rowA, iA]; repeat (refine GO ?_; simp -implicitDefEqProofs only [go_sem, It.c, gItem, hgv, rowA, iA]))
      exact ⟨by decide, ro3 (gs[i].at_ ++ [v]), by rw [ro3, List.map_append]; rfl, ro3_leafy _, rfl, List.take_of_length_le (by simp [ro3])⟩
  · have h : i = gs.length := by simp at h; omega
    subst h
    rw [List.take_length]
    simp -implicitDefEqProofs only [go_sem]
    refine FRZ 1000 (so (gs.map (gItem kind col))) rfl (so_leafy _) ?_
    have tk : List.take gs.length (List.map It.c (List.map (gItem kind col) gs)) = List.map It.c (List.map (gItem kind col) gs) := List.take_of_length_le (by simp)
    (simp -implicitDefEqProofs only [go_sem, so, tk]; repeat (refine GO ?_; simp -implicitDefEqProofs only [go_sem, so, tk]))
    have hgr : ∀ t ∈ gs.map (gItem kind col), t.row.length < 1073741824 := fun t ht => by
      obtain ⟨g, hgm, rfl⟩ := List.mem_map.1 ht
      have := hg.atlen g hgm
      simp [gItem]; omega
    refine .make 63 _ (show Spec1 Try.prog 76 [setA (gs.map (gItem kind col))] _ from s11 (gs.map (gItem kind col)) (by simp; omega) hgr) rfl (by simp) rfl fun q o hq _ => ?_
    obtain ⟨out, err, rfl, rfl, hm⟩ := hq
    (simp -implicitDefEqProofs only [go_sem, iA]; repeat (refine GO ?_; simp -implicitDefEqProofs only [go_sem, iA]))
    refine FINmk [(0, some 63)] [(8, .rf 0 0 out.length), (9, iA err)] [(0, so out)] [0] rfl ?_ ?_
    · (simp -implicitDefEqProofs only [go_sem, iA, so]; repeat (refine GO ?_; simp -implicitDefEqProofs only [go_sem, iA, so]))
      exact .same (so out) _ _ (so_leafy out) rfl
    · have hall : ∀ g ∈ gs, gval kind col g ≠ none := fun g hg' => by
        obtain ⟨j, hj, rfl⟩ := List.mem_iff_getElem.1 hg'
        exact hv j hj hj
      exact ⟨so out, ⟨⟨out, err, rfl, rfl, .inr ⟨hw, gs, hg, hgl, .inr ⟨hall, hm⟩⟩⟩, rfl⟩, so_leafy out, rfl⟩
end Yt
namespace Yt
open Go Go.Vc Go.Proofs
set_option maxRecDepth 10000
set_option maxHeartbeats 8000000
set_option linter.unusedSimpArgs false
set_option linter.unusedVariables false
def wV (v : V) : V := if v.k = 3 then ⟨v.k, v.i.tmod 1000, v.s⟩ else v
def wI (t : It) : It := ⟨t.row.map wV, t.w.tmod 4⟩
def wOk (t : It) : Bool := decide (okR t.row = 0) && decide (2 ≤ t.row.length)
def wL (l : List It) : List It := (l.filter wOk).map wI
def wUp (r : List V) (k : Nat) : List V := (r.take k).map wV ++ r.drop k
theorem wUp_len (r : List V) (k : Nat) : (wUp r k).length = r.length := by simp [wUp]; omega
theorem wUp_at {r : List V} {k : Nat} (h : k < r.length) : (wUp r k)[k]'(by rw [wUp_len]; exact h) = r[k] := by
  simp only [wUp]
  rw [List.getElem_append_right (by simp; omega)]
  simp [Nat.min_eq_left (Nat.le_of_lt h)]
theorem wUp_set {r : List V} {k : Nat} (h : k < r.length) : (wUp r k).set k (wV r[k]) = wUp r (k + 1) := by
  simp only [wUp]
  rw [List.set_append_right _ _ (by simp; omega), List.take_succ_eq_append_getElem h, List.map_append, List.length_map, List.length_take, Nat.min_eq_left (Nat.le_of_lt h), Nat.sub_self, List.drop_eq_getElem_cons h, List.set_cons_zero]
  simp
theorem wUp_skip {r : List V} {k : Nat} (h : k < r.length) (hk : r[k].k ≠ 3) : wUp r k = wUp r (k + 1) := by
  have h1 : k < (wUp r k).length := by rw [wUp_len]; exact h
  have e := List.set_getElem_self h1
  rw [wUp_at h] at e
  rw [← wUp_set h, wV, if_neg hk, e]
theorem wUp_full (r : List V) : wUp r r.length = r.map wV := by simp [wUp]
theorem wUp_zero (r : List V) : wUp r 0 = r := by simp [wUp]
theorem wL_snoc {l : List It} {i : Nat} (h : i < l.length) : wL (l.take (i + 1)) = if wOk l[i] then wL (l.take i) ++ [wI l[i]] else wL (l.take i) := by
  rw [List.take_succ_eq_append_getElem h]
  simp only [wL, List.filter_append, List.map_append]
  split
  · rename_i h2; simp [h2]
  · rename_i h2; simp [h2]
theorem wL_rows {l : List It} {k j : Nat} (h : ∀ t ∈ l, t.row.length < k) : ∀ t ∈ wL (l.take j), t.row.length < k := fun t ht => by
  obtain ⟨u, hu, rfl⟩ := List.mem_map.1 ht
  have := h u (List.mem_of_mem_take (List.mem_filter.1 hu).1)
  simpa [wI] using this
theorem c66 (l : List It) (hl : l.length ≤ 1048576) (hr : ∀ t ∈ l, t.row.length < 1073741824) : Spec0 Try.prog 66 [setA l] (fun r => ∃ (z : List It), r = setA z ∧ ∃ err : Int, MakeR (wL (l.take 40)) z err) := by
  refine spec0_of_vc tabOk elems ord66 Try.func66 rfl (rl := [.tmp 2]) rfl (by kernel_rfl) rfl ?_
  (simp -implicitDefEqProofs only [go_sem, setA]; repeat (refine GO ?_; simp -implicitDefEqProofs only [go_sem, setA]))
  refine LOOP.mk (ι := { i : Nat // i ≤ l.length ∧ i ≤ 40 }) (fun p => mkS [(0, setA l), (3, .rf 1000 0 (wL (l.take p.1)).length), (4, iA p.1)] [(1000, so (wL (l.take p.1)))] [1000])
    (fun p => l.length - p.1) ⟨0, Nat.zero_le _, Nat.zero_le _⟩ [(1000, none)] rfl rfl ?_ (fun p => ?_)
  · (simp -implicitDefEqProofs only [go_sem, setA, iA, so]; repeat (refine GO ?_; simp -implicitDefEqProofs only [go_sem, setA, iA, so]))
    simp [wL]
  obtain ⟨i, hi, hi2⟩ := p
  (simp -implicitDefEqProofs only [go_sem, setA, iA]; repeat (refine GO ?_; simp -implicitDefEqProofs only [go_sem, setA, iA]))
  have fin : ∀ j, j ≤ l.length → (j = l.length ∨ j = 40) → j ≤ 40 → wL (l.take j) = wL (l.take 40) := fun j h1 h2 h3 => by
    rcases h2 with rfl | rfl
    · rw [List.take_length, List.take_of_length_le h3]
    · rfl
  have hlen : ∀ j, (wL (l.take j)).length ≤ l.length := fun j => by
    simp only [wL, List.length_map]
    have h1 := List.length_filter_le wOk (l.take j)
    rw [List.length_take] at h1; omega
  have done : ∀ hd : i = l.length ∨ i = 40, ∀ s : St, True := fun _ _ => trivial
  refine VIF.split (fun h => ?_) (fun h => ?_)
  · have h : i < l.length := by simpa using h
    have hm := List.getElem_mem h
    have hrl := hr _ hm
    have w1 := wrap_add1 (show i < 4611686018427387904 by omega)
    (simp -implicitDefEqProofs only [go_sem]; repeat (refine GO ?_; simp -implicitDefEqProofs only [go_sem]))
    refine VIF.split (fun h2 => ?_) (fun h2 => ?_)
    · have h2 : i < 40 := by simp at h2; omega
      (simp -implicitDefEqProofs only [go_sem]; repeat (refine GO ?_; simp -implicitDefEqProofs only [go_sem]))
      refine EL.map h ?_
      (simp -implicitDefEqProofs only [go_sem, It.c, rowA]; repeat (refine GO ?_; simp -implicitDefEqProofs only [go_sem, It.c, rowA]))
      refine .pure _ (show Spec0 Try.prog 86 [rowA l[i].row] _ from s17 l[i].row (by omega)) rfl fun r hq _ => ?_
      subst hq
      (simp -implicitDefEqProofs only [go_sem, iA]; repeat (refine GO ?_; simp -implicitDefEqProofs only [go_sem, iA]))
      refine VIF.split (fun h3 => ?_) (fun h3 => ?_)
      · have h3 : okR l[i].row ≠ 0 := by simpa using h3
        have hno : wOk l[i] = false := by simp [wOk, h3]
        have hs := wL_snoc h
        rw [hno, if_neg (by decide)] at hs
        (simp -implicitDefEqProofs only [go_sem, w1]; repeat (refine GO ?_; simp -implicitDefEqProofs only [go_sem, w1]))
        refine BACK.mk ⟨i + 1, by omega, by omega⟩ [(1000, some 1000)] rfl rfl (by show l.length - (i + 1) < l.length - i; omega) ?_
        (simp -implicitDefEqProofs only [go_sem, setA, iA, w1, so, hs]; repeat (refine GO ?_; simp -implicitDefEqProofs only [go_sem, setA, iA, w1, so, hs]))
        exact ⟨id, .same (so (wL (l.take i))) _ _ (so_leafy _) rfl⟩
      have h3 : okR l[i].row = 0 := by simpa using h3
      (simp -implicitDefEqProofs only [go_sem]; repeat (refine GO ?_; simp -implicitDefEqProofs only [go_sem]))
      refine EL.map h ?_
      (simp -implicitDefEqProofs only [go_sem, It.c, rowA]; repeat (refine GO ?_; simp -implicitDefEqProofs only [go_sem, It.c, rowA]))
      refine VIF.split (fun h4 => ?_) (fun h4 => ?_)
      · have h4 : l[i].row.length < 2 := by simp at h4; omega
        have hno : wOk l[i] = false := by simp [wOk]; omega
        have hs := wL_snoc h
        rw [hno, if_neg (by decide)] at hs
        (simp -implicitDefEqProofs only [go_sem, w1]; repeat (refine GO ?_; simp -implicitDefEqProofs only [go_sem, w1]))
        refine BACK.mk ⟨i + 1, by omega, by omega⟩ [(1000, some 1000)] rfl rfl (by show l.length - (i + 1) < l.length - i; omega) ?_
        (simp -implicitDefEqProofs only [go_sem, setA, iA, w1, so, hs]; repeat (refine GO ?_; simp -implicitDefEqProofs only [go_sem, setA, iA, w1, so, hs]))
        exact ⟨id, .same (so (wL (l.take i))) _ _ (so_leafy _) rfl⟩
      have h4 : 2 ≤ l[i].row.length := by simp at h4; omega
      have hyes : wOk l[i] = true := by simp [wOk, h3, h4]
      have hs := wL_snoc h
      rw [hyes, if_pos rfl] at hs
      (simp -implicitDefEqProofs only [go_sem]; repeat (refine GO ?_; simp -implicitDefEqProofs only [go_sem]))
      refine EL.map h ?_
      (simp -implicitDefEqProofs only [go_sem, It.c, rowA]; repeat (refine GO ?_; simp -implicitDefEqProofs only [go_sem, It.c, rowA]))
      refine .make 40 _ (show Spec1 Try.prog 45 [rowA l[i].row] _ from s52 l[i].row (by omega)) rfl (by simp) rfl fun q o hq _ => ?_
      obtain ⟨rfl, rfl⟩ := hq
      (simp -implicitDefEqProofs only [go_sem]; repeat (refine GO ?_; simp -implicitDefEqProofs only [go_sem]))
      refine LOOP.mk (ι := { k : Nat // k ≤ l[i].row.length }) (fun k => mkS [(0, setA l), (3, .rf 1000 0 (wL (l.take i)).length), (4, iA i), (5, .rf 1001 0 l[i].row.length), (6, iA k.1)] [(1000, so (wL (l.take i))), (1001, ro3 (wUp l[i].row k.1))] [1000, 1001])
        (fun k => l[i].row.length - k.1) ⟨0, Nat.zero_le _⟩ [(1000, some 1000), (1001, some 40)] rfl rfl ?_ (fun k => ?_)
      · (simp -implicitDefEqProofs only [go_sem, setA, iA, so, ro3, wUp_zero]; repeat (refine GO ?_; simp -implicitDefEqProofs only [go_sem, setA, iA, so, ro3, wUp_zero]))
        exact ⟨id, rfl, .same (so (wL (l.take i))) _ _ (so_leafy _) rfl, .same (ro3 l[i].row) _ _ (ro3_leafy _) rfl⟩
      obtain ⟨k, hk⟩ := k
      (simp -implicitDefEqProofs only [go_sem, setA, iA, ro3]; repeat (refine GO ?_; simp -implicitDefEqProofs only [go_sem, setA, iA, ro3]))
      refine VIF.split (fun h5 => ?_) (fun h5 => ?_)
      · have h5 : k < l[i].row.length := by simpa using h5
        have h5' : k < (wUp l[i].row k).length := by rw [wUp_len]; exact h5
        have hat := wUp_at h5
        have w2 := wrap_add1 (show k < 4611686018427387904 by omega)
        (simp -implicitDefEqProofs only [go_sem]; repeat (refine GO ?_; simp -implicitDefEqProofs only [go_sem]))
        refine ⟨by omega, EL.map h5' ?_⟩
        rw [hat]
        (simp -implicitDefEqProofs only [go_sem, V.c, iA]; repeat (refine GO ?_; simp -implicitDefEqProofs only [go_sem, V.c, iA]))
        refine VIF.split (fun h6 => ?_) (fun h6 => ?_)
        · have h6 : l[i].row[k].k = 3 := by simpa using h6
          (simp -implicitDefEqProofs only [go_sem]; repeat (refine GO ?_; simp -implicitDefEqProofs only [go_sem]))
          refine ⟨by omega, EL.map h5' ?_⟩
          rw [hat]
          (simp -implicitDefEqProofs only [go_sem, V.c, iA, w2]; repeat (refine GO ?_; simp -implicitDefEqProofs only [go_sem, V.c, iA, w2]))
          have e1 : (List.map V.c (wUp l[i].row k)).set k [.pr (.int .i64 l[i].row[k].k), .pr (.int .i64 (l[i].row[k].i.tmod 1000)), .pr (.string l[i].row[k].s)] = List.map V.c (wUp l[i].row (k + 1)) := by
            rw [← wUp_set h5, List.map_set, wV, if_pos h6]; rfl
          have w5 : IntKind.i64.wrap (l[i].row[k].i.tmod 1000) = l[i].row[k].i.tmod 1000 := by
            have := tmod_bound l[i].row[k].i 1000 (by decide)
            rw [wrap_i64] <;> omega
          refine ⟨by decide, by omega, EL.map h5' ?_⟩
          rw [hat]
          (simp -implicitDefEqProofs only [go_sem, V.c, iA, w2]; repeat (refine GO ?_; simp -implicitDefEqProofs only [go_sem, V.c, iA, w2]))
          refine BACK.mk ⟨k + 1, by omega⟩ [(1000, some 1000), (1001, some 1001)] rfl rfl (by show l[i].row.length - (k + 1) < l[i].row.length - k; omega) ?_
          (simp -implicitDefEqProofs only [go_sem, setA, iA, so, ro3, w2]; repeat (refine GO ?_; simp -implicitDefEqProofs only [go_sem, setA, iA, so, ro3, w2]))
          exact ⟨id, .same (so (wL (l.take i))) _ _ (so_leafy _) rfl, .same (ro3 (wUp l[i].row (k + 1))) _ _ (fun x hx => ro3_leafy (wUp l[i].row (k + 1)) x (by rw [ro3]; exact e1 ▸ hx)) e1⟩
        · have h6 : l[i].row[k].k ≠ 3 := by simpa using h6
          (simp -implicitDefEqProofs only [go_sem, w2]; repeat (refine GO ?_; simp -implicitDefEqProofs only [go_sem, w2]))
          refine BACK.mk ⟨k + 1, by omega⟩ [(1000, some 1000), (1001, some 1001)] rfl rfl (by show l[i].row.length - (k + 1) < l[i].row.length - k; omega) ?_
          (simp -implicitDefEqProofs only [go_sem, setA, iA, so, ro3, w2, ← wUp_skip h5 h6]; repeat (refine GO ?_; simp -implicitDefEqProofs only [go_sem, setA, iA, so, ro3, w2, ← wUp_skip h5 h6]))
          exact ⟨id, .same (so (wL (l.take i))) _ _ (so_leafy _) rfl, .same (ro3 (wUp l[i].row k)) _ _ (ro3_leafy _) rfl⟩
      · have h5 : k = l[i].row.length := by simp at h5; omega
        subst h5
        (simp -implicitDefEqProofs only [go_sem]; repeat (refine GO ?_; simp -implicitDefEqProofs only [go_sem]))
        refine EL.map h ?_
        (simp -implicitDefEqProofs only [go_sem, It.c, iA, w1, so, ro3]; repeat (refine GO ?_; simp -implicitDefEqProofs only [go_sem, It.c, iA, w1, so, ro3]))
        have w4 : IntKind.i64.wrap (l[i].w.tmod 4) = l[i].w.tmod 4 := by
          have := tmod_bound l[i].w 4 (by decide)
          rw [wrap_i64] <;> omega
        have hll := hlen i
        refine ⟨by decide, by omega, ?_⟩
        (simp -implicitDefEqProofs only [go_sem, It.c, iA, w1, w4, so, ro3]; repeat (refine GO ?_; simp -implicitDefEqProofs only [go_sem, It.c, iA, w1, w4, so, ro3]))
        refine BACK.mk ⟨i + 1, by omega, by omega⟩ [(1000, some 73)] rfl rfl (by show l.length - (i + 1) < l.length - i; omega) ?_
        (simp -implicitDefEqProofs only [go_sem, setA, iA, so, w1]; repeat (refine GO ?_; simp -implicitDefEqProofs only [go_sem, setA, iA, so, w1]))
        refine ⟨fun h => h, by rw [hs]; simp, ?_⟩
        rw [hs, List.map_append, List.map_cons, List.map_nil]
        refine Es_snoc (l := List.map It.c (wL (l.take i))) (fun x hx a ha => so_leafy (wL (l.take i)) x hx a ha) ?_
        (simp -implicitDefEqProofs only [go_sem, It.c, wI, rowA, iA]; repeat (refine GO ?_; simp -implicitDefEqProofs only [go_sem, It.c, wI, rowA, iA]))
        exact ⟨by decide, ro3 (wUp l[i].row l[i].row.length), by rw [ro3], ro3_leafy _, rfl, by rw [wUp_full]; exact List.take_of_length_le (by simp [ro3, wUp_full])⟩
    · have h2 : i = 40 := by simp at h2; omega
      subst h2
      have fn := fin 40 hi (.inr rfl) (Nat.le_refl _)
      simp -implicitDefEqProofs only [go_sem]
      refine FRZ 1000 (so (wL (l.take 40))) rfl (so_leafy _) ?_
      have tk : List.take (wL (l.take 40)).length (List.map It.c (wL (l.take 40))) = List.map It.c (wL (l.take 40)) := List.take_of_length_le (by simp)
      (simp -implicitDefEqProofs only [go_sem, so, tk]; repeat (refine GO ?_; simp -implicitDefEqProofs only [go_sem, so, tk]))
      refine .pure _ (show Spec0 Try.prog 79 [setA (wL (l.take 40))] _ from Spec1.setE (s26 (wL (l.take 40)) (by have := hlen 40; omega) (wL_rows hr))) rfl fun r hq _ => ?_
      obtain ⟨out, err, rfl, hm⟩ := hq
      (simp -implicitDefEqProofs only [go_sem, iA, setA]; repeat (refine GO ?_; simp -implicitDefEqProofs only [go_sem, iA, setA]))
      exact ⟨out, rfl, err, by rw [← fn]; exact hm⟩
  · have h : i = l.length := by simp at h; omega
    subst h
    have fn := fin l.length (Nat.le_refl _) (.inl rfl) hi2
    simp -implicitDefEqProofs only [go_sem]
    refine FRZ 1000 (so (wL (l.take l.length))) rfl (so_leafy _) ?_
    have tk : List.take (wL (l.take l.length)).length (List.map It.c (wL (l.take l.length))) = List.map It.c (wL (l.take l.length)) := List.take_of_length_le (by simp)
    (simp -implicitDefEqProofs only [go_sem, so, tk]; repeat (refine GO ?_; simp -implicitDefEqProofs only [go_sem, so, tk]))
    refine .pure _ (show Spec0 Try.prog 79 [setA (wL (l.take l.length))] _ from Spec1.setE (s26 (wL (l.take l.length)) (by have := hlen l.length; omega) (wL_rows hr))) rfl fun r hq _ => ?_
    obtain ⟨out, err, rfl, hm⟩ := hq
    (simp -implicitDefEqProofs only [go_sem, iA, setA]; repeat (refine GO ?_; simp -implicitDefEqProofs only [go_sem, iA, setA]))
    exact ⟨out, rfl, err, by rw [← fn]; exact hm⟩
end Yt
namespace Yt
open Go Go.Vc Go.Proofs
set_option maxRecDepth 10000
set_option maxHeartbeats 1000000
set_option linter.unusedSimpArgs false
set_option linter.unusedVariables false
/-- A small set, of rows of two columns at least, of small numbers. -/
structure Wd (z : List It) (n : Nat) (b : Int) : Prop where
  good : Good z
  len : z.length ≤ 40 * n
  tot : ∀ r, -(120 * (n : Int)) ≤ Yt.tot r z ∧ Yt.tot r z ≤ 120 * n
  two : ∀ t ∈ z, 2 ≤ t.row.length
  num : ∀ t ∈ z, ∀ v ∈ t.row, v.k = 3 → -b ≤ v.i ∧ v.i ≤ b
theorem Wd.made {z : List It} {n : Nat} {b : Int} (h : Wd z n b) : Made z := (good_made.1 h.good).1
theorem Wd.ok {z : List It} {n : Nat} {b : Int} (h : Wd z n b) {t : It} (ht : t ∈ z) : okR t.row = 0 := (good_made.1 h.good).2 t ht
theorem Wd.w {z : List It} {n : Nat} {b : Int} (h : Wd z n b) : ∀ t ∈ z, -(120 * (n : Int)) ≤ t.w ∧ t.w ≤ 120 * n := fun t ht => by
  rw [← tot_made h.made ht]; exact h.tot _
theorem okR_len {r : List V} (h : okR r = 0) : r.length ≤ 12 := by
  simp only [okR] at h
  split at h
  · cases h
  · omega
theorem okR_all {r : List V} : okR r = 0 ↔ r.length ≤ 12 ∧ ∀ v ∈ r, okV v = true := by
  simp only [okR]
  split
  · simp; omega
  · split
    · rename_i h1 h2; simp at h2; simp; exact ⟨by omega, h2⟩
    · rename_i h1 h2; simp at h2; simp; obtain ⟨v, hv, hv2⟩ := h2; exact fun _ => ⟨v, hv, hv2⟩
theorem Wd.r40 {z : List It} {n : Nat} {b : Int} (h : Wd z n b) : ∀ t ∈ z, t.row.length < 1073741824 := fun t ht => by have := okR_len (h.ok ht); omega
theorem Wd.sub {x z : List It} {n : Nat} {b : Int} (h : Wd z n b) (hs : x.Sublist z) : Wd x n b :=
  ⟨good_sub h.good hs, by have := hs.length_le; have := h.len; omega, made_tot (good_made.1 (good_sub h.good hs)).1 (by omega) fun t ht => h.w t (hs.subset ht), fun t ht => h.two t (hs.subset ht), fun t ht => h.num t (hs.subset ht)⟩
theorem Wd.nil (n : Nat) (b : Int) : Wd [] n b := ⟨good_made.2 ⟨⟨.nil, by simp⟩, by simp⟩, by simp, fun r => by simp [Yt.tot]; omega, by simp, by simp⟩
theorem Wd.add {x y out : List It} {i j : Nat} {b err : Int} (hx : Wd x i b) (hy : Wd y j b) (hij : i + j ≤ 100) (h : AddR x y out err) : err = 0 ∧ Wd out (i + j) b ∧ ∀ r, Yt.tot r out = Yt.tot r x + Yt.tot r y := by
  have hm : MakeR (x ++ y) out err := by
    rcases h with ⟨h, _⟩ | ⟨_, _, h⟩
    · exact absurd ⟨hx.good, hy.good⟩ h
    · exact h
  have hfine : ((x ++ y).any fun t => !okI t) = false := by
    rw [List.any_eq_false]; intro t ht
    rcases List.mem_append.1 ht with ht | ht
    · simp [okI, hx.ok ht, (hx.made.nz t ht).2]
    · simp [okI, hy.ok ht, (hy.made.nz t ht).2]
  have hb : ∀ r, -(120 * ((i + j : Nat) : Int)) ≤ Yt.tot r (x ++ y) ∧ Yt.tot r (x ++ y) ≤ 120 * ((i + j : Nat) : Int) := fun r => by
    have h1 := hx.tot r
    have h2 := hy.tot r
    rw [tot_append]; omega
  obtain ⟨h1, h2, h3, h4, h5⟩ := makeR_fine hm hfine fun r => by
    have := hb r
    simp only [okW, inB, Bool.and_eq_true, decide_eq_true_eq]; omega
  have hu : ∀ t ∈ out, ∃ u ∈ x ++ y, u.row = t.row := fun t ht => (h4 t ht).2
  refine ⟨h1, ⟨good_made.2 ⟨h2, fun t ht => (h4 t ht).1⟩, ?_, fun r => by rw [h3]; exact hb r, fun t ht => ?_, fun t ht => ?_⟩, fun r => by rw [h3, tot_append]⟩
  · have := hx.len; have := hy.len
    rw [List.length_append] at h5; omega
  · obtain ⟨u, hu, e⟩ := hu t ht
    rw [← e]
    rcases List.mem_append.1 hu with hu | hu
    · exact hx.two u hu
    · exact hy.two u hu
  · obtain ⟨u, hu, e⟩ := hu t ht
    rw [← e]
    rcases List.mem_append.1 hu with hu | hu
    · exact hx.num u hu
    · exact hy.num u hu
theorem wV_ok {v : V} (h : okV v = true) : okV (wV v) = true ∧ ((wV v).k = 3 → -1000 ≤ (wV v).i ∧ (wV v).i ≤ 1000) := by
  simp only [wV]
  split
  · rename_i h3
    have := tmod_bound v.i 1000 (by decide)
    simp only [okV, h3, inB] at h ⊢
    simp at h ⊢
    refine ⟨⟨by omega, h.2⟩, by omega⟩
  · rename_i h3
    exact ⟨h, fun e => absurd e h3⟩
theorem ok_of {w : Int} (h1 : -72057594037927936 ≤ w) (h2 : w ≤ 72057594037927936) : okW w = true := by simp [okW, inB, h1, h2]
theorem wL_ok {l : List It} {t : It} (ht : t ∈ wL l) : okI t = true ∧ 2 ≤ t.row.length ∧ (∀ v ∈ t.row, v.k = 3 → -1000 ≤ v.i ∧ v.i ≤ 1000) ∧ -3 ≤ t.w ∧ t.w ≤ 3 := by
  obtain ⟨u, hu, rfl⟩ := List.mem_map.1 ht
  obtain ⟨hu, hok⟩ := List.mem_filter.1 hu
  simp only [wOk, Bool.and_eq_true, decide_eq_true_eq] at hok
  obtain ⟨hok, h2⟩ := hok
  have hall := okR_all.1 hok
  have hw := tmod_bound u.w 4 (by decide)
  refine ⟨?_, by simpa [wI] using h2, fun v hv => ?_, by simp only [wI]; omega, by simp only [wI]; omega⟩
  · simp only [okI, Bool.and_eq_true, decide_eq_true_eq]
    refine ⟨okR_all.2 ⟨by simpa [wI] using hall.1, fun v hv => ?_⟩, ?_⟩
    · obtain ⟨v0, hv0, rfl⟩ := List.mem_map.1 hv
      exact (wV_ok (hall.2 v0 hv0)).1
    · exact ok_of (by simp only [wI]; omega) (by simp only [wI]; omega)
  · obtain ⟨v0, hv0, rfl⟩ := List.mem_map.1 hv
    exact (wV_ok (hall.2 v0 hv0)).2
theorem wide_wd {l z : List It} {err : Int} (h : MakeR (wL (l.take 40)) z err) : Wd z 1 1000 := by
  have hfine : ((wL (l.take 40)).any fun t => !okI t) = false := by
    rw [List.any_eq_false]; intro t ht; simp [(wL_ok ht).1]
  have hl : (wL (l.take 40)).length ≤ 40 := by
    simp only [wL, List.length_map]
    have := List.length_filter_le wOk (l.take 40)
    rw [List.length_take] at this; omega
  have hb : ∀ r, -120 ≤ Yt.tot r (wL (l.take 40)) ∧ Yt.tot r (wL (l.take 40)) ≤ 120 := fun r => by
    have := tot_bound (z := wL (l.take 40)) (k := 3) (by decide) (fun t ht => (wL_ok ht).2.2.2) r
    omega
  obtain ⟨h1, h2, h3, h4, h5⟩ := makeR_fine h hfine fun r => by
    have := hb r
    simp only [okW, inB, Bool.and_eq_true, decide_eq_true_eq]; omega
  refine ⟨good_made.2 ⟨h2, fun t ht => (h4 t ht).1⟩, by omega, fun r => by rw [h3]; have := hb r; omega, fun t ht => ?_, fun t ht => ?_⟩
  · obtain ⟨u, hu, e⟩ := (h4 t ht).2
    rw [← e]; exact (wL_ok hu).2.1
  · obtain ⟨u, hu, e⟩ := (h4 t ht).2
    rw [← e]; exact (wL_ok hu).2.2.1
/-- The keys of groups, as a set. -/
def keyL (gs : List Gp) : List It := gs.map fun g => ⟨g.at_, 1⟩
theorem keyL_made {cols : List Int} {y : List It} {gs : List Gp} (h : GpI cols y gs) : Made (keyL gs) :=
  ⟨by rw [keyL, List.pairwise_map]; exact h.up, fun t ht => by
    obtain ⟨g, _, rfl⟩ := List.mem_map.1 ht
    exact ⟨by simp, by simp [okW, inB]⟩⟩
theorem tot_one {o : List It} (h : Made o) (h1 : ∀ t ∈ o, t.w = 1) (r : List V) : (tot r o = 1 ∧ ∃ t ∈ o, t.row = r) ∨ (tot r o = 0 ∧ ¬ ∃ t ∈ o, t.row = r) := by
  by_cases e : ∃ t ∈ o, t.row = r
  · obtain ⟨t, ht, rfl⟩ := e
    exact .inl ⟨by rw [tot_made h ht, h1 t ht], t, ht, rfl⟩
  · refine .inr ⟨?_, e⟩
    have := tot_there h r
    by_cases e2 : tot r o = 0
    · exact e2
    · exact absurd (this.1 e2) e
theorem ones_eq {x y : List It} (hx : Made x) (hy : Made y) (h1 : ∀ t ∈ x, t.w = 1) (h2 : ∀ t ∈ y, t.w = 1) (h : ∀ r, (∃ t ∈ x, t.row = r) ↔ ∃ t ∈ y, t.row = r) : x = y :=
  made_eq hx hy fun r => by
    rcases tot_one hx h1 r with ⟨a, b⟩ | ⟨a, b⟩ <;> rcases tot_one hy h2 r with ⟨c, d⟩ | ⟨c, d⟩
    · rw [a, c]
    · exact absurd ((h r).1 b) d
    · exact absurd ((h r).2 d) b
    · rw [a, c]
theorem keyL_one {gs : List Gp} : ∀ t ∈ keyL gs, t.w = 1 := fun t ht => by
  obtain ⟨g, _, rfl⟩ := List.mem_map.1 ht; rfl
theorem GpI.has {cols : List Int} {y : List It} {gs : List Gp} (h : GpI cols y gs) (r : List V) : (∃ g ∈ gs, g.at_ = r) ↔ ∃ t ∈ y, ¬ t.w < 0 ∧ pickR t.row cols = r := by
  constructor
  · rintro ⟨g, hg, rfl⟩
    obtain ⟨t, ht⟩ := List.exists_mem_of_ne_nil _ (h.some g hg)
    rw [h.items g hg, List.mem_filter] at ht
    obtain ⟨h1, h2⟩ := ht
    simp at h2
    exact ⟨t, h1, by omega, lin_cmpR.eq _ _ h2.2⟩
  · rintro ⟨t, ht, hw, rfl⟩
    exact h.all t ht hw
theorem keyL_has {gs : List Gp} (r : List V) : (∃ t ∈ keyL gs, t.row = r) ↔ ∃ g ∈ gs, g.at_ = r := by
  constructor
  · rintro ⟨t, ht, e⟩
    obtain ⟨g, hg, rfl⟩ := List.mem_map.1 ht
    exact ⟨g, hg, e⟩
  · rintro ⟨g, hg, e⟩
    exact ⟨_, List.mem_map_of_mem hg, e⟩
/-- The group of a key. -/
def gOf (cols : List Int) (y : List It) (k : List V) : Gp := ⟨k, y.filter fun t => !decide (t.w < 0) && decide (cmpR (pickR t.row cols) k = 0)⟩
theorem GpI.canon {cols : List Int} {y : List It} {gs : List Gp} (h : GpI cols y gs) : gs = (keyL gs).map fun t => gOf cols y t.row := by
  rw [keyL, List.map_map]
  conv => lhs; rw [← List.map_id gs]
  refine List.map_congr_left fun g hg => ?_
  simp only [id, Function.comp, gOf]
  rw [← h.items g hg]
/-- Groups are those of any set with the same items behind each key. -/
theorem GpI.same {cols : List Int} {y y' : List It} {gs gs' : List Gp} (h : GpI cols y gs) (h' : GpI cols y' gs') (hk : ∀ r, (∃ t ∈ y, ¬ t.w < 0 ∧ pickR t.row cols = r) ↔ ∃ t ∈ y', ¬ t.w < 0 ∧ pickR t.row cols = r)
    (hi : ∀ r, gOf cols y r = gOf cols y' r) : gs = gs' := by
  rw [h.canon, h'.canon]
  have : keyL gs = keyL gs' := ones_eq (keyL_made h) (keyL_made h') keyL_one keyL_one fun r => by rw [keyL_has, keyL_has, h.has, h'.has, hk]
  rw [this]
  exact List.map_congr_left fun t _ => hi _
/-- What an item adds to a sum. -/
def sumT (kind col : Int) (t : It) : Int := if kind = 2 then (if (getV t.row col).k = 3 then t.w * (getV t.row col).i else 0) else t.w
theorem sumF_some {kind col B : Int} (hB : 0 ≤ B) : ∀ (l : List It) (n : Int), (∀ t ∈ l, -B ≤ sumT kind col t ∧ sumT kind col t ≤ B) → -1152921504606846976 ≤ n - B * l.length → n + B * l.length ≤ 1152921504606846976 →
    sumF kind col l n = some (n + (l.map (sumT kind col)).sum)
  | [], n, _, _, _ => by simp [sumF]
  | t :: l, n, h, h1, h2 => by
    have ht := h t (by simp)
    have e : B * ((t :: l).length : Int) = B * l.length + B := by rw [List.length_cons, Int.natCast_add, Int.mul_add]; simp
    rw [e] at h1 h2
    have hp : 0 ≤ B * (l.length : Int) := Int.mul_nonneg hB (by omega)
    have ih := fun m h3 h4 => sumF_some (kind := kind) (col := col) hB l m (fun u hu => h u (by simp [hu])) h3 h4
    simp only [sumF]
    by_cases hk : kind = 2 ∧ (getV t.row col).k ≠ 3
    · rw [if_pos hk, ih n (by omega) (by omega)]
      have : sumT kind col t = 0 := by rw [sumT, if_pos hk.1, if_neg hk.2]
      simp [this]
    · rw [if_neg hk]
      have e2 : sumT kind col t = t.w * (if kind = 2 then (getV t.row col).i else 1) := by
        simp only [sumT]
        by_cases e3 : kind = 2
        · simp [e3] at hk ⊢
          exact fun h => absurd hk h
        · simp [e3]
      rw [← e2]
      have e4 : (inVal (sumT kind col t) && inVal (n + sumT kind col t)) = true := by
        simp only [inVal, inB, Bool.and_eq_true, decide_eq_true_eq]; omega
      rw [if_pos e4, ih _ (by omega) (by omega)]
      simp only [List.map_cons, List.sum_cons]
      congr 1; omega
theorem cmpR_app : ∀ (a b x y : List V), a.length = b.length → cmpR a b ≠ 0 → cmpR (a ++ x) (b ++ y) = cmpR a b
  | [], [], _, _, _, h => absurd rfl h
  | [], _ :: _, _, _, h, _ => by cases h
  | _ :: _, [], _, _, h, _ => by cases h
  | u :: a, v :: b, x, y, h, hn => by
    simp only [List.cons_append, cmpR] at hn ⊢
    split
    · rename_i e
      rw [if_pos e] at hn
      exact cmpR_app a b x y (by simpa using h) hn
    · rfl
theorem inC_of {col : Int} {n : Nat} (h : col = 0 ∨ col = 1) (hn : 2 ≤ n) : inC col n = true := by
  rcases h with rfl | rfl <;> simp [inC] <;> omega
theorem getV_mem {r : List V} {c : Int} (h : inC c r.length = true) : getV r c ∈ r := by
  simp only [inC, Bool.and_eq_true, decide_eq_true_eq] at h
  have : c.toNat < r.length := by omega
  simp only [getV, List.getElem?_eq_getElem this, Option.getD_some]
  exact List.getElem_mem this
theorem pickE_of {r : List V} {cols : List Int} (hc : ∀ c ∈ cols, c = 0 ∨ c = 1) (hl : cols.length ≤ 12) (hr : 2 ≤ r.length) : pickE r cols = 0 := by
  simp only [pickE]
  have : cols.any (outC r.length) = false := by
    rw [List.any_eq_false]; intro c hcm
    simp only [outC, Bool.or_eq_true, decide_eq_true_eq]; have := hc c hcm; omega
  rw [this, if_neg (by decide), if_neg (by omega)]
theorem bestF_mem (kind col : Int) : ∀ (l : List It) (o : V), bestF kind col l o = o ∨ ∃ t ∈ l, bestF kind col l o = getV t.row col
  | [], o => .inl rfl
  | t :: l, o => by
    simp only [bestF]
    have lift : ∀ o', (bestF kind col l o' = o' ∨ ∃ u ∈ l, bestF kind col l o' = getV u.row col) → o' = o ∨ o' = getV t.row col → bestF kind col l o' = o ∨ ∃ u ∈ t :: l, bestF kind col l o' = getV u.row col := by
      rintro o' (h | ⟨u, hu, h⟩) h2
      · rcases h2 with h2 | h2
        · exact .inl (h.trans h2)
        · exact .inr ⟨t, by simp, h.trans h2⟩
      · exact .inr ⟨u, by simp [hu], h⟩
    split
    · exact lift o (bestF_mem kind col l o) (.inl rfl)
    · split
      · exact lift _ (bestF_mem kind col l _) (.inr rfl)
      · exact lift o (bestF_mem kind col l o) (.inl rfl)
theorem sum_bound {f : It → Int} {B : Int} : ∀ (l : List It), (∀ t ∈ l, -B ≤ f t ∧ f t ≤ B) → -(B * l.length) ≤ (l.map f).sum ∧ (l.map f).sum ≤ B * l.length
  | [], _ => by simp
  | t :: l, h => by
    have ht := h t (by simp)
    have ih := sum_bound l fun u hu => h u (by simp [hu])
    have e : B * ((t :: l).length : Int) = B * l.length + B := by rw [List.length_cons, Int.natCast_add, Int.mul_add]; simp
    rw [e]
    simp only [List.map_cons, List.sum_cons]
    omega
/-- What is asked of a small set's groups. -/
structure Ask (cols : List Int) (kind col : Int) : Prop where
  k1 : 1 ≤ kind
  k2 : kind ≤ 4
  len : cols.length ≤ 1
  cs : ∀ c ∈ cols, c = 0 ∨ c = 1
  col : col = 0 ∨ col = 1
theorem Ask.term {cols : List Int} {kind col : Int} (a : Ask cols kind col) {z : List It} {n : Nat} {b : Int} (h : Wd z n b) (hn : n ≤ 20) (hb : 1 ≤ b ∧ b ≤ 10000000) : ∀ t ∈ z, -(2400 * b) ≤ sumT kind col t ∧ sumT kind col t ≤ 2400 * b := fun t ht => by
  have hw := h.w t ht
  simp only [sumT]
  split
  · split
    · rename_i h3
      have hm := h.num t ht _ (getV_mem (inC_of a.col (h.two t ht))) h3
      have := mul_small (x := t.w) (y := (getV t.row col).i) (i := 2400) (j := b) (by omega) hm
      omega
    · omega
  · omega
theorem Ask.sums {cols : List Int} {kind col : Int} (a : Ask cols kind col) {z : List It} {n : Nat} {b : Int} (h : Wd z n b) (hn : n ≤ 20) (hb : 1 ≤ b ∧ b ≤ 10000000) {l : List It} (hl : l.length ≤ z.length) (hm : ∀ t ∈ l, t ∈ z) :
    sumF kind col l 0 = some ((l.map (sumT kind col)).sum) ∧ -(1920000 * b) ≤ (l.map (sumT kind col)).sum ∧ (l.map (sumT kind col)).sum ≤ 1920000 * b := by
  have ht : ∀ t ∈ l, -(2400 * b) ≤ sumT kind col t ∧ sumT kind col t ≤ 2400 * b := fun t ht => a.term h hn hb t (hm t ht)
  have hz := h.len
  have h1 : 2400 * b * (l.length : Int) ≤ 2400 * b * 800 := Int.mul_le_mul_of_nonneg_left (by omega) (by omega)
  have h2 := sumF_some (kind := kind) (col := col) (B := 2400 * b) (by omega) l 0 ht (by omega) (by omega)
  have h3 := sum_bound (f := sumT kind col) l ht
  exact ⟨by rw [h2, Int.zero_add], by omega, by omega⟩
/-- Of a small set: groups are told. -/
theorem Ask.group {cols : List Int} {kind col : Int} (a : Ask cols kind col) {z out : List It} {n : Nat} {b err : Int} (h : Wd z n b) (hn : n ≤ 20) (hb : 1 ≤ b ∧ b ≤ 10000000) (hg : GroupR z cols kind col out err) :
    err = 0 ∧ ∃ gs, GpI cols z gs ∧ out = gs.map (gItem kind col) ∧ (∀ g ∈ gs, gval kind col g ≠ none) ∧ Made out ∧ (∀ t ∈ out, okR t.row = 0) ∧ gs.length ≤ z.length := by
  have hw : Wr0 z cols kind col := ⟨h.good, a.k1, a.k2, by have := a.len; omega, fun t ht => ⟨pickE_of a.cs (by have := a.len; omega) (h.two t ht), fun _ => inC_of a.col (h.two t ht)⟩⟩
  rcases hg with ⟨hno, _⟩ | ⟨_, gs, hgs, hgl, hg⟩
  · exact absurd hw hno
  have hit : ∀ g ∈ gs, g.items.length ≤ z.length ∧ ∀ t ∈ g.items, t ∈ z := fun g hgm => by
    rw [hgs.items g hgm]
    exact ⟨List.length_filter_le _ _, fun t ht => (List.mem_filter.1 ht).1⟩
  have hval : ∀ g ∈ gs, ∃ v, gval kind col g = some v ∧ okV v = true := fun g hgm => by
    simp only [gval]
    split
    · obtain ⟨e1, e2, e3⟩ := a.sums h hn hb (hit g hgm).1 (hit g hgm).2
      rw [e1]
      refine ⟨_, rfl, ?_⟩
      simp only [okV, inB]
      simp
      exact ⟨by omega, rfl⟩
    · refine ⟨_, rfl, ?_⟩
      rcases bestF_mem kind col g.items V.nul with e | ⟨t, ht, e⟩
      · rw [e]; decide
      · rw [e]
        have htz := (hit g hgm).2 t ht
        exact (okR_all.1 (h.ok htz)).2 _ (getV_mem (inC_of a.col (h.two t htz)))
  have hnn : ∀ g ∈ gs, gval kind col g ≠ none := fun g hgm => by obtain ⟨v, e, _⟩ := hval g hgm; rw [e]; simp
  have hat : ∀ g ∈ gs, ∃ t ∈ z, g.at_ = pickR t.row cols := fun g hgm => by
    obtain ⟨t, ht, _, e⟩ := (hgs.has g.at_).1 ⟨g, hgm, rfl⟩
    exact ⟨t, ht, e.symm⟩
  have hrow : ∀ t ∈ gs.map (gItem kind col), okR t.row = 0 := fun t ht => by
    obtain ⟨g, hgm, rfl⟩ := List.mem_map.1 ht
    obtain ⟨v, hv, hv2⟩ := hval g hgm
    obtain ⟨u, hu, e⟩ := hat g hgm
    have h1 := pick_row (pickE_of a.cs (by have := a.len; omega) (h.two u hu)) (h.ok hu)
    rw [← e] at h1
    simp only [gItem, hv, Option.getD_some]
    have h2 : g.at_.length = cols.length := by rw [e]; simp [pickR]
    refine okR_all.2 ⟨by have := a.len; simp; omega, fun w hw => ?_⟩
    rcases List.mem_append.1 hw with hw | hw
    · exact (okR_all.1 h1.1).2 w hw
    · simp at hw; subst hw; exact hv2
  have hmade : Made (gs.map (gItem kind col)) := by
    refine ⟨?_, fun t ht => ?_⟩
    · rw [List.pairwise_map]
      refine List.Pairwise.imp_of_mem ?_ hgs.up
      intro x y hx hy hxy
      have e1 := hgs.atlen x hx
      have e2 := hgs.atlen y hy
      simp only [cI, gItem]
      rw [cmpR_app _ _ _ _ (by omega) (by omega)]; exact hxy
    · obtain ⟨g, _, rfl⟩ := List.mem_map.1 ht
      exact ⟨by simp [gItem], by simp [gItem]; decide⟩
  rcases hg with ⟨⟨g, hgm, hno⟩, _⟩ | ⟨_, hm⟩
  · exact absurd hno (hnn g hgm)
  · obtain ⟨h1, h2⟩ := makeR_ok hm (by
      rw [List.any_eq_false]; intro t ht
      simp [okI, hrow t ht, (hmade.nz t ht).2]) hmade fun _ => rfl
    exact ⟨h2, gs, hgs, h1, hnn, by rw [h1]; exact hmade, by rw [h1]; exact hrow, hgl⟩
end Yt
namespace Yt
open Go Go.Vc Go.Proofs
set_option maxRecDepth 10000
set_option maxHeartbeats 8000000
set_option linter.unusedSimpArgs false
set_option linter.unusedVariables false
def iV (n : Int) : V := ⟨3, n, ByteArray.empty⟩
def w2 (n m : Int) : List V := [iV n, iV m]
theorem iV_ok {n : Int} (h : -1152921504606846976 ≤ n ∧ n ≤ 1152921504606846976) : okV (iV n) = true := by
  simp [okV, inB, iV, h]; rfl
theorem w2_ok {n m : Int} (h : -1152921504606846976 ≤ n ∧ n ≤ 1152921504606846976) (h2 : -1152921504606846976 ≤ m ∧ m ≤ 1152921504606846976) : okR (w2 n m) = 0 :=
  okR_all.2 ⟨by simp [w2], fun v hv => by
    simp only [w2, List.mem_cons, List.not_mem_nil, or_false] at hv
    rcases hv with rfl | rfl
    · exact iV_ok h
    · exact iV_ok h2⟩
theorem c70 (n m : Int) : Spec0 Try.prog 70 [iA n, iA m] (· = rowA (w2 n m)) := by
  have h : Spec1 Try.prog 70 [iA n, iA m] (fun r o => ∃ (out : List V), r = .rf 0 0 out.length ∧ o = ro3 out ∧ out = w2 n m) := by
    refine spec1_of_vc tabOk elems ord70 Try.func70 rfl (rl := [.tmp 4]) rfl (by kernel_rfl) rfl ?_
    (simp -implicitDefEqProofs only [go_sem, iA]; repeat (refine GO ?_; simp -implicitDefEqProofs only [go_sem, iA]))
    refine FINmk [(0, some 9)] [(4, .rf 0 0 2)] [(0, ro3 (w2 n m))] [0] rfl ?_ ?_
    · (simp -implicitDefEqProofs only [go_sem, ro3, w2, iV]; repeat (refine GO ?_; simp -implicitDefEqProofs only [go_sem, ro3, w2, iV]))
      exact .same (ro3 (w2 n m)) _ _ (ro3_leafy (w2 n m)) rfl
    · exact ⟨ro3 _, ⟨⟨w2 n m, rfl, rfl, rfl⟩, rfl⟩, ro3_leafy _, rfl⟩
  refine (Spec1.row1 h).mono ?_
  rintro r O' ⟨⟨⟨out, rfl, rfl⟩, hn⟩, hO⟩
  exact ⟨⟨rfl, hn⟩, hO⟩
theorem cmpV_iV (a b : Int) : cmpV (iV a) (iV b) = cmpI a b := cmpV_i a b
theorem cmpR_w2 (a b c d : Int) : cmpR (w2 a b) (w2 c d) = if cmpI a c = 0 then cmpI b d else cmpI a c := by
  simp only [w2, cmpR, cmpV_iV]
  split
  · split
    · rename_i h; exact h.symm
    · rfl
  · rfl
def wgZ : List It := [⟨w2 1 5, 2⟩, ⟨w2 1 7, 1⟩, ⟨w2 2 9, 1⟩]
theorem wgZ_wd : Wd wgZ 1 1000 := by
  have hm : Made wgZ := ⟨by simp [wgZ, cI, cmpR_w2, cmpI], by simp [wgZ, okW, inB]⟩
  have h2 : ∀ t ∈ wgZ, ∃ a b : Int, t.row = w2 a b ∧ -1000 ≤ a ∧ a ≤ 1000 ∧ -1000 ≤ b ∧ b ≤ 1000 := fun t ht => by
    simp only [wgZ, List.mem_cons, List.not_mem_nil, or_false] at ht
    rcases ht with rfl | rfl | rfl
    · exact ⟨1, 5, rfl, by omega⟩
    · exact ⟨1, 7, rfl, by omega⟩
    · exact ⟨2, 9, rfl, by omega⟩
  refine ⟨good_made.2 ⟨hm, fun t ht => ?_⟩, by simp [wgZ], made_tot hm (by decide) (by simp [wgZ]), fun t ht => ?_, fun t ht v hv _ => ?_⟩
  · obtain ⟨a, b, e, _⟩ := h2 t ht
    rw [e]; exact w2_ok (by omega) (by omega)
  · obtain ⟨a, b, e, _⟩ := h2 t ht
    rw [e]; simp [w2]
  · obtain ⟨a, b, e, _⟩ := h2 t ht
    rw [e] at hv
    simp only [w2, List.mem_cons, List.not_mem_nil, or_false] at hv
    rcases hv with rfl | rfl <;> simp only [iV] <;> omega
theorem pick_w2 (a b : Int) : pickR (w2 a b) [0] = [iV a] := rfl
theorem cmpR_1 (a b : Int) : cmpR [iV a] [iV b] = cmpI a b := by
  simp only [cmpR, cmpV_iV]
  split
  · rename_i h; exact h.symm
  · rfl
theorem wg_gs : GpI [0] wgZ [⟨[iV 1], [⟨w2 1 5, 2⟩, ⟨w2 1 7, 1⟩]⟩, ⟨[iV 2], [⟨w2 2 9, 1⟩]⟩] :=
  { up := by simp [cmpR_1, cmpI]
    items := by simp [wgZ, pick_w2, cmpR_1, cmpI]
    some := by simp
    all := by simp [wgZ, pick_w2] }
theorem wg_gs0 : GpI [] wgZ [⟨[], wgZ⟩] :=
  { up := List.pairwise_singleton _ _
    items := by simp [wgZ, pickR, cmpR]
    some := by simp [wgZ]
    all := by simp [wgZ, pickR] }
theorem GpI.uniq {cols : List Int} {y : List It} {gs gs' : List Gp} (h : GpI cols y gs) (h' : GpI cols y gs') : gs = gs' := h.same h' (fun _ => Iff.rfl) fun _ => rfl
theorem wg_a {out : List It} {err : Int} (h : GroupR wgZ [0] 2 1 out err) : err = 0 ∧ out = [⟨[iV 1, iV 17], 1⟩, ⟨[iV 2, iV 9], 1⟩] := by
  obtain ⟨h1, gs, h2, h3, _⟩ := (show Ask [0] 2 1 from ⟨by decide, by decide, by decide, by simp, by simp⟩).group wgZ_wd (by decide) (by decide) h
  have e := h2.uniq wg_gs
  subst e
  refine ⟨h1, h3.trans ?_⟩
  simp [gItem, gval, sumF, getV, w2, iV, inVal, inB]
theorem wg_b {out : List It} {err : Int} (h : GroupR wgZ [] 4 1 out err) : err = 0 ∧ out = [⟨[iV 9], 1⟩] := by
  obtain ⟨h1, gs, h2, h3, _⟩ := (show Ask [] 4 1 from ⟨by decide, by decide, by decide, by simp, by simp⟩).group wgZ_wd (by decide) (by decide) h
  have e := h2.uniq wg_gs0
  subst e
  refine ⟨h1, h3.trans ?_⟩
  have e1 : ∀ a b, getV (w2 a b) 1 = iV b := fun _ _ => rfl
  have e2 : ∀ a, (iV a).k = 3 := fun _ => rfl
  simp [gItem, gval, bestF, wgZ, e1, e2, cmpV_iV, cmpI, V.nul]
theorem g67 (z : List It) (cols : List Int) (kind col : Int) (hl : z.length ≤ 1048576) (hr : ∀ t ∈ z, t.row.length < 1073741824) (hc : cols.length < 1073741824) :
    Spec0 Try.prog 67 [setA z, intsL cols, iA kind, iA col] (fun r => ∃ (out : List It) (err : Int), r = .tu [setA out, iA err] ∧ GroupR z cols kind col out err) := Spec1.setE (c67 z cols kind col hl hr hc)
theorem g67z (z : List It) (kind col : Int) (hl : z.length ≤ 1048576) (hr : ∀ t ∈ z, t.row.length < 1073741824) :
    Spec0 Try.prog 67 [setA z, .nl, iA kind, iA col] (fun r => ∃ (out : List It) (err : Int), r = .tu [setA out, iA err] ∧ GroupR z [] kind col out err) :=
  spec0_nls (g67 z [] kind col hl hr (by decide)) ⟨.inl rfl, .inr ⟨rfl, 1, rfl⟩, .inl rfl, .inl rfl, trivial⟩
@[go_sem] theorem la_cons {α : Type} (a : α) (l m : List α) : List.append (a :: l) m = a :: List.append l m := rfl
@[go_sem] theorem la_nil {α : Type} (m : List α) : List.append [] m = m := rfl
theorem EL_z (a : List AV) (l : List (List AV)) (K : List AV → Prop) : EL (a :: l) (Int.toNat 0) K = K a := EL_zero a l K
theorem EL_1 (a b : List AV) (l : List (List AV)) (K : List AV → Prop) : EL (a :: b :: l) (Int.toNat 1) K = K b := by rw [show Int.toNat 1 = 0 + 1 from rfl, EL_succ, EL_zero]
theorem c69 : Spec0 Try.prog 69 [] (· = bA true) := by
  refine spec0_of_vc tabOk elems ord69 Try.func69 rfl (rl := [.tmp 0]) rfl (by kernel_rfl) rfl ?_
  (simp -implicitDefEqProofs only [go_sem]; repeat (refine GO ?_; simp -implicitDefEqProofs only [go_sem]))
  refine .pure _ (c70 1 5) rfl fun r hq _ => ?_
  subst hq
  (simp -implicitDefEqProofs only [go_sem]; repeat (refine GO ?_; simp -implicitDefEqProofs only [go_sem]))
  refine .pure _ (c70 1 7) rfl fun r hq _ => ?_
  subst hq
  (simp -implicitDefEqProofs only [go_sem]; repeat (refine GO ?_; simp -implicitDefEqProofs only [go_sem]))
  refine .pure _ (c70 2 9) rfl fun r hq _ => ?_
  subst hq
  simp -implicitDefEqProofs only [go_sem]
  refine FRZG 12 (so wgZ) rfl (so_leafy wgZ) ?_
  simp -implicitDefEqProofs only [go_sem, so]
  refine FRZ 15 ⟨1, [[iA 0]]⟩ rfl (by simp [Ob.leafy, AV.leaf, iA]) ?_
  simp -implicitDefEqProofs only [go_sem, so]
  refine .pure _ (show Spec0 Try.prog 67 [setA wgZ, intsL [0], iA 2, iA 1] _ from g67 wgZ [0] 2 1 (by decide) wgZ_wd.r40 (by decide)) rfl fun r hq _ => ?_
  obtain ⟨out, err, rfl, hz⟩ := hq
  obtain ⟨rfl, rfl⟩ := wg_a hz
  (simp -implicitDefEqProofs only [go_sem, setA, iA]; repeat (refine GO ?_; simp -implicitDefEqProofs only [go_sem, setA, iA]))
  refine .pure _ (show Spec0 Try.prog 67 [setA wgZ, .nl, iA 4, iA 1] _ from g67z wgZ 4 1 (by decide) wgZ_wd.r40) rfl fun r hq _ => ?_
  obtain ⟨out, err, rfl, hz⟩ := hq
  obtain ⟨rfl, rfl⟩ := wg_b hz
  (simp -implicitDefEqProofs only [go_sem, setA, iA, It.c, V.c, rowA, iV]; repeat (refine GO ?_; simp -implicitDefEqProofs only [go_sem, setA, iA, It.c, V.c, rowA, iV]))
  repeat (first | (refine VIF.tt (by simp) ?_; (simp -implicitDefEqProofs only [go_sem, setA, iA, It.c, V.c, rowA, iV, List.map_cons, List.map_nil, EL_z, EL_1]; repeat (refine GO ?_; simp -implicitDefEqProofs only [go_sem, setA, iA, It.c, V.c, rowA, iV, List.map_cons, List.map_nil, EL_z, EL_1]))) | (refine ⟨by decide, ?_⟩; (simp -implicitDefEqProofs only [go_sem, setA, iA, It.c, V.c, rowA, iV, List.map_cons, List.map_nil, EL_z, EL_1]; repeat (refine GO ?_; simp -implicitDefEqProofs only [go_sem, setA, iA, It.c, V.c, rowA, iV, List.map_cons, List.map_nil, EL_z, EL_1]))))
  simp [bA]
end Yt
namespace Yt
open Go Go.Vc Go.Proofs
set_option maxRecDepth 10000
set_option maxHeartbeats 8000000
set_option linter.unusedSimpArgs false
set_option linter.unusedVariables false
theorem groupR_rows {z out : List It} {cols : List Int} {kind col err : Int} (h : GroupR z cols kind col out err) : out.length ≤ z.length ∧ ∀ t ∈ out, t.row.length ≤ 12 := by
  rcases h with ⟨_, rfl, _⟩ | ⟨hw, gs, hg, hl, ⟨_, rfl, _⟩ | ⟨_, hm⟩⟩
  · simp
  · simp
  · obtain ⟨h1, h2⟩ := makeR_rows hm
    refine ⟨by rw [List.length_map] at h1; omega, fun t ht => ?_⟩
    obtain ⟨u, hu, e⟩ := h2 t ht
    obtain ⟨g, hgm, rfl⟩ := List.mem_map.1 hu
    have h3 := hg.atlen g hgm
    have h4 := hw.2.2.2.1
    rw [← e]
    simp only [gItem, List.length_append, List.length_singleton]; omega
/-- What is told of a change of groups. -/
def GDel (z dz : List It) (cols : List Int) (kind col : Int) (out : List It) (err : Int) : Prop :=
  ∃ now e1, AddR z dz now e1 ∧ Thn out err e1 (∃ a e2, GroupR now cols kind col a e2 ∧ Thn out err e2 (∃ b e3, GroupR z cols kind col b e3 ∧ Thn out err e3 (MinR a b out err)))
theorem c72 (z dz : List It) (cols : List Int) (kind col : Int) (hl : z.length + dz.length ≤ 300000) (hz : ∀ t ∈ z, t.row.length < 1073741824) (hd : ∀ t ∈ dz, t.row.length < 1073741824) (hc : cols.length < 1073741824) :
    Spec0 Try.prog 72 [setA z, setA dz, intsL cols, iA kind, iA col] (fun r => ∃ (out : List It) (err : Int), r = .tu [setA out, iA err] ∧ GDel z dz cols kind col out err) := by
  refine spec0_of_vc tabOk elems ord72 Try.func72 rfl (rl := [.tmp 10, .tmp 11]) rfl (by kernel_rfl) rfl ?_
  have bad : ∀ (e : Int) (s : St), 0 ∉ s.used → s.regs 10 = .nl → s.regs 11 = .pr (.int .i64 e) → GDel z dz cols kind col [] e → GOES (fun st => hRes T st [.tmp 10, .tmp 11] fun v => v.noId = true ∧ ∃ (out : List It) (err : Int), v = .tu [setA out, iA err] ∧ GDel z dz cols kind col out err) s := by
    intro e s hu h8 h9 hj
    refine TO [] [(10, setA []), (11, iA e)] [] [] rfl ?_ ?_
    · (simp -implicitDefEqProofs only [go_sem, setA, iA, h8, h9]; repeat (refine GO ?_; simp -implicitDefEqProofs only [go_sem, setA, iA, h8, h9]))
      exact ⟨fun h => absurd h hu, rfl⟩
    (simp -implicitDefEqProofs only [go_sem]; repeat (refine GO ?_; simp -implicitDefEqProofs only [go_sem]))
    exact ⟨rfl, [], e, rfl, hj⟩
  (simp -implicitDefEqProofs only [go_sem, setA, intsL, iA]; repeat (refine GO ?_; simp -implicitDefEqProofs only [go_sem, setA, intsL, iA]))
  refine .pure _ (Spec1.setE (s23 z dz (by omega) hz hd)) rfl fun q hq _ => ?_
  obtain ⟨now, e1, rfl, h1⟩ := hq
  obtain ⟨nl, nr⟩ := addR_rows h1
  have nr := addR_small h1 hz hd
  (simp -implicitDefEqProofs only [go_sem, iA, setA]; repeat (refine GO ?_; simp -implicitDefEqProofs only [go_sem, iA, setA]))
  refine VIF.split (fun h => ?_) (fun h => ?_)
  · have h : e1 ≠ 0 := by simpa using h
    simp -implicitDefEqProofs only [go_sem]
    exact bad e1 _ (by simp) rfl rfl ⟨now, e1, h1, .inl ⟨h, rfl, rfl⟩⟩
  have h : e1 = 0 := by simpa using h
  subst h
  (simp -implicitDefEqProofs only [go_sem]; repeat (refine GO ?_; simp -implicitDefEqProofs only [go_sem]))
  refine .pure _ (show Spec0 Try.prog 67 [setA now, intsL cols, iA kind, iA col] _ from g67 now cols kind col (by omega) nr hc) rfl fun q hq _ => ?_
  obtain ⟨a, e2, rfl, h2⟩ := hq
  obtain ⟨al, ar⟩ := groupR_rows h2
  (simp -implicitDefEqProofs only [go_sem, iA, setA]; repeat (refine GO ?_; simp -implicitDefEqProofs only [go_sem, iA, setA]))
  refine VIF.split (fun h => ?_) (fun h => ?_)
  · have h : e2 ≠ 0 := by simpa using h
    simp -implicitDefEqProofs only [go_sem]
    exact bad e2 _ (by simp) rfl rfl ⟨now, 0, h1, .inr ⟨rfl, a, e2, h2, .inl ⟨h, rfl, rfl⟩⟩⟩
  have h : e2 = 0 := by simpa using h
  subst h
  (simp -implicitDefEqProofs only [go_sem]; repeat (refine GO ?_; simp -implicitDefEqProofs only [go_sem]))
  refine .pure _ (show Spec0 Try.prog 67 [setA z, intsL cols, iA kind, iA col] _ from g67 z cols kind col (by omega) hz hc) rfl fun q hq _ => ?_
  obtain ⟨b, e3, rfl, h3⟩ := hq
  obtain ⟨bl, br⟩ := groupR_rows h3
  (simp -implicitDefEqProofs only [go_sem, iA, setA]; repeat (refine GO ?_; simp -implicitDefEqProofs only [go_sem, iA, setA]))
  refine VIF.split (fun h => ?_) (fun h => ?_)
  · have h : e3 ≠ 0 := by simpa using h
    simp -implicitDefEqProofs only [go_sem]
    exact bad e3 _ (by simp) rfl rfl ⟨now, 0, h1, .inr ⟨rfl, a, 0, h2, .inr ⟨rfl, b, e3, h3, .inl ⟨h, rfl, rfl⟩⟩⟩⟩
  have h : e3 = 0 := by simpa using h
  subst h
  (simp -implicitDefEqProofs only [go_sem]; repeat (refine GO ?_; simp -implicitDefEqProofs only [go_sem]))
  refine .pure _ (Spec1.setE (c55 a b (by omega) (fun t ht => by have := ar t ht; omega) (fun t ht => by have := br t ht; omega))) rfl fun q hq _ => ?_
  obtain ⟨out, err, rfl, h5⟩ := hq
  (simp -implicitDefEqProofs only [go_sem, iA, setA]; repeat (refine GO ?_; simp -implicitDefEqProofs only [go_sem, iA, setA]))
  exact ⟨rfl, out, err, rfl, now, 0, h1, .inr ⟨rfl, a, 0, h2, .inr ⟨rfl, b, 0, h3, .inr ⟨rfl, h5⟩⟩⟩⟩
end Yt
namespace Yt
open Go Go.Vc Go.Proofs
set_option maxRecDepth 10000
set_option maxHeartbeats 8000000
set_option linter.unusedSimpArgs false
set_option linter.unusedVariables false
def posI (t : It) : Bool := decide (0 < t.w)
theorem filt_step {p : It → Bool} {z : List It} {i : Nat} (h : i < z.length) : (z.take (i + 1)).filter p = (z.take i).filter p ++ (if p z[i] then [z[i]] else []) := by
  rw [List.take_succ_eq_append_getElem h, List.filter_append]
  congr 1
  simp [List.filter_cons]
theorem so_snoc {st : St} {m : List (Nat × Option Nat)} {l l' : List It} {t : It} (h : l' = l ++ [t]) : Es st m (List.map It.c l ++ [t.c]) (List.map It.c l') := by
  subst h
  rw [List.map_append]
  exact .same (so (l ++ [t])) _ _ (fun x hx => so_leafy (l ++ [t]) x (by rw [so, List.map_append]; exact hx)) rfl
/-- Groups of a set and of what of it weighs more than nothing. -/
theorem GpI.pos {cols : List Int} {z : List It} {gs : List Gp} (h : GpI cols z gs) (hz : ∀ t ∈ z, t.w ≠ 0) : GpI cols (z.filter posI) gs :=
  { up := h.up
    items := fun g hg => by
      rw [h.items g hg, List.filter_filter]
      refine List.filter_congr fun t ht => ?_
      have := hz t ht
      by_cases e : 0 < t.w
      · simp [posI, e]
      · have e2 : t.w < 0 := by omega
        simp [posI, e, e2]
    some := h.some
    all := fun t ht hw => h.all t (List.mem_filter.1 ht).1 hw }
theorem GpI.neg {cols : List Int} {z : List It} {gs : List Gp} (h : GpI cols (z.filter fun t => !posI t) gs) (hz : ∀ t ∈ z, t.w ≠ 0) : gs = [] := by
  cases gs with
  | nil => rfl
  | cons g r =>
    obtain ⟨t, ht, hw, _⟩ := (h.has g.at_).1 ⟨g, by simp, rfl⟩
    obtain ⟨h1, h2⟩ := List.mem_filter.1 ht
    have := hz t h1
    simp [posI] at h2; omega
theorem Ask.of {k0 c0 v0 : Nat} (h : (k0 : Int) < 4) (h1 : (c0 : Int) < 2) (h2 : (v0 : Int) < 2) : Ask [(c0 : Int)] (1 + (k0 : Int)) v0 :=
  ⟨by omega, by omega, by simp, by simp; omega, by omega⟩
end Yt
namespace Yt
open Go Go.Vc Go.Proofs
set_option maxRecDepth 10000
set_option maxHeartbeats 8000000
set_option linter.unusedSimpArgs false
set_option linter.unusedVariables false
theorem tot_pos : ∀ {L : List It}, (∀ t ∈ L, 0 < t.w) → ∀ r, 0 ≤ tot r L ∧ (tot r L ≠ 0 ↔ ∃ t ∈ L, t.row = r)
  | [], _, r => by simp [tot]
  | t :: L, h, r => by
    obtain ⟨h1, h2⟩ := tot_pos (L := L) (fun u hu => h u (by simp [hu])) r
    have h3 := h t (by simp)
    simp only [tot]
    by_cases e : cmpR t.row r = 0
    · have e2 := lin_cmpR.eq _ _ e
      rw [if_pos e]
      exact ⟨by omega, fun _ => ⟨t, by simp, e2⟩, fun _ => by omega⟩
    · have e2 : t.row ≠ r := fun h => e (by rw [h]; exact cmpR_self r)
      rw [if_neg e, Int.zero_add]
      refine ⟨h1, fun h4 => ?_, ?_⟩
      · obtain ⟨u, hu, e3⟩ := h2.1 h4
        exact ⟨u, by simp [hu], e3⟩
      · rintro ⟨u, hu, e3⟩
        rcases List.mem_cons.1 hu with rfl | hu
        · exact absurd e3 e2
        · exact h2.2 ⟨u, hu, e3⟩
theorem keys_proj {z out : List It} {n : Nat} {b err : Int} {cols : List Int} {kind col : Int} {gs : List Gp} (a : Ask cols kind col) (hz : Wd z n b) (hn : n ≤ 20) (h : ProjR (z.filter posI) cols out err) (hgs : GpI cols z gs) :
    err = 0 ∧ out.map It.row = gs.map Gp.at_ := by
  have hp := hz.sub (x := z.filter posI) List.filter_sublist
  have hpk : ∀ t ∈ z.filter posI, pickE t.row cols = 0 := fun t ht => pickE_of a.cs (by have := a.len; omega) (hp.two t ht)
  have hpos : ∀ t ∈ (z.filter posI).map (projI cols), 0 < t.w := fun t ht => by
    obtain ⟨u, hu, rfl⟩ := List.mem_map.1 ht
    have := (List.mem_filter.1 hu).2
    simp only [posI, decide_eq_true_eq] at this
    exact this
  have hm : MakeR ((z.filter posI).map (projI cols)) out err := by
    rcases h with ⟨h, _⟩ | ⟨_, ⟨t, ht, e⟩, hne, _⟩ | ⟨_, _, h⟩
    · exact absurd hp.good h
    · exact absurd (e.symm.trans (hpk t ht)) hne
    · exact h
  have hw : ∀ t ∈ (z.filter posI).map (projI cols), -2400 ≤ t.w ∧ t.w ≤ 2400 := fun t ht => by
    obtain ⟨u, hu, rfl⟩ := List.mem_map.1 ht
    have := hp.w u hu
    simp only [projI]; omega
  have hl : ((z.filter posI).map (projI cols)).length ≤ 800 := by have := hp.len; rw [List.length_map]; omega
  obtain ⟨h1, h2, h3, h4, h5⟩ := makeR_fine hm (by
    rw [List.any_eq_false]; intro t ht
    have h6 := hw t ht
    obtain ⟨u, hu, rfl⟩ := List.mem_map.1 ht
    have h7 := (pick_row (hpk u hu) (hp.ok hu)).1
    have h8 : okW (projI cols u).w = true := ok_of (by omega) (by omega)
    simp only [okI, h8]
    simp [projI, h7]) fun r => by
    have := tot_bound (k := 2400) (by decide) hw r
    exact ok_of (by omega) (by omega)
  refine ⟨h1, ?_⟩
  have e : (out.map fun t => (⟨t.row, 1⟩ : It)) = keyL gs := by
    refine ones_eq ⟨?_, ?_⟩ (keyL_made hgs) (by simp) keyL_one fun r => ?_
    · rw [List.pairwise_map]; exact h2.pw
    · intro t ht
      obtain ⟨u, _, rfl⟩ := List.mem_map.1 ht
      exact ⟨by simp, by simp [okW, inB]⟩
    · rw [keyL_has, hgs.has]
      have h6 := (tot_pos hpos r).2
      rw [← h3, tot_there h2] at h6
      constructor
      · rintro ⟨t, ht, e⟩
        obtain ⟨u, hu, rfl⟩ := List.mem_map.1 ht
        obtain ⟨t, ht, e2⟩ := h6.1 ⟨u, hu, e⟩
        obtain ⟨x, hx, rfl⟩ := List.mem_map.1 ht
        obtain ⟨g1, g2⟩ := List.mem_filter.1 hx
        simp only [posI, decide_eq_true_eq] at g2
        exact ⟨x, g1, by omega, e2⟩
      · rintro ⟨x, hx, hw, e⟩
        have h7 := (hz.made.nz x hx).1
        obtain ⟨u, hu, e2⟩ := h6.2 ⟨projI cols x, List.mem_map_of_mem (List.mem_filter.2 ⟨hx, by simp [posI]; omega⟩), e⟩
        exact ⟨_, List.mem_map_of_mem hu, e2⟩
  have e2 := congrArg (List.map It.row) e
  rw [keyL, List.map_map, List.map_map] at e2
  exact e2
theorem nokeys {z : List It} {gs : List Gp} (hz : ∀ t ∈ z, t.w ≠ 0) (h : GpI [] z gs) : gs.length ≤ 1 ∧ (gs.length = 1 ↔ 0 < (z.filter posI).length) := by
  have hl : gs.length ≤ 1 := by
    rcases Nat.lt_or_ge 1 gs.length with h1 | h1
    · have h2 := h.get (i := 0) (j := 1) (by omega) h1 (by decide)
      have e1 := h.atlen _ (List.getElem_mem (show 0 < gs.length by omega))
      have e2 := h.atlen _ (List.getElem_mem h1)
      rw [List.eq_nil_of_length_eq_zero e1, List.eq_nil_of_length_eq_zero e2] at h2
      exact absurd h2 (by decide)
    · exact h1
  refine ⟨hl, fun h1 => ?_, fun h1 => ?_⟩
  · obtain ⟨t, ht, hw, _⟩ := (h.has gs[0].at_).1 ⟨_, List.getElem_mem (by omega), rfl⟩
    have := hz t ht
    exact List.length_pos_of_mem (List.mem_filter.2 ⟨ht, by simp [posI]; omega⟩)
  · obtain ⟨t, ht⟩ := List.exists_mem_of_length_pos h1
    obtain ⟨h2, h3⟩ := List.mem_filter.1 ht
    simp only [posI, decide_eq_true_eq] at h3
    obtain ⟨g, hg, _⟩ := (h.has _).2 ⟨t, h2, by omega, rfl⟩
    have := List.length_pos_of_mem hg
    omega
theorem len_one {α : Type} {l : List α} (h : l.length = 1) : ∃ a, l = [a] := by
  match l, h with
  | [a], _ => exact ⟨a, rfl⟩
theorem c23 (l : List It) (c k v : Int) (hl : l.length < 4611686018427387904) (hr : ∀ t ∈ l, t.row.length < 4611686018427387904) : Spec0 Try.prog 23 [setA l, iA c, iA k, iA v] (· = bA true) := by
  refine spec0_of_vc tabOk elems ord23 Try.func23 rfl (rl := [.tmp 8]) rfl (by kernel_rfl) rfl ?_
  (simp -implicitDefEqProofs only [go_sem, setA]; repeat (refine GO ?_; simp -implicitDefEqProofs only [go_sem, setA]))
  refine .lendTo (s10 [l] (by simp) (by simpa using hl) (by simpa using hr)) ?_ (by rintro _ rfl; rfl) fun r hq => ?_
  · (simp -implicitDefEqProofs only [go_sem, setsA, setA]; repeat (refine GO ?_; simp -implicitDefEqProofs only [go_sem, setsA, setA]))
    rfl
  subst hq
  (simp -implicitDefEqProofs only [go_sem, bA]; repeat (refine GO ?_; simp -implicitDefEqProofs only [go_sem, bA]))
  refine VIF.split (fun hb => ?_) (fun hb => ?_)
  · (simp -implicitDefEqProofs only [go_sem, bA]; repeat (refine GO ?_; simp -implicitDefEqProofs only [go_sem, bA]))
  have hb : heavyS l = false := by simpa [List.any_cons] using hb
  obtain ⟨hl0, hr0⟩ := not_heavyS hb
  simp -implicitDefEqProofs only [go_sem]
  refine TO [] [(0, setA l), (1, iA c), (2, iA k), (3, iA v)] [] [] rfl ?_ ?_
  · (simp -implicitDefEqProofs only [go_sem, setA, bA, iA]; repeat (refine GO ?_; simp -implicitDefEqProofs only [go_sem, setA, bA, iA]))
    exact id
  (simp -implicitDefEqProofs only [go_sem, setA]; repeat (refine GO ?_; simp -implicitDefEqProofs only [go_sem, setA]))
  refine .pure _ (show Spec0 Try.prog 66 [setA l] _ from c66 l (by omega) (fun t ht => by have := hr0 t ht; omega)) rfl fun r hq _ => ?_
  obtain ⟨z, rfl, e0, hz⟩ := hq
  have hz := wide_wd hz
  have lz := hz.len
  obtain ⟨k0, ho, ho1, ho2⟩ := u64_rem k 4 (by decide) (by decide)
  obtain ⟨v0, ho3, ho4, ho5⟩ := u64_rem v 2 (by decide) (by decide)
  obtain ⟨c0, ho6, ho7, ho8⟩ := u64_rem c 2 (by decide) (by decide)
  have u0 : IntKind.i64.wrap (1 + (k0 : Int)) = 1 + (k0 : Int) := by rw [wrap_i64] <;> omega
  (simp -implicitDefEqProofs only [go_sem, iA, ho, ho2, ho3, ho5, ho6, ho8, u0]; repeat (refine GO ?_; simp -implicitDefEqProofs only [go_sem, iA, ho, ho2, ho3, ho5, ho6, ho8, u0]))
  have hk := Ask.of (k0 := k0) (c0 := c0) (v0 := v0) ho1 ho7 ho4
  obtain ⟨kk, hkk⟩ : ∃ kk : Int, kk = 1 + (k0 : Int) := ⟨_, rfl⟩
  obtain ⟨cc, hcc⟩ : ∃ cc : Int, cc = (c0 : Int) := ⟨_, rfl⟩
  obtain ⟨vv, hvv⟩ : ∃ vv : Int, vv = (v0 : Int) := ⟨_, rfl⟩
  rw [← hkk, ← hvv] at ⊢
  rw [← hkk, ← hcc, ← hvv] at hk
  have hk0 : Ask [] kk vv := ⟨hk.k1, hk.k2, by simp, by simp, hk.col⟩
  have hnz : ∀ t ∈ z, t.w ≠ 0 := fun t ht => (hz.made.nz t ht).1
  refine ⟨by decide, by decide, ?_⟩
  refine LOOP.mk (ι := { i : Nat // i ≤ z.length }) (fun i => mkS [(1, iA c), (2, iA kk), (3, iA vv), (9, setA z), (10, .rf 1000 0 ((z.take i.1).filter posI).length), (11, iA i.1)] [(1000, so ((z.take i.1).filter posI))] [1000])
    (fun i => z.length - i.1) ⟨0, Nat.zero_le _⟩ [(1000, none)] rfl rfl ?_ (fun i => ?_)
  · (simp -implicitDefEqProofs only [go_sem, setA, intsL, iA, so]; repeat (refine GO ?_; simp -implicitDefEqProofs only [go_sem, setA, intsL, iA, so]))
    exact ⟨id, ⟨rfl, rfl⟩, rfl⟩
  obtain ⟨i, hi⟩ := i
  have hl1 : ((z.take i).filter posI).length ≤ z.length := Nat.le_trans (List.length_filter_le _ _) (by simp; omega)
  (simp -implicitDefEqProofs only [go_sem, setA, intsL, iA, so]; repeat (refine GO ?_; simp -implicitDefEqProofs only [go_sem, setA, intsL, iA, so]))
  refine VIF.split (fun h => ?_) (fun h => ?_)
  · have h : i < z.length := by simpa using h
    have w1 := wrap_add1 (show i < 4611686018427387904 by omega)
    (simp -implicitDefEqProofs only [go_sem]; repeat (refine GO ?_; simp -implicitDefEqProofs only [go_sem]))
    refine EL.map h ?_
    (simp -implicitDefEqProofs only [go_sem, It.c, iA]; repeat (refine GO ?_; simp -implicitDefEqProofs only [go_sem, It.c, iA]))
    have s1 := filt_step (p := posI) h
    refine VIF.split (fun h2 => ?_) (fun h2 => ?_)
    · have h2 : 0 < z[i].w := by simpa using h2
      rw [show posI z[i] = true by simpa [posI] using h2] at s1
      simp at s1
      (simp -implicitDefEqProofs only [go_sem]; repeat (refine GO ?_; simp -implicitDefEqProofs only [go_sem]))
      refine EL.map h ?_
      (simp -implicitDefEqProofs only [go_sem, It.c, iA, rowA, w1]; repeat (refine GO ?_; simp -implicitDefEqProofs only [go_sem, It.c, iA, rowA, w1]))
      refine ⟨by omega, ?_⟩
      (simp -implicitDefEqProofs only [go_sem, w1]; repeat (refine GO ?_; simp -implicitDefEqProofs only [go_sem, w1]))
      refine BACK.mk ⟨i + 1, by omega⟩ [(1000, some 52)] rfl rfl (by show z.length - (i + 1) < z.length - i; omega) ?_
      (simp -implicitDefEqProofs only [go_sem, setA, intsL, iA, so, w1, s1]; repeat (refine GO ?_; simp -implicitDefEqProofs only [go_sem, setA, intsL, iA, so, w1, s1]))
      exact ⟨id, by simp, so_snoc rfl⟩
    · have h2 : ¬ 0 < z[i].w := by simpa using h2
      rw [show posI z[i] = false by simpa [posI] using h2] at s1
      simp at s1
      (simp -implicitDefEqProofs only [go_sem, w1]; repeat (refine GO ?_; simp -implicitDefEqProofs only [go_sem, w1]))
      refine BACK.mk ⟨i + 1, by omega⟩ [(1000, some 1000)] rfl rfl (by show z.length - (i + 1) < z.length - i; omega) ?_
      (simp -implicitDefEqProofs only [go_sem, setA, intsL, iA, so, w1, s1]; repeat (refine GO ?_; simp -implicitDefEqProofs only [go_sem, setA, intsL, iA, so, w1, s1]))
      exact ⟨id, .same (so ((z.take i).filter posI)) _ _ (so_leafy _) rfl⟩
  · have h : i = z.length := by simp at h; omega
    subst h
    rw [List.take_length]
    have wp := hz.sub (x := z.filter posI) List.filter_sublist
    have lp := wp.len
    simp -implicitDefEqProofs only [go_sem]
    refine FRZ 1000 (so (z.filter posI)) rfl (so_leafy _) ?_
    simp -implicitDefEqProofs only [go_sem, so, iA, ho6, ho8]
    refine ⟨by decide, ?_⟩
    rw [← hcc]
    refine FRZ 57 ⟨1, [[iA cc]]⟩ rfl (by simp [Ob.leafy, AV.leaf, iA]) ?_
    (simp -implicitDefEqProofs only [go_sem, so, iA]; repeat (refine GO ?_; simp -implicitDefEqProofs only [go_sem, so, iA]))
    refine .pure _ (show Spec0 Try.prog 67 [setA z, intsL [cc], iA kk, iA vv] _ from g67 z [cc] kk vv (by omega) hz.r40 (by simp)) rfl fun r hq _ => ?_
    obtain ⟨a, e1, rfl, ha⟩ := hq
    obtain ⟨al, ar⟩ := groupR_rows ha
    obtain ⟨rfl, gs, hgs, hga, _, ma, _⟩ := hk.group hz (by decide) (by decide) ha
    (simp -implicitDefEqProofs only [go_sem, setA, iA, intsL]; repeat (refine GO ?_; simp -implicitDefEqProofs only [go_sem, setA, iA, intsL]))
    refine .pure _ (show Spec0 Try.prog 49 [setA (z.filter posI), intsL [cc]] _ from Spec1.setE (c49 (z.filter posI) [cc] (by omega) wp.r40 (by simp))) rfl fun r hq _ => ?_
    obtain ⟨b, e2, rfl, hb2⟩ := hq
    obtain ⟨rfl, hbk⟩ := keys_proj hk hz (by decide) hb2 hgs
    (simp -implicitDefEqProofs only [go_sem, setA, iA, intsL]; repeat (refine GO ?_; simp -implicitDefEqProofs only [go_sem, setA, iA, intsL]))
    refine .pure _ (show Spec0 Try.prog 67 [setA z, .nl, iA kk, iA vv] _ from g67z z kk vv (by omega) hz.r40) rfl fun r hq _ => ?_
    obtain ⟨d, e5, rfl, hd⟩ := hq
    obtain ⟨rfl, gs3, hgs3, hgd, _⟩ := hk0.group hz (by decide) (by decide) hd
    obtain ⟨n1, n2⟩ := nokeys hnz hgs3
    have hdl : d.length = gs3.length := by rw [hgd, List.length_map]
    rw [← hdl] at n1 n2
    have hal : a.length = gs.length := by rw [hga, List.length_map]
    have hbl : b.length = gs.length := by have := congrArg List.length hbk; simpa using this
    have hrow : ∀ i (h : i < a.length) (h2 : i < b.length), a[i].w = 1 ∧ ∃ x y, a[i].row = [x, y] ∧ b[i].row = [x] := fun i h h2 => by
      have h3 : i < gs.length := by omega
      have e3 : a[i] = gItem kk vv gs[i] := by simp [hga]
      have e4 : b[i].row = gs[i].at_ := by
        have h4 : (b.map It.row)[i]'(by simpa using h2) = (gs.map Gp.at_)[i]'(by simpa using h3) := by simp only [hbk]
        simpa using h4
      obtain ⟨x, hx⟩ := len_one (hgs.atlen _ (List.getElem_mem h3))
      rw [e3, e4]
      exact ⟨rfl, x, _, by rw [gItem, hx]; rfl, hx⟩
    (simp -implicitDefEqProofs only [go_sem, setA, iA]; repeat (refine GO ?_; simp -implicitDefEqProofs only [go_sem, setA, iA]))
    have q1 : (a.length : Int) = b.length := by omega
    refine VIF.ff (by simp) ?_
    (simp -implicitDefEqProofs only [go_sem]; repeat (refine GO ?_; simp -implicitDefEqProofs only [go_sem]))
    refine VIF.ff (by simp) ?_
    (simp -implicitDefEqProofs only [go_sem]; repeat (refine GO ?_; simp -implicitDefEqProofs only [go_sem]))
    refine VIF.ff (by simp) ?_
    (simp -implicitDefEqProofs only [go_sem]; repeat (refine GO ?_; simp -implicitDefEqProofs only [go_sem]))
    refine VIF.ff (by simp [q1]) ?_
    (simp -implicitDefEqProofs only [go_sem]; repeat (refine GO ?_; simp -implicitDefEqProofs only [go_sem]))
    have q2 : decide ((d.length : Int) = 1) = decide (0 < ((z.filter posI).length : Int)) := by
      rw [decide_eq_decide]; omega
    refine VIF.ff (by rw [q2]; simp) ?_
    (simp -implicitDefEqProofs only [go_sem]; repeat (refine GO ?_; simp -implicitDefEqProofs only [go_sem]))
    refine VIF.ff (by simp; omega) ?_
    (simp -implicitDefEqProofs only [go_sem]; repeat (refine GO ?_; simp -implicitDefEqProofs only [go_sem]))
    refine LOOP.mk (ι := { i : Nat // i ≤ a.length }) (fun i => mkS [(13, setA a), (15, setA b), (19, iA i.1)] [] []) (fun i => a.length - i.1) ⟨0, Nat.zero_le _⟩ [] rfl rfl ?_ (fun i => ?_)
    · (simp -implicitDefEqProofs only [go_sem, setA, iA]; repeat (refine GO ?_; simp -implicitDefEqProofs only [go_sem, setA, iA]))
      exact ⟨id, rfl⟩
    obtain ⟨i, hi⟩ := i
    (simp -implicitDefEqProofs only [go_sem, setA, iA]; repeat (refine GO ?_; simp -implicitDefEqProofs only [go_sem, setA, iA]))
    refine VIF.split (fun h => ?_) (fun h => ?_)
    · have h : i < a.length := by simpa using h
      have h2 : i < b.length := by omega
      have w1 := wrap_add1 (show i < 4611686018427387904 by omega)
      obtain ⟨r1, x, y, r2, r3⟩ := hrow i h h2
      (simp -implicitDefEqProofs only [go_sem]; repeat (refine GO ?_; simp -implicitDefEqProofs only [go_sem]))
      refine EL.map h ?_
      (simp -implicitDefEqProofs only [go_sem, It.c, iA, r1]; repeat (refine GO ?_; simp -implicitDefEqProofs only [go_sem, It.c, iA, r1]))
      refine VIF.ff (by simp) ?_
      (simp -implicitDefEqProofs only [go_sem]; repeat (refine GO ?_; simp -implicitDefEqProofs only [go_sem]))
      refine EL.map h ?_
      (simp -implicitDefEqProofs only [go_sem, It.c, iA, r1, r2, rowA, List.map_cons, List.map_nil]; repeat (refine GO ?_; simp -implicitDefEqProofs only [go_sem, It.c, iA, r1, r2, rowA, List.map_cons, List.map_nil]))
      refine VIF.ff (by simp) ?_
      (simp -implicitDefEqProofs only [go_sem]; repeat (refine GO ?_; simp -implicitDefEqProofs only [go_sem]))
      refine EL.map h ?_
      (simp -implicitDefEqProofs only [go_sem, It.c, iA, r1, r2, rowA, List.map_cons, List.map_nil]; repeat (refine GO ?_; simp -implicitDefEqProofs only [go_sem, It.c, iA, r1, r2, rowA, List.map_cons, List.map_nil]))
      refine ⟨by decide, EL.map h2 ?_⟩
      (simp -implicitDefEqProofs only [go_sem, It.c, iA, r3, rowA, List.map_cons, List.map_nil, List.take_succ_cons, List.take_zero]; repeat (refine GO ?_; simp -implicitDefEqProofs only [go_sem, It.c, iA, r3, rowA, List.map_cons, List.map_nil, List.take_succ_cons, List.take_zero]))
      refine .pure _ (show Spec0 Try.prog 41 [rowA [x], rowA [x]] _ from s14 [x] [x] (by simp)) rfl fun r hq _ => ?_
      obtain ⟨e, rfl, h3⟩ := hq
      have h3 := h3.2 rfl
      subst h3
      (simp -implicitDefEqProofs only [go_sem, bA, w1]; repeat (refine GO ?_; simp -implicitDefEqProofs only [go_sem, bA, w1]))

      refine BACK.mk ⟨i + 1, by omega⟩ [] rfl rfl (by show a.length - (i + 1) < a.length - i; omega) ?_
      (simp -implicitDefEqProofs only [go_sem, setA, iA, w1]; repeat (refine GO ?_; simp -implicitDefEqProofs only [go_sem, setA, iA, w1]))
      exact id
    · (simp -implicitDefEqProofs only [go_sem]; repeat (refine GO ?_; simp -implicitDefEqProofs only [go_sem]))
      refine .pure _ c69 rfl fun r hq _ => ?_
      subst hq
      (simp -implicitDefEqProofs only [go_sem, bA]; repeat (refine GO ?_; simp -implicitDefEqProofs only [go_sem, bA]))
end Yt
namespace Yt
open Go Go.Vc Go.Proofs
set_option maxRecDepth 10000
set_option maxHeartbeats 1000000
set_option linter.unusedSimpArgs false
set_option linter.unusedVariables false
/-- A sum, key by key. -/
def inK (Ks : List (List V)) (r : List V) : Bool := Ks.any fun k => decide (cmpR r k = 0)
theorem inK_mem {Ks : List (List V)} {r : List V} : inK Ks r = true ↔ r ∈ Ks := by
  simp only [inK, List.any_eq_true, decide_eq_true_eq]
  exact ⟨fun ⟨k, hk, e⟩ => by rw [lin_cmpR.eq _ _ e]; exact hk, fun h => ⟨r, h, cmpR_self r⟩⟩
theorem part_keys (key : It → List V) (f : It → Int) (L : List It) : ∀ (Ks : List (List V)), Ks.Nodup →
    (Ks.map fun k => ((L.filter fun t => decide (cmpR (key t) k = 0)).map f).sum).sum = ((L.filter fun t => inK Ks (key t)).map f).sum
  | [], _ => by
    have : L.filter (fun t => inK [] (key t)) = [] := by rw [List.filter_eq_nil_iff]; intro t _; simp [inK]
    rw [this]; rfl
  | k :: Ks, h => by
    obtain ⟨h1, h2⟩ := List.nodup_cons.1 h
    have ih := part_keys key f L Ks h2
    rw [List.map_cons, List.sum_cons, ih]
    clear ih
    induction L with
    | nil => simp
    | cons t L ihL =>
      have hc : inK (k :: Ks) (key t) = (decide (cmpR (key t) k = 0) || inK Ks (key t)) := by simp [inK]
      simp only [List.filter_cons, hc]
      by_cases e : cmpR (key t) k = 0
      · have e2 : key t = k := lin_cmpR.eq _ _ e
        have e3 : inK Ks (key t) = false := by
          cases h4 : inK Ks (key t) with
          | false => rfl
          | true => exact absurd (inK_mem.1 h4) (e2 ▸ h1)
        simp only [e, e3, decide_true, Bool.or_false, if_true, Bool.false_eq_true, if_false, List.map_cons, List.sum_cons]
        omega
      · cases e3 : inK Ks (key t) with
        | true =>
          simp only [e, decide_false, Bool.or_true, if_true, Bool.false_eq_true, if_false, List.map_cons, List.sum_cons]
          omega
        | false =>
          simp only [e, decide_false, Bool.or_false, Bool.false_eq_true, if_false]
          exact ihL
theorem GpI.nodup {cols : List Int} {y : List It} {gs : List Gp} (h : GpI cols y gs) : (gs.map Gp.at_).Nodup := by
  rw [List.Nodup, List.pairwise_map]
  exact h.up.imp fun {a b} hab e => by rw [e, cmpR_self] at hab; omega
theorem GpI.part {cols : List Int} {z : List It} {gs : List Gp} (h : GpI cols z gs) (hz : ∀ t ∈ z, t.w ≠ 0) (f : It → Int) : (gs.map fun g => (g.items.map f).sum).sum = ((z.filter posI).map f).sum := by
  have h1 := part_keys (fun t => pickR t.row cols) f (z.filter posI) (gs.map Gp.at_) h.nodup
  rw [List.map_map] at h1
  have e1 : ((z.filter posI).filter fun t => inK (gs.map Gp.at_) (pickR t.row cols)) = z.filter posI := by
    rw [List.filter_eq_self]
    intro t ht
    obtain ⟨h2, h3⟩ := List.mem_filter.1 ht
    simp only [posI, decide_eq_true_eq] at h3
    obtain ⟨g, hg, e⟩ := h.all t h2 (by omega)
    rw [inK_mem, ← e]
    exact List.mem_map_of_mem hg
  rw [e1] at h1
  rw [← h1]
  congr 1
  refine List.map_congr_left fun g hg => ?_
  simp only [Function.comp]
  rw [(h.pos hz).items g hg]
  congr 2
  refine List.filter_congr fun t ht => ?_
  have h3 := (List.mem_filter.1 ht).2
  simp only [posI, decide_eq_true_eq] at h3
  have : ¬ t.w < 0 := by omega
  simp [this]
/-- The one group of all. -/
def allG (z : List It) : List Gp := if z.filter posI = [] then [] else [⟨[], z.filter posI⟩]
theorem gpi_nil {z : List It} (hz : ∀ t ∈ z, t.w ≠ 0) : GpI [] z (allG z) := by
  have hf : ∀ t ∈ z, (!decide (t.w < 0) && decide (cmpR (pickR t.row []) [] = 0)) = posI t := fun t ht => by
    have := hz t ht
    have e : cmpR (pickR t.row []) [] = 0 := rfl
    by_cases e2 : 0 < t.w
    · have e3 : ¬ t.w < 0 := by omega
      simp [posI, e, e2, e3]
    · have e3 : t.w < 0 := by omega
      simp [posI, e2, e3]
  simp only [allG]
  split
  · rename_i h
    refine ⟨.nil, by simp, by simp, fun t ht hw => ?_⟩
    have := hz t ht
    have h2 : t ∈ z.filter posI := List.mem_filter.2 ⟨ht, by simp [posI]; omega⟩
    rw [h] at h2; cases h2
  · rename_i h
    refine ⟨List.pairwise_singleton _ _, fun g hg => ?_, by simpa using h, fun t ht hw => ⟨⟨[], z.filter posI⟩, by simp, rfl⟩⟩
    simp only [List.mem_singleton] at hg
    subst hg
    exact (List.filter_congr hf).symm
def leB (kind : Int) (o v : V) : Prop := if kind = 3 then cmpV o v ≤ 0 else 0 ≤ cmpV o v
/-- Is o the best of these? -/
def Best (kind : Int) (vals : List V) (o : V) : Prop := ((∀ v ∈ vals, v.k = 1) ∧ o = V.nul) ∨ (o ∈ vals ∧ o.k ≠ 1 ∧ ∀ v ∈ vals, v.k ≠ 1 → leB kind o v)
theorem cmpV_le {a b c : V} (h : cmpV a b ≤ 0) (h2 : cmpV b c ≤ 0) : cmpV a c ≤ 0 := by
  by_cases e : cmpV a b = 0
  · rw [lin_cmpV.eq _ _ e]; exact h2
  · by_cases e2 : cmpV b c = 0
    · rw [← lin_cmpV.eq _ _ e2]; exact h
    · have := lin_cmpV.trans a b c (by omega) (by omega); omega
theorem leB_trans {kind : Int} {a b c : V} (h : leB kind a b) (h2 : leB kind b c) : leB kind a c := by
  simp only [leB] at *
  split
  · rename_i e; rw [if_pos e] at h h2; exact cmpV_le h h2
  · rename_i e
    rw [if_neg e] at h h2
    have h3 := lin_cmpV.neg a b
    have h4 := lin_cmpV.neg b c
    have h5 := lin_cmpV.neg a c
    have := cmpV_le (a := c) (b := b) (c := a) (by omega) (by omega)
    omega
theorem leB_anti {kind : Int} {a b : V} (h : leB kind a b) (h2 : leB kind b a) : a = b := by
  simp only [leB] at *
  have h3 := lin_cmpV.neg a b
  split at h
  · rename_i e; rw [if_pos e] at h2; exact lin_cmpV.eq _ _ (by omega)
  · rename_i e; rw [if_neg e] at h2; exact lin_cmpV.eq _ _ (by omega)
theorem leB_self {kind : Int} (a : V) : leB kind a a := by
  have := lin_cmpV.self a
  simp only [leB]; split <;> omega
theorem bestF_acc {kind col : Int} (hk : kind = 3 ∨ kind = 4) : ∀ (l : List It) (pre : List V) (o : V), Best kind pre o → Best kind (pre ++ l.map fun t => getV t.row col) (bestF kind col l o)
  | [], pre, o, h => by simpa [bestF] using h
  | t :: l, pre, o, h => by
    have e : pre ++ (t :: l).map (fun t => getV t.row col) = (pre ++ [getV t.row col]) ++ l.map fun t => getV t.row col := by simp
    rw [e]
    simp only [bestF]
    split
    · rename_i h1
      refine bestF_acc hk l _ o ?_
      rcases h with ⟨h2, h3⟩ | ⟨h2, h3, h4⟩
      · refine .inl ⟨fun v hv => ?_, h3⟩
        rcases List.mem_append.1 hv with hv | hv
        · exact h2 v hv
        · simp at hv; rw [hv]; exact h1
      · refine .inr ⟨List.mem_append_left _ h2, h3, fun v hv hv1 => ?_⟩
        rcases List.mem_append.1 hv with hv | hv
        · exact h4 v hv hv1
        · simp at hv; rw [hv] at hv1; exact absurd h1 hv1
    · rename_i h1
      split
      · rename_i h5
        refine bestF_acc hk l _ _ (.inr ⟨by simp, h1, fun v hv hv1 => ?_⟩)
        rcases List.mem_append.1 hv with hv | hv
        · rcases h with ⟨h2, _⟩ | ⟨h2, h3, h4⟩
          · exact absurd (h2 v hv) hv1
          · refine leB_trans ?_ (h4 v hv hv1)
            simp only [leB]
            rcases h5 with h5 | ⟨h5, h6⟩ | ⟨h5, h6⟩
            · exact absurd h5 h3
            · rw [if_pos h5]; omega
            · rw [if_neg (by omega)]; omega
        · simp at hv; rw [hv]; exact leB_self _
      · rename_i h5
        refine bestF_acc hk l _ o ?_
        rcases h with ⟨h2, h3⟩ | ⟨h2, h3, h4⟩
        · exact absurd (.inl (by rw [h3]; rfl)) h5
        · refine .inr ⟨List.mem_append_left _ h2, h3, fun v hv hv1 => ?_⟩
          rcases List.mem_append.1 hv with hv | hv
          · exact h4 v hv hv1
          · simp at hv; rw [hv]
            have h6 := lin_cmpV.neg (getV t.row col) o
            simp only [leB]
            rcases hk with hk | hk
            · rw [if_pos hk]
              have : ¬ cmpV (getV t.row col) o < 0 := fun h => h5 (.inr (.inl ⟨hk, h⟩))
              omega
            · rw [if_neg (by omega)]
              have : ¬ 0 < cmpV (getV t.row col) o := fun h => h5 (.inr (.inr ⟨hk, h⟩))
              omega
theorem bestF_best {kind col : Int} (hk : kind = 3 ∨ kind = 4) (l : List It) : Best kind (l.map fun t => getV t.row col) (bestF kind col l V.nul) := by
  have := bestF_acc (col := col) hk l [] V.nul (.inl ⟨by simp, rfl⟩)
  simpa using this
theorem Best.uniq {kind : Int} {vals vals' : List V} {o o' : V} (h : Best kind vals o) (h' : Best kind vals' o') (hv : ∀ v, v.k ≠ 1 → (v ∈ vals ↔ v ∈ vals')) : o = o' := by
  rcases h with ⟨h1, h2⟩ | ⟨h1, h2, h3⟩ <;> rcases h' with ⟨h4, h5⟩ | ⟨h4, h5, h6⟩
  · rw [h2, h5]
  · exact absurd (h1 o' ((hv o' h5).2 h4)) h5
  · exact absurd (h4 o ((hv o h2).1 h1)) h2
  · exact leB_anti (h3 o' ((hv o' h5).2 h4) h5) (h6 o ((hv o h2).1 h1) h2)
/-- The best of bests is the best of all. -/
theorem Best.join {α : Type} {kind : Int} {gs : List α} {vals : α → List V} {best : α → V} {o : V} (hg : ∀ g ∈ gs, Best kind (vals g) (best g)) (h : Best kind (gs.map best) o) : Best kind (gs.flatMap vals) o := by
  rcases h with ⟨h1, h2⟩ | ⟨h1, h2, h3⟩
  · refine .inl ⟨fun v hv => ?_, h2⟩
    obtain ⟨g, hgm, hvg⟩ := List.mem_flatMap.1 hv
    have h4 := h1 _ (List.mem_map_of_mem hgm)
    rcases hg g hgm with ⟨h5, _⟩ | ⟨_, h5, _⟩
    · exact h5 v hvg
    · exact absurd h4 h5
  · obtain ⟨g, hgm, rfl⟩ := List.mem_map.1 h1
    rcases hg g hgm with ⟨_, h5⟩ | ⟨h4, h5, h6⟩
    · rw [h5] at h2; exact absurd rfl h2
    · refine .inr ⟨List.mem_flatMap.2 ⟨g, hgm, h4⟩, h2, fun v hv hv1 => ?_⟩
      obtain ⟨g', hgm', hvg⟩ := List.mem_flatMap.1 hv
      rcases hg g' hgm' with ⟨h7, _⟩ | ⟨h7, h8, h9⟩
      · exact absurd (h7 v hvg) hv1
      · exact leB_trans (h3 _ (List.mem_map_of_mem hgm') h8) (h9 v hvg hv1)
end Yt
