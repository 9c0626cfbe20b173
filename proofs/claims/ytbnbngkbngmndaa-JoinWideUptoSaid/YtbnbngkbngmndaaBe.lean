/- Contracts of the program's functions over abstract values and states, plain facts on which these lean, and the framework of these values over the model: Sets filtered, united, taken off. Columns picked; sets projected. The wake of chapter 16; what is left aside. Freezing; what is filtered is small. Plain facts of what is projected. Distinct rows; sets as what their makers answer, let go. Plain facts of distinct rows; the wake of chapter 18. Products in 64 bits; what meets. Rows side by side. The pairs that meet. Sets joined. What a join is more; the wake of chapter 17. Plain facts of joins. Few; the wake of chapter 17. The law JoinParts. Rows of two columns; sums over pairs. The law JoinSwaps. The law JoinFilters. The conditions stand in each theorem. -/
import Derived.Test.YtbnbngkbngmndaaBd
import Derived.Test.YtbnbngkbngmndaaBb
set_option linter.all false
namespace Yt
open Go Go.Vc Go.Proofs
set_option maxRecDepth 10000
set_option maxHeartbeats 8000000
set_option linter.unusedSimpArgs false
set_option linter.unusedVariables false
theorem c95 (p : Pr) (t : It) (ht : t.row.length < 4611686018427387904) : Spec0 Try.prog 95 [.ag t.c, .ro p.c 0] (· = bA (!holdsP p t.row)) := by
  refine spec0_of_vc tabOk elems ord95 Try.func95 rfl (rl := [.tmp 3]) rfl (by kernel_rfl) rfl ?_
  (simp -implicitDefEqProofs only [go_sem, It.c, rowA, iA, Pr.c]; repeat (refine GO ?_; simp -implicitDefEqProofs only [go_sem, It.c, rowA, iA, Pr.c]))
  refine .pure _ (c60 p t.row ht) rfl fun q hq _ => ?_
  subst hq
  (simp -implicitDefEqProofs only [go_sem, bA]; repeat (refine GO ?_; simp -implicitDefEqProofs only [go_sem, bA]))
theorem c51 (z : List It) (p : Pr) (hl : z.length ≤ 1048576) (hr : ∀ t ∈ z, t.row.length < 1073741824) :
    Spec1 Try.prog 51 [setA z, .ag p.c] (fun r o => ∃ (out : List It) (err : Int), r = .tu [.rf 0 0 out.length, iA err] ∧ o = so out ∧
      ((¬ Good z ∧ out = [] ∧ err = 1) ∨ (Good z ∧ out = (z.filter fun t => holdsP p t.row) ∧ err = 0))) := by
  refine spec1_of_vc tabOk elems ord51 Try.func51 rfl (rl := [.tmp 4, .tmp 5]) rfl (by kernel_rfl) rfl ?_
  (simp -implicitDefEqProofs only [go_sem, setA, Pr.c]; repeat (refine GO ?_; simp -implicitDefEqProofs only [go_sem, setA, Pr.c]))
  refine .pure _ (s16 z (by omega) (fun t ht => by have := hr t ht; omega)) rfl fun q hq _ => ?_
  obtain ⟨e, rfl, he, hg⟩ := hq
  (simp -implicitDefEqProofs only [go_sem, iA]; repeat (refine GO ?_; simp -implicitDefEqProofs only [go_sem, iA]))
  refine VIF.split (fun h => ?_) (fun h => ?_)
  · have h : e ≠ 0 := by simpa using h
    have h1 : e = 1 := by omega
    subst h1
    (simp -implicitDefEqProofs only [go_sem]; repeat (refine GO ?_; simp -implicitDefEqProofs only [go_sem]))
    refine FINmk [(0, none)] [(4, .rf 0 0 0), (5, iA 1)] [(0, so [])] [0] rfl ?_ ?_
    · (simp -implicitDefEqProofs only [go_sem, iA]; repeat (refine GO ?_; simp -implicitDefEqProofs only [go_sem, iA]))
      simp [so]
    · exact ⟨so [], ⟨⟨[], 1, rfl, rfl, .inl ⟨fun g => h (hg.2 g), rfl, rfl⟩⟩, rfl⟩, so_leafy [], rfl⟩
  · have h : e = 0 := by simpa using h
    have hg := hg.1 h
    (simp -implicitDefEqProofs only [go_sem]; repeat (refine GO ?_; simp -implicitDefEqProofs only [go_sem]))
    refine .make 14 _ (s57 z hl hr) rfl (by simp) rfl fun q o hq _ => ?_
    obtain ⟨rfl, rfl⟩ := hq
    simp -implicitDefEqProofs only [go_sem]
    refine TO [(14, some 14)] [(14, .rf 14 0 z.length), (15, .fn 95 [.ro p.c 0])] [(14, so z)] [14] rfl ?_ ?_
    · (simp -implicitDefEqProofs only [go_sem, so, Pr.c]; repeat (refine GO ?_; simp -implicitDefEqProofs only [go_sem, so, Pr.c]))
      exact ⟨id, ⟨by decide, _, rfl, by simp [Ob.leafy, AV.leaf], rfl⟩, .same (so z) _ _ (so_leafy z) rfl⟩
    (simp -implicitDefEqProofs only [go_sem, so]; repeat (refine GO ?_; simp -implicitDefEqProofs only [go_sem, so]))
    refine .both 14 (so z) _ [.rf 0 0 z.length, .fn 95 [.ro p.c 0]] (c82 95 [.ro p.c 0] rfl (fun t => !holdsP p t.row) (fun t => t.row.length < 4611686018427387904) (fun t ht => c95 p t ht) z (fun t ht => by have := hr t ht; omega) hl) rfl (so_leafy z) rfl rfl fun q o' hq hlf => ?_
    obtain ⟨y, hy, rfl, hsz, hes⟩ := hq
    have hy : y = z.filter fun t => holdsP p t.row := by rw [hy]; congr 1; funext t; simp
    have hyl : y.length ≤ z.length := by rw [hy]; exact List.length_filter_le _ _
    simp -implicitDefEqProofs only [go_sem]
    refine TO [] [(17, setA y)] [] [] rfl ?_ ?_
    · (simp -implicitDefEqProofs only [go_sem, setA]; repeat (refine GO ?_; simp -implicitDefEqProofs only [go_sem, setA]))
      exact ⟨id, by decide, _, rfl, hlf, hsz, hes⟩
    (simp -implicitDefEqProofs only [go_sem, setA]; repeat (refine GO ?_; simp -implicitDefEqProofs only [go_sem, setA]))
    refine .make 18 _ (s38 y (by omega)) rfl (by simp) rfl fun q o hq _ => ?_
    obtain ⟨rfl, rfl⟩ := hq
    (simp -implicitDefEqProofs only [go_sem]; repeat (refine GO ?_; simp -implicitDefEqProofs only [go_sem]))
    refine FINmk [(0, some 18)] [(4, .rf 0 0 y.length), (5, iA 0)] [(0, so y)] [0] rfl ?_ ?_
    · (simp -implicitDefEqProofs only [go_sem, so, iA]; repeat (refine GO ?_; simp -implicitDefEqProofs only [go_sem, so, iA]))
      exact .same (so y) _ _ (so_leafy y) rfl
    · exact ⟨so y, ⟨⟨y, 0, rfl, rfl, .inr ⟨hg, hy, rfl⟩⟩, rfl⟩, so_leafy y, rfl⟩
theorem c54 (a b : List It) (hl : a.length + b.length ≤ 1048576) (ha : ∀ t ∈ a, t.row.length < 1073741824) (hb : ∀ t ∈ b, t.row.length < 1073741824) :
    Spec1 Try.prog 54 [setA a, setA b] (fun r o => ∃ (out : List It) (err : Int), r = .tu [.rf 0 0 out.length, iA err] ∧ o = so out ∧ AddR a b out err) := by
  refine spec1_of_vc tabOk elems ord54 Try.func54 rfl (rl := [.tmp 4, .tmp 5]) rfl (by kernel_rfl) rfl ?_
  (simp -implicitDefEqProofs only [go_sem, setA]; repeat (refine GO ?_; simp -implicitDefEqProofs only [go_sem, setA]))
  refine .make 8 _ (s23 a b hl ha hb) rfl (by simp) rfl fun q o hq _ => ?_
  obtain ⟨out, err, rfl, rfl, hm⟩ := hq
  (simp -implicitDefEqProofs only [go_sem, iA]; repeat (refine GO ?_; simp -implicitDefEqProofs only [go_sem, iA]))
  refine FINmk [(0, some 8)] [(4, .rf 0 0 out.length), (5, iA err)] [(0, so out)] [0] rfl ?_ ?_
  · (simp -implicitDefEqProofs only [go_sem, so, iA]; repeat (refine GO ?_; simp -implicitDefEqProofs only [go_sem, so, iA]))
    exact .same (so out) _ _ (so_leafy out) rfl
  · exact ⟨so out, ⟨⟨out, err, rfl, rfl, hm⟩, rfl⟩, so_leafy out, rfl⟩
/-- What is left of one set, the other taken off. -/
def MinR (a b out : List It) (err : Int) : Prop := (¬ (Good a ∧ Good b) ∧ out = [] ∧ err = 1) ∨ (Good a ∧ Good b ∧ MakeR (a ++ b.map negI) out err)
theorem good_neg {z : List It} (h : Good z) : Good (z.map negI) := by
  obtain ⟨h1, h2⟩ := good_made.1 h
  exact good_made.2 ⟨made_neg h1, fun t ht => by obtain ⟨u, hu, rfl⟩ := List.mem_map.1 ht; exact h2 u hu⟩
theorem c55 (a b : List It) (hl : a.length + b.length ≤ 1048576) (ha : ∀ t ∈ a, t.row.length < 1073741824) (hb : ∀ t ∈ b, t.row.length < 1073741824) :
    Spec1 Try.prog 55 [setA a, setA b] (fun r o => ∃ (out : List It) (err : Int), r = .tu [.rf 0 0 out.length, iA err] ∧ o = so out ∧ MinR a b out err) := by
  refine spec1_of_vc tabOk elems ord55 Try.func55 rfl (rl := [.tmp 4, .tmp 5]) rfl (by kernel_rfl) rfl ?_
  (simp -implicitDefEqProofs only [go_sem, setA]; repeat (refine GO ?_; simp -implicitDefEqProofs only [go_sem, setA]))
  have bad : ∀ s : St, s.regs 4 = .nl → s.regs 5 = .pr (.int .i64 1) → ¬ (Good a ∧ Good b) → FIN T noOb [.tmp 4, .tmp 5] (fun r O' => ∃ o, ((∃ (out : List It) (err : Int), r = .tu [.rf 0 0 out.length, iA err] ∧ o = so out ∧ MinR a b out err) ∧ r.only0 = true) ∧ o.leafy ∧ O' = upd noOb 0 (some o)) s := by
    intro s h4 h5 hn
    refine FINmk [(0, none)] [(4, .rf 0 0 0), (5, iA 1)] [(0, so [])] [0] rfl ?_ ?_
    · (simp -implicitDefEqProofs only [go_sem, iA, h4, h5]; repeat (refine GO ?_; simp -implicitDefEqProofs only [go_sem, iA, h4, h5]))
      simp [so]
    · exact ⟨so [], ⟨⟨[], 1, rfl, rfl, .inl ⟨hn, rfl, rfl⟩⟩, rfl⟩, so_leafy [], rfl⟩
  refine .pure _ (s16 a (by omega) (fun t ht => by have := ha t ht; omega)) rfl fun q hq _ => ?_
  obtain ⟨e, rfl, he, hg⟩ := hq
  (simp -implicitDefEqProofs only [go_sem, iA]; repeat (refine GO ?_; simp -implicitDefEqProofs only [go_sem, iA]))
  refine VIF.split (fun h => ?_) (fun h => ?_)
  · have h : e ≠ 0 := by simpa using h
    have h1 : e = 1 := by omega
    subst h1
    (simp -implicitDefEqProofs only [go_sem]; repeat (refine GO ?_; simp -implicitDefEqProofs only [go_sem]))
    exact bad _ rfl rfl fun g => h (hg.2 g.1)
  · have h : e = 0 := by simpa using h
    have hg := hg.1 h
    (simp -implicitDefEqProofs only [go_sem]; repeat (refine GO ?_; simp -implicitDefEqProofs only [go_sem]))
    refine .make 15 _ (s31 b (by omega) hb) rfl (by simp) rfl fun q o hq _ => ?_
    obtain ⟨n, err, rfl, rfl, hn⟩ := hq
    (simp -implicitDefEqProofs only [go_sem, iA, so]; repeat (refine GO ?_; simp -implicitDefEqProofs only [go_sem, iA, so]))
    refine VIF.split (fun h2 => ?_) (fun h2 => ?_)
    · have h2 : err ≠ 0 := by simpa using h2
      obtain ⟨hb2, rfl, rfl⟩ : ¬ Good b ∧ n = [] ∧ err = 1 := by
        rcases hn with h | ⟨_, _, h⟩
        · exact h
        · exact absurd h h2
      (simp -implicitDefEqProofs only [go_sem]; repeat (refine GO ?_; simp -implicitDefEqProofs only [go_sem]))
      exact bad _ rfl rfl fun g => hb2 g.2
    · have h2 : err = 0 := by simpa using h2
      obtain ⟨hb2, rfl⟩ : Good b ∧ n = b.map negI := by
        rcases hn with ⟨_, _, h⟩ | ⟨h, h3, _⟩
        · omega
        · exact ⟨h, h3⟩
      simp -implicitDefEqProofs only [go_sem]
      refine GO ?_
      simp -implicitDefEqProofs only [go_sem]
      refine TO [] [(21, setA a), (22, setA (b.map negI))] [] [] rfl ?_ ?_
      · (simp -implicitDefEqProofs only [go_sem, setA]; repeat (refine GO ?_; simp -implicitDefEqProofs only [go_sem, setA]))
        exact ⟨id, by decide, _, rfl, so_leafy (b.map negI), rfl, List.take_of_length_le (by simp)⟩
      (simp -implicitDefEqProofs only [go_sem, setA]; repeat (refine GO ?_; simp -implicitDefEqProofs only [go_sem, setA]))
      refine .make 23 _ (s23 a (b.map negI) (by rw [List.length_map]; exact hl) ha (fun t ht => by obtain ⟨u, hu, rfl⟩ := List.mem_map.1 ht; exact hb u hu)) rfl (by simp) rfl fun q o hq _ => ?_
      obtain ⟨out, err, rfl, rfl, hm⟩ := hq
      have hm : MakeR (a ++ b.map negI) out err := by
        rcases hm with ⟨h, _⟩ | ⟨_, _, h⟩
        · exact absurd ⟨hg, good_neg hb2⟩ h
        · exact h
      (simp -implicitDefEqProofs only [go_sem, iA]; repeat (refine GO ?_; simp -implicitDefEqProofs only [go_sem, iA]))
      refine FINmk [(0, some 23)] [(4, .rf 0 0 out.length), (5, iA err)] [(0, so out)] [0] rfl ?_ ?_
      · (simp -implicitDefEqProofs only [go_sem, so, iA]; repeat (refine GO ?_; simp -implicitDefEqProofs only [go_sem, so, iA]))
        exact .same (so out) _ _ (so_leafy out) rfl
      · exact ⟨so out, ⟨⟨out, err, rfl, rfl, .inr ⟨hg, hb2, hm⟩⟩, rfl⟩, so_leafy out, rfl⟩
end Yt
namespace Yt
open Go Go.Vc Go.Proofs
set_option maxRecDepth 10000
set_option maxHeartbeats 8000000
set_option linter.unusedSimpArgs false
set_option linter.unusedVariables false
def intsL (l : List Int) : AV := .im 1 (l.map fun n => [iA n])
theorem c132 (g : Nat) (caps : List AV) (hc : noIds caps = true) (p : Int → Bool) (hg : ∀ n : Int, Spec0 Try.prog g (iA n :: caps) (· = bA (p n))) (a : List Int) (ha : a.length < 4611686018427387904) :
    Spec0 Try.prog 132 [intsL a, .fn g caps] (· = idxA p a) := by
  refine spec0_of_vc tabOk elems ord132 Try.func132 rfl (rl := [.tmp 4]) rfl (by kernel_rfl) rfl ?_
  (simp -implicitDefEqProofs only [go_sem, intsL]; repeat (refine GO ?_; simp -implicitDefEqProofs only [go_sem, intsL]))
  refine LOOP.mk (ι := { i : Nat // i ≤ a.length ∧ ∀ j (hj : j < a.length), j < i → p a[j] = false }) (fun i => mkS [(0, intsL a), (1, .fn g caps), (7, iA a.length), (8, iA i.1)] [] []) (fun i => a.length - i.1)
    ⟨0, by simp⟩ [] rfl rfl ?_ (fun i => ?_)
  · (simp -implicitDefEqProofs only [go_sem, intsL, iA]; repeat (refine GO ?_; simp -implicitDefEqProofs only [go_sem, intsL, iA]))
    exact ⟨id, wks_noId caps hc, rfl⟩
  · obtain ⟨i, hi, hz⟩ := i
    (simp -implicitDefEqProofs only [go_sem, intsL, iA]; repeat (refine GO ?_; simp -implicitDefEqProofs only [go_sem, intsL, iA]))
    refine VIF.split (fun h => ?_) (fun h => ?_)
    · have hi' : i < a.length := by simpa using h
      have w1 := wrap_add1 (show i < 4611686018427387904 by omega)
      (simp -implicitDefEqProofs only [go_sem]; repeat (refine GO ?_; simp -implicitDefEqProofs only [go_sem]))
      refine EL.map hi' ?_
      (simp -implicitDefEqProofs only [go_sem]; repeat (refine GO ?_; simp -implicitDefEqProofs only [go_sem]))
      refine .pure _ (hg a[i]) (by simpa [noIds, AV.noId, iA] using hc) fun r hr _ => ?_
      subst hr
      (simp -implicitDefEqProofs only [go_sem, bA]; repeat (refine GO ?_; simp -implicitDefEqProofs only [go_sem, bA]))
      refine VIF.split (fun e => ?_) (fun e => ?_)
      · (simp -implicitDefEqProofs only [go_sem]; repeat (refine GO ?_; simp -implicitDefEqProofs only [go_sem]))
        have : a.findIdx? p = some i := by
          rw [List.findIdx?_eq_some_iff_getElem]
          exact ⟨hi', e, fun j hj => by simpa using hz j (by omega) hj⟩
        simp [idxA, this, idxI, iA]
      · (simp -implicitDefEqProofs only [go_sem, w1]; repeat (refine GO ?_; simp -implicitDefEqProofs only [go_sem, w1]))
        refine BACK.mk ⟨i + 1, by omega, fun j hj hji => ?_⟩ [] rfl rfl (by show a.length - (i + 1) < a.length - i; omega) ?_
        · by_cases e2 : j = i
          · subst e2; exact e
          · exact hz j hj (by omega)
        · (simp -implicitDefEqProofs only [go_sem, intsL, iA, w1]; repeat (refine GO ?_; simp -implicitDefEqProofs only [go_sem, intsL, iA, w1]))
          exact ⟨id, wks_noId caps hc⟩
    · have h : i = a.length := by simp at h; omega
      subst h
      (simp -implicitDefEqProofs only [go_sem]; repeat (refine GO ?_; simp -implicitDefEqProofs only [go_sem]))
      have : a.findIdx? p = none := by
        rw [List.findIdx?_eq_none_iff]; intro x hx
        obtain ⟨j, hj, rfl⟩ := List.mem_iff_getElem.1 hx
        exact hz j hj hj
      simp [idxA, this, idxI, iA]
theorem c102 (g : Nat) (caps : List AV) (hc : noIds caps = true) (p : Int → Bool) (hg : ∀ n : Int, Spec0 Try.prog g (iA n :: caps) (· = bA (p n))) (a : List Int) (ha : a.length < 4611686018427387904) :
    Spec0 Try.prog 102 [intsL a, .fn g caps] (· = bA (a.any p)) := by
  refine spec0_of_vc tabOk elems ord102 Try.func102 rfl (rl := [.tmp 4]) rfl (by kernel_rfl) rfl ?_
  (simp -implicitDefEqProofs only [go_sem, intsL]; repeat (refine GO ?_; simp -implicitDefEqProofs only [go_sem, intsL]))
  refine .pure _ (c132 g caps hc p hg a ha) (by simpa [noIds, AV.noId, intsL] using hc) fun r hr _ => ?_
  subst hr
  (simp -implicitDefEqProofs only [go_sem, idxA, iA]; repeat (refine GO ?_; simp -implicitDefEqProofs only [go_sem, idxA, iA]))
  rw [idx_any]; rfl
def outC (n : Nat) (c : Int) : Bool := decide (c < 0) || decide ((n : Int) ≤ c)
theorem c103 (r : List V) (c : Int) : Spec0 Try.prog 103 [iA c, .ro [rowA r] 0] (· = bA (outC r.length c)) := by
  refine spec0_of_vc tabOk elems ord103 Try.func103 rfl (rl := [.tmp 3]) rfl (by kernel_rfl) rfl ?_
  (simp -implicitDefEqProofs only [go_sem, iA, rowA]; repeat (refine GO ?_; simp -implicitDefEqProofs only [go_sem, iA, rowA]))
  refine VIF.split (fun h => ?_) (fun h => ?_)
  · (simp -implicitDefEqProofs only [go_sem]; repeat (refine GO ?_; simp -implicitDefEqProofs only [go_sem]))
    simp at h; simp [outC, bA, h]
  · (simp -implicitDefEqProofs only [go_sem]; repeat (refine GO ?_; simp -implicitDefEqProofs only [go_sem]))
    have h : ¬ c < 0 := by simpa using h
    simp [outC, bA, h]
/-- What is picked of a row, or why not. -/
def pickE (r : List V) (cols : List Int) : Int := if cols.any (outC r.length) then 1 else if 12 < cols.length then 2 else 0
def pickR (r : List V) (cols : List Int) : List V := cols.map (getV r)
theorem c61 (r : List V) (cols : List Int) (hr : r.length < 1073741824) (hc : cols.length < 1073741824) :
    Spec1 Try.prog 61 [rowA r, intsL cols] (fun q o => ∃ (out : List V) (err : Int), q = .tu [.rf 0 0 out.length, iA err] ∧ o = ro3 out ∧ err = pickE r cols ∧ (err = 0 → out = pickR r cols) ∧ (err ≠ 0 → out = [])) := by
  refine spec1_of_vc tabOk elems ord61 Try.func61 rfl (rl := [.tmp 4, .tmp 5]) rfl (by kernel_rfl) rfl ?_
  (simp -implicitDefEqProofs only [go_sem, rowA, intsL]; repeat (refine GO ?_; simp -implicitDefEqProofs only [go_sem, rowA, intsL]))
  refine .lendTo (c102 103 [.ro [rowA r] 0] rfl (outC r.length) (fun n => c103 r n) cols (by omega)) ?_ (by rintro _ rfl; rfl) fun q hq => ?_
  · (simp -implicitDefEqProofs only [go_sem, rowA, intsL]; repeat (refine GO ?_; simp -implicitDefEqProofs only [go_sem, rowA, intsL]))
  subst hq
  have bad : ∀ (e : Int) (s : St), e ≠ 0 → e = pickE r cols → s.regs 4 = .nl → s.regs 5 = .pr (.int .i64 e) → FIN T noOb [.tmp 4, .tmp 5] (fun q O' => ∃ o, ((∃ (out : List V) (err : Int), q = .tu [.rf 0 0 out.length, iA err] ∧ o = ro3 out ∧ err = pickE r cols ∧ (err = 0 → out = pickR r cols) ∧ (err ≠ 0 → out = [])) ∧ q.only0 = true) ∧ o.leafy ∧ O' = upd noOb 0 (some o)) s := by
    intro e s he hp h4 h5
    refine FINmk [(0, none)] [(4, .rf 0 0 0), (5, iA e)] [(0, ro3 [])] [0] rfl ?_ ?_
    · (simp -implicitDefEqProofs only [go_sem, iA, h4, h5]; repeat (refine GO ?_; simp -implicitDefEqProofs only [go_sem, iA, h4, h5]))
      simp [ro3]
    · exact ⟨ro3 [], ⟨⟨[], e, rfl, rfl, hp, fun h => absurd h he, fun _ => rfl⟩, rfl⟩, ro3_leafy [], rfl⟩
  (simp -implicitDefEqProofs only [go_sem, bA]; repeat (refine GO ?_; simp -implicitDefEqProofs only [go_sem, bA]))
  refine VIF.split (fun h => ?_) (fun h => ?_)
  · (simp -implicitDefEqProofs only [go_sem]; repeat (refine GO ?_; simp -implicitDefEqProofs only [go_sem]))
    exact bad 1 _ (by decide) (by rw [pickE, if_pos h]) rfl rfl
  · (simp -implicitDefEqProofs only [go_sem]; repeat (refine GO ?_; simp -implicitDefEqProofs only [go_sem]))
    refine VIF.split (fun h2 => ?_) (fun h2 => ?_)
    · have h2 : 12 < cols.length := by simp at h2; omega
      (simp -implicitDefEqProofs only [go_sem]; repeat (refine GO ?_; simp -implicitDefEqProofs only [go_sem]))
      exact bad 2 _ (by decide) (by rw [pickE, if_neg (by simp [h]), if_pos h2]) rfl rfl
    · have h2 : ¬ 12 < cols.length := by simp at h2; omega
      have hp : pickE r cols = 0 := by rw [pickE, if_neg (by simp [h]), if_neg h2]
      have hin : ∀ i (hi : i < cols.length), 0 ≤ cols[i] ∧ cols[i].toNat < r.length := fun i hi => by
        rw [List.any_eq_false] at h
        have := h cols[i] (List.getElem_mem hi)
        simp [outC] at this
        omega
      (simp -implicitDefEqProofs only [go_sem]; repeat (refine GO ?_; simp -implicitDefEqProofs only [go_sem]))
      refine LOOP.mk (ι := { i : Nat // i ≤ cols.length }) (fun p => mkS [(2, .pt 1001 0 0), (6, .rf 1000 0 p.1), (17, intsL cols), (18, iA cols.length), (19, iA p.1)] [(1000, ro3 (pickR r (cols.take p.1))), (1001, ⟨1, [[rowA r]]⟩)] [1000, 1001])
        (fun p => cols.length - p.1) ⟨0, Nat.zero_le _⟩ [(1000, none), (1001, some 2)] rfl rfl ?_ (fun p => ?_)
      · (simp -implicitDefEqProofs only [go_sem, intsL, iA, ro3, rowA]; repeat (refine GO ?_; simp -implicitDefEqProofs only [go_sem, intsL, iA, ro3, rowA]))
        exact ⟨id, rfl, rfl, .same ⟨1, [[rowA r]]⟩ _ _ (by simp [AV.leaf]) rfl⟩
      · obtain ⟨i, hi⟩ := p
        (simp -implicitDefEqProofs only [go_sem, intsL, iA, ro3, rowA]; repeat (refine GO ?_; simp -implicitDefEqProofs only [go_sem, intsL, iA, ro3, rowA]))
        refine VIF.split (fun h3 => ?_) (fun h3 => ?_)
        · have h3 : i < cols.length := by simpa using h3
          have w1 := wrap_add1 (show i < 4611686018427387904 by omega)
          obtain ⟨g1, g2⟩ := hin i h3
          (simp -implicitDefEqProofs only [go_sem]; repeat (refine GO ?_; simp -implicitDefEqProofs only [go_sem]))
          refine EL.map h3 ?_
          (simp -implicitDefEqProofs only [go_sem]; repeat (refine GO ?_; simp -implicitDefEqProofs only [go_sem]))
          refine ⟨g1, EL.map g2 ?_⟩
          (simp -implicitDefEqProofs only [go_sem, V.c]; repeat (refine GO ?_; simp -implicitDefEqProofs only [go_sem, V.c]))
          refine ⟨by omega, ?_⟩
          have hpl : (pickR r (cols.take i)).length = i := by simp [pickR]; omega
          have e1 : (List.map V.c (pickR r (cols.take i))).take i ++ [V.c (r[cols[i].toNat]'g2)] = List.map V.c (pickR r (cols.take (i + 1))) := by
            have hgv : getV r cols[i] = r[cols[i].toNat]'g2 := by simp [getV, g2]
            rw [List.take_of_length_le (by rw [List.length_map]; omega), List.take_succ_eq_append_getElem h3, pickR, pickR, List.map_append, List.map_append]
            simp only [List.map_cons, List.map_nil, hgv]
          refine BACK.mk ⟨i + 1, by omega⟩ [(1000, some 29), (1001, some 1001)] rfl rfl (by show cols.length - (i + 1) < cols.length - i; omega) ?_
          (simp -implicitDefEqProofs only [go_sem, intsL, iA, ro3, rowA, w1]; repeat (refine GO ?_; simp -implicitDefEqProofs only [go_sem, intsL, iA, ro3, rowA, w1]))
          exact ⟨id, .same (ro3 []) _ _ (fun x hx => ro3_leafy (pickR r (cols.take (i + 1))) x (by rw [ro3]; exact e1 ▸ hx)) e1, .same ⟨1, [[rowA r]]⟩ _ _ (by simp [AV.leaf]) rfl⟩
        · have h3 : i = cols.length := by simp at h3; omega
          subst h3
          (simp -implicitDefEqProofs only [go_sem, List.take_length]; repeat (refine GO ?_; simp -implicitDefEqProofs only [go_sem, List.take_length]))
          refine FINmk [(0, some 1000)] [(4, .rf 0 0 cols.length), (5, iA 0)] [(0, ro3 (pickR r cols))] [0] rfl ?_ ?_
          · (simp -implicitDefEqProofs only [go_sem, ro3, iA]; repeat (refine GO ?_; simp -implicitDefEqProofs only [go_sem, ro3, iA]))
            exact .same (ro3 (pickR r cols)) _ _ (ro3_leafy (pickR r cols)) rfl
          · exact ⟨ro3 (pickR r cols), ⟨⟨pickR r cols, 0, by rw [pickR, List.length_map]; rfl, rfl, hp.symm, fun _ => rfl, fun h => absurd rfl h⟩, rfl⟩, ro3_leafy (pickR r cols), rfl⟩
/-- An item projected. -/
def projI (cols : List Int) (t : It) : It := ⟨pickR t.row cols, t.w⟩
/-- What is projected: out, and the refusal. -/
def ProjR (z : List It) (cols : List Int) (out : List It) (err : Int) : Prop :=
  (¬ Good z ∧ out = [] ∧ err = 1) ∨ (Good z ∧ (∃ t ∈ z, pickE t.row cols = err) ∧ err ≠ 0 ∧ out = []) ∨
  (Good z ∧ (∀ t ∈ z, pickE t.row cols = 0) ∧ MakeR (z.map (projI cols)) out err)
theorem c49 (z : List It) (cols : List Int) (hl : z.length ≤ 1048576) (hr : ∀ t ∈ z, t.row.length < 1073741824) (hc : cols.length < 1073741824) :
    Spec1 Try.prog 49 [setA z, intsL cols] (fun r o => ∃ (out : List It) (err : Int), r = .tu [.rf 0 0 out.length, iA err] ∧ o = so out ∧ ProjR z cols out err) := by
  refine spec1_of_vc tabOk elems ord49 Try.func49 rfl (rl := [.tmp 4, .tmp 5]) rfl (by kernel_rfl) rfl ?_
  (simp -implicitDefEqProofs only [go_sem, setA, intsL]; repeat (refine GO ?_; simp -implicitDefEqProofs only [go_sem, setA, intsL]))
  have bad : ∀ (e : Int) (s : St), s.regs 4 = .nl → s.regs 5 = .pr (.int .i64 e) → ProjR z cols [] e → FIN T noOb [.tmp 4, .tmp 5] (fun r O' => ∃ o, ((∃ (out : List It) (err : Int), r = .tu [.rf 0 0 out.length, iA err] ∧ o = so out ∧ ProjR z cols out err) ∧ r.only0 = true) ∧ o.leafy ∧ O' = upd noOb 0 (some o)) s := by
    intro e s h4 h5 hn
    refine FINmk [(0, none)] [(4, .rf 0 0 0), (5, iA e)] [(0, so [])] [0] rfl ?_ ?_
    · (simp -implicitDefEqProofs only [go_sem, iA, h4, h5]; repeat (refine GO ?_; simp -implicitDefEqProofs only [go_sem, iA, h4, h5]))
      simp [so]
    · exact ⟨so [], ⟨⟨[], e, rfl, rfl, hn⟩, rfl⟩, so_leafy [], rfl⟩
  refine .pure _ (s16 z (by omega) (fun t ht => by have := hr t ht; omega)) rfl fun q hq _ => ?_
  obtain ⟨e, rfl, he, hg⟩ := hq
  (simp -implicitDefEqProofs only [go_sem, iA]; repeat (refine GO ?_; simp -implicitDefEqProofs only [go_sem, iA]))
  refine VIF.split (fun h => ?_) (fun h => ?_)
  · have h : e ≠ 0 := by simpa using h
    have h1 : e = 1 := by omega
    subst h1
    (simp -implicitDefEqProofs only [go_sem]; repeat (refine GO ?_; simp -implicitDefEqProofs only [go_sem]))
    exact bad 1 _ rfl rfl (.inl ⟨fun g => h (hg.2 g), rfl, rfl⟩)
  · have h : e = 0 := by simpa using h
    have hg := hg.1 h
    (simp -implicitDefEqProofs only [go_sem]; repeat (refine GO ?_; simp -implicitDefEqProofs only [go_sem]))
    refine LOOP.mk (ι := { i : Nat // i ≤ z.length ∧ ∀ j (hj : j < z.length), j < i → pickE z[j].row cols = 0 }) (fun p => mkS [(1, intsL cols), (7, .rf 1000 0 p.1), (17, setA z), (18, iA z.length), (19, iA p.1)] [(1000, so ((z.take p.1).map (projI cols)))] [1000])
      (fun p => z.length - p.1) ⟨0, Nat.zero_le _, fun j _ h => absurd h (Nat.not_lt_zero _)⟩ [(1000, none)] rfl rfl ?_ (fun p => ?_)
    · (simp -implicitDefEqProofs only [go_sem, setA, intsL, iA, so]; repeat (refine GO ?_; simp -implicitDefEqProofs only [go_sem, setA, intsL, iA, so]))
      exact ⟨id, rfl, rfl⟩
    · obtain ⟨i, hi, hz⟩ := p
      (simp -implicitDefEqProofs only [go_sem, setA, intsL, iA, so]; repeat (refine GO ?_; simp -implicitDefEqProofs only [go_sem, setA, intsL, iA, so]))
      refine VIF.split (fun h1 => ?_) (fun h1 => ?_)
      · have h1 : i < z.length := by simpa using h1
        have w1 := wrap_add1 (show i < 4611686018427387904 by omega)
        (simp -implicitDefEqProofs only [go_sem]; repeat (refine GO ?_; simp -implicitDefEqProofs only [go_sem]))
        refine EL.map h1 ?_
        (simp -implicitDefEqProofs only [go_sem, It.c]; repeat (refine GO ?_; simp -implicitDefEqProofs only [go_sem, It.c]))
        refine .make 27 _ (c61 z[i].row cols (hr _ (List.getElem_mem h1)) hc) rfl (by simp) rfl fun q o hq hlf => ?_
        obtain ⟨out, err, rfl, rfl, he2, ho1, ho2⟩ := hq
        (simp -implicitDefEqProofs only [go_sem, iA]; repeat (refine GO ?_; simp -implicitDefEqProofs only [go_sem, iA]))
        refine VIF.split (fun h2 => ?_) (fun h2 => ?_)
        · have h2 : err ≠ 0 := by simpa using h2
          (simp -implicitDefEqProofs only [go_sem]; repeat (refine GO ?_; simp -implicitDefEqProofs only [go_sem]))
          exact bad err _ rfl rfl (.inr (.inl ⟨hg, ⟨_, List.getElem_mem h1, he2.symm⟩, h2, rfl⟩))
        · have h2 : err = 0 := by simpa using h2
          subst h2
          have ho1 := ho1 rfl
          subst ho1
          (simp -implicitDefEqProofs only [go_sem, w1]; repeat (refine GO ?_; simp -implicitDefEqProofs only [go_sem, w1]))
          refine ⟨by omega, ?_⟩
          refine BACK.mk ⟨i + 1, by omega, fun j hj hji => ?_⟩ [(1000, some 39)] rfl rfl (by show z.length - (i + 1) < z.length - i; omega) ?_
          · by_cases e2 : j = i
            · subst e2; exact he2.symm
            · exact hz j hj (by omega)
          · (simp -implicitDefEqProofs only [go_sem, setA, intsL, iA, so, w1]; repeat (refine GO ?_; simp -implicitDefEqProofs only [go_sem, setA, intsL, iA, so, w1]))
            refine ⟨id, ?_⟩
            rw [List.take_of_length_le (l := List.map It.c (List.map (projI cols) (z.take i))) (by simp; omega), List.take_succ_eq_append_getElem h1, List.map_append, List.map_append]
            refine Es_snoc (fun x hx a ha => so_leafy ((z.take i).map (projI cols)) x hx a ha) ?_
            (simp -implicitDefEqProofs only [go_sem, It.c, rowA, iA]; repeat (refine GO ?_; simp -implicitDefEqProofs only [go_sem, It.c, rowA, iA]))
            exact ⟨⟨by decide, _, rfl, hlf, rfl, List.take_of_length_le (by simp [ro3])⟩, rfl⟩
      · have h1 : i = z.length := by simp at h1; omega
        subst h1
        have hz : ∀ t ∈ z, pickE t.row cols = 0 := fun t ht => by
          obtain ⟨j, hj, rfl⟩ := List.mem_iff_getElem.1 ht
          exact hz j hj hj
        simp -implicitDefEqProofs only [go_sem, List.take_length]
        refine GO ?_
        simp -implicitDefEqProofs only [go_sem]
        refine TO [] [(41, setA (z.map (projI cols)))] [] [] rfl ?_ ?_
        · (simp -implicitDefEqProofs only [go_sem, setA]; repeat (refine GO ?_; simp -implicitDefEqProofs only [go_sem, setA]))
          exact ⟨id, by decide, _, rfl, so_leafy (z.map (projI cols)), rfl, List.take_of_length_le (by simp)⟩
        (simp -implicitDefEqProofs only [go_sem, setA]; repeat (refine GO ?_; simp -implicitDefEqProofs only [go_sem, setA]))
        refine .make 42 _ (s11 (z.map (projI cols)) (by simpa using hl) (fun t ht => by obtain ⟨u, hu, rfl⟩ := List.mem_map.1 ht; simpa [pickR, projI] using hc)) rfl (by simp) rfl fun q o hq _ => ?_
        obtain ⟨out, err, rfl, rfl, hm⟩ := hq
        (simp -implicitDefEqProofs only [go_sem, iA]; repeat (refine GO ?_; simp -implicitDefEqProofs only [go_sem, iA]))
        refine FINmk [(0, some 42)] [(4, .rf 0 0 out.length), (5, iA err)] [(0, so out)] [0] rfl ?_ ?_
        · (simp -implicitDefEqProofs only [go_sem, so, iA]; repeat (refine GO ?_; simp -implicitDefEqProofs only [go_sem, so, iA]))
          exact .same (so out) _ _ (so_leafy out) rfl
        · exact ⟨so out, ⟨⟨out, err, rfl, rfl, .inr (.inr ⟨hg, hz, hm⟩)⟩, rfl⟩, so_leafy out, rfl⟩
end Yt
namespace Yt
open Go Go.Vc Go.Proofs
set_option maxRecDepth 10000
set_option maxHeartbeats 8000000
set_option linter.unusedSimpArgs false
set_option linter.unusedVariables false
/-- Where lists of nothing will do, nil does. -/
def nlOk : List AV → List AV → Prop
  | [], [] => True
  | x :: r, y :: r' => (y = x ∨ (y = .nl ∧ ∃ sz, x = .im sz [])) ∧ nlOk r r'
  | _, _ => False
theorem nlOk_get : ∀ {l l' : List AV}, nlOk l l' → l.length = l'.length ∧ ∀ (j : Nat) (x y : AV), l[j]? = some x → l'[j]? = some y → y = x ∨ (y = .nl ∧ ∃ sz, x = .im sz [])
  | [], [], _ => ⟨rfl, by simp⟩
  | x :: r, y :: r', h => by
    obtain ⟨h1, h2⟩ := nlOk_get h.2
    refine ⟨by simp [h1], fun j u v hu hv => ?_⟩
    cases j with
    | zero => simp at hu hv; subst hu; subst hv; exact h.1
    | succ j => exact h2 j u v (by simpa using hu) (by simpa using hv)
theorem spec_nl {P : Program} {f : Nat} {l l' : List AV} {O : Nat → Option Ob} {U : List Nat} {R : AV → (Nat → Option Ob) → Prop} (h : FunSpec P f l O U R) (hn : nlOk l l') : FunSpec P f l' O U R := by
  obtain ⟨hl, hg⟩ := nlOk_get hn
  refine ⟨h.1, fun F φ w vs h1 h2 h3 H hs ha => h.2 F φ w vs h1 h2 h3 H (by rw [hs, hl]) fun j av hj => ?_⟩
  have hj' : j < l'.length := by rw [← hl]; exact (List.getElem?_eq_some_iff.1 hj).1
  have h4 := ha j _ (List.getElem?_eq_getElem hj')
  rcases hg j av _ hj (List.getElem?_eq_getElem hj') with e | ⟨e, sz, rfl⟩
  · rw [e] at h4; exact h4
  · rw [e] at h4
    generalize vs.getD j undef = v at h4 ⊢
    cases h4 with
    | rd r => cases r; exact .rd (.im0 none 0 sz)
theorem spec1_nls {P : Program} {f : Nat} {l l' : List AV} {R : AV → Ob → Prop} (h : Spec1 P f l R) (hn : nlOk l l') : Spec1 P f l' R := spec_nl h hn
theorem c96 (n : Int) : Spec1 Try.prog 96 [iA n] (fun r o => r = .rf 0 0 1 ∧ o = ro3 [⟨3, n, ByteArray.empty⟩]) := by
  refine spec1_of_vc tabOk elems ord96 Try.func96 rfl (rl := [.tmp 2]) rfl (by kernel_rfl) rfl ?_
  (simp -implicitDefEqProofs only [go_sem, iA]; repeat (refine GO ?_; simp -implicitDefEqProofs only [go_sem, iA]))
  refine FINmk [(0, some 5)] [(2, .rf 0 0 1)] [(0, ro3 [⟨3, n, ByteArray.empty⟩])] [0] rfl ?_ ?_
  · (simp -implicitDefEqProofs only [go_sem, ro3]; repeat (refine GO ?_; simp -implicitDefEqProofs only [go_sem, ro3]))
    exact .same (ro3 [⟨3, n, ByteArray.empty⟩]) _ _ (ro3_leafy [⟨3, n, ByteArray.empty⟩]) rfl
  · exact ⟨ro3 _, ⟨⟨rfl, rfl⟩, rfl⟩, ro3_leafy _, rfl⟩
def wl (n : Int) : List V := [⟨3, n, ByteArray.empty⟩]
def wlZ : List It := [⟨wl 1, 2⟩, ⟨wl 3, 4⟩]
def wlP : Pr := ⟨1, 0, 0, ⟨3, 3, ByteArray.empty⟩⟩
theorem wl_ok (n : Int) (h : -1152921504606846976 ≤ n ∧ n ≤ 1152921504606846976) : okR (wl n) = 0 := by
  simp [wl, okR, okV, inB, h.1, h.2]; rfl
theorem wlZ_made : Made wlZ := by
  refine ⟨?_, ?_⟩
  · simp [wlZ, wl, cI, cmpR, cmpV, cmpI, nz]
  · simp [wlZ, okW, inB]
theorem wlZ_good : Good wlZ := good_made.2 ⟨wlZ_made, fun t ht => by
  simp only [wlZ, List.mem_cons, List.not_mem_nil, or_false] at ht
  rcases ht with rfl | rfl <;> exact wl_ok _ (by decide)⟩
theorem wlZ_filter : (wlZ.filter fun t => holdsP wlP t.row) = [⟨wl 3, 4⟩] := by
  have h1 : cmpV ⟨3, 1, ByteArray.empty⟩ ⟨3, 3, ByteArray.empty⟩ = -1 := by simp [cmpV, cmpI, nz]
  have h2 : cmpV ⟨3, 3, ByteArray.empty⟩ ⟨3, 3, ByteArray.empty⟩ = 0 := lin_cmpV.self _
  simp [wlZ, wlP, holdsP, wl, inC, otherP, getV, h1, h2]
theorem tot_nilrow (z : List It) (r : List V) : tot r (z.map (projI [])) = if r = [] then sumW z else 0 := by
  induction z with
  | nil => simp [tot, sumW]
  | cons t z ih =>
    simp only [List.map_cons, tot, ih, sumW]
    have e : (projI [] t).row = [] := rfl
    have e2 : (projI [] t).w = t.w := rfl
    rw [e, e2]
    by_cases h : r = []
    · subst h; simp [cmpR]
    · have : ¬ cmpR [] r = 0 := fun h2 => h (lin_cmpR.eq _ _ h2).symm
      simp [h, this]
theorem nil_ok : okR [] = 0 := by simp [okR]
theorem nilrow_made {w : Int} (h0 : w ≠ 0) (h : okW w = true) : Made [⟨[], w⟩] := ⟨List.pairwise_singleton _ _, by simpa using ⟨h0, h⟩⟩
/-- To no columns. -/
theorem proj_nil {z out : List It} {err : Int} (hg : Good z) (hs : okW (sumW z) = true) (h : ProjR z [] out err) : err = 0 ∧ out = if sumW z = 0 then [] else [⟨[], sumW z⟩] := by
  rcases h with ⟨h, _⟩ | ⟨_, ⟨t, _, h⟩, h2, _⟩ | ⟨_, _, h⟩
  · exact absurd hg h
  · exact absurd (by rw [← h]; simp [pickE]) h2
  · have hb : ((z.map (projI [])).any fun t => !okI t) = false := by
      rw [List.any_eq_false]; intro t ht
      obtain ⟨u, hu, rfl⟩ := List.mem_map.1 ht
      have h3 := ((good_made.1 hg).1.nz u hu).2
      have e : (projI [] u).row = [] := rfl
      have e2 : (projI [] u).w = u.w := rfl
      simp [okI, e, e2, nil_ok, h3]
    by_cases h0 : sumW z = 0
    · rw [if_pos h0]
      obtain ⟨a, b⟩ := makeR_ok h hb ⟨.nil, by simp⟩ fun r => by rw [tot_nilrow, h0]; simp [tot]
      exact ⟨b, a⟩
    · rw [if_neg h0]
      obtain ⟨a, b⟩ := makeR_ok h hb (nilrow_made h0 hs) fun r => by
        rw [tot_nilrow]
        by_cases h : r = []
        · subst h; simp [tot, cmpR]
        · have : ¬ cmpR [] r = 0 := fun h2 => h (lin_cmpR.eq _ _ h2).symm
          simp [tot, h, this]
      exact ⟨b, a⟩
theorem c52 : Spec0 Try.prog 52 [] (· = bA true) := by
  refine spec0_of_vc tabOk elems ord52 Try.func52 rfl (rl := [.tmp 0]) rfl (by kernel_rfl) rfl ?_
  (simp -implicitDefEqProofs only [go_sem]; repeat (refine GO ?_; simp -implicitDefEqProofs only [go_sem]))
  refine .make 8 _ (c96 1) rfl (by simp) rfl fun q o hq _ => ?_
  obtain ⟨rfl, rfl⟩ := hq
  (simp -implicitDefEqProofs only [go_sem]; repeat (refine GO ?_; simp -implicitDefEqProofs only [go_sem]))
  refine .make 10 _ (c96 3) rfl (by simp) rfl fun q o hq _ => ?_
  obtain ⟨rfl, rfl⟩ := hq
  simp -implicitDefEqProofs only [go_sem]
  refine TOG [(12, some 12)] [(1, .rf 12 0 2), (14, .rf 12 0 2)] [(12, so wlZ)] [12] rfl ?_ ?_
  · (simp -implicitDefEqProofs only [go_sem, so, wlZ]; repeat (refine GO ?_; simp -implicitDefEqProofs only [go_sem, so, wlZ]))
    refine ⟨id, .cons ?_ (.cons ?_ .nil)⟩
    all_goals
      (simp -implicitDefEqProofs only [go_sem, It.c, rowA, iA]; repeat (refine GO ?_; simp -implicitDefEqProofs only [go_sem, It.c, rowA, iA]))
      exact ⟨by decide, _, rfl, ro3_leafy _, rfl, rfl⟩
  refine TO [] [(1, setA wlZ), (14, setA wlZ)] [] [] rfl ?_ ?_
  · (simp -implicitDefEqProofs only [go_sem, so, setA]; repeat (refine GO ?_; simp -implicitDefEqProofs only [go_sem, so, setA]))
    exact ⟨id, ⟨by decide, _, rfl, so_leafy wlZ, rfl, rfl⟩, ⟨by decide, _, rfl, so_leafy wlZ, rfl, rfl⟩⟩
  (simp -implicitDefEqProofs only [go_sem, setA]; repeat (refine GO ?_; simp -implicitDefEqProofs only [go_sem, setA]))
  refine .make 15 _ (spec1_nls (c49 wlZ [] (by decide) (by simp [wlZ, wl]) (by decide)) (l' := [setA wlZ, .nl]) ⟨.inl rfl, .inr ⟨rfl, 1, rfl⟩, trivial⟩) rfl (by simp) rfl fun q o hq _ => ?_
  obtain ⟨a, err, rfl, rfl, hm⟩ := hq
  obtain ⟨rfl, rfl⟩ := proj_nil wlZ_good (by decide) hm
  rw [show sumW wlZ = 6 by decide, if_neg (by decide)]
  simp -implicitDefEqProofs only [go_sem, iA]
  refine GO ?_
  simp -implicitDefEqProofs only [go_sem]
  refine .make 22 _ (show Spec1 Try.prog 51 [setA wlZ, .ag wlP.c] _ from c51 wlZ wlP (by decide) (by simp [wlZ, wl])) rfl (by simp) rfl fun q o hq _ => ?_
  obtain ⟨b, err, rfl, rfl, hm⟩ := hq
  have hb : b = [⟨wl 3, 4⟩] ∧ err = 0 := by
    rcases hm with ⟨h, _⟩ | ⟨_, h1, h2⟩
    · exact absurd wlZ_good h
    · exact ⟨by rw [h1, wlZ_filter], h2⟩
  obtain ⟨rfl, rfl⟩ := hb
  simp -implicitDefEqProofs only [go_sem, iA]
  refine TO [(15, some 15)] [(1, setA wlZ), (2, .rf 15 0 1), (3, iA 0), (4, setA [⟨wl 3, 4⟩]), (5, iA 0), (26, setA wlZ), (27, setA [⟨wl 3, 4⟩])] [(15, so [⟨[], 6⟩])] [15] rfl ?_ ?_
  · (simp -implicitDefEqProofs only [go_sem, so, setA, iA]; repeat (refine GO ?_; simp -implicitDefEqProofs only [go_sem, so, setA, iA]))
    exact ⟨id, ⟨⟨by decide, _, rfl, so_leafy [⟨wl 3, 4⟩], rfl, rfl⟩, ⟨by decide, _, rfl, so_leafy [⟨wl 3, 4⟩], rfl, rfl⟩⟩, .same (so [⟨[], 6⟩]) _ _ (so_leafy [⟨[], 6⟩]) rfl⟩
  (simp -implicitDefEqProofs only [go_sem, setA, iA]; repeat (refine GO ?_; simp -implicitDefEqProofs only [go_sem, setA, iA]))
  refine .make 28 _ (show Spec1 Try.prog 55 [setA wlZ, setA [⟨wl 3, 4⟩]] _ from c55 wlZ [⟨wl 3, 4⟩] (by decide) (by simp [wlZ, wl]) (by simp [wl])) rfl (by simp) rfl fun q o hq _ => ?_
  obtain ⟨c, err, rfl, rfl, hm⟩ := hq
  have hc : c = [⟨wl 1, 2⟩] ∧ err = 0 := by
    rcases hm with ⟨h, _⟩ | ⟨_, _, h⟩
    · exact absurd ⟨wlZ_good, good_made.2 ⟨⟨List.pairwise_singleton _ _, by simp [okW, inB]⟩, fun t ht => by simp at ht; subst ht; exact wl_ok _ (by decide)⟩⟩ h
    · refine makeR_ok h ?_ ⟨List.pairwise_singleton _ _, by simp [okW, inB]⟩ fun r => ?_
      · have h1 := wl_ok 1 (by decide)
        have h3 := wl_ok 3 (by decide)
        simp [wlZ, okI, negI, h1, h3, okW, inB]
      · simp only [wlZ, tot, List.map_cons, List.map_nil, List.cons_append, List.nil_append, negI]
        by_cases h1 : cmpR (wl 1) r = 0 <;> by_cases h3 : cmpR (wl 3) r = 0 <;> simp [h1, h3]
  obtain ⟨rfl, rfl⟩ := hc
  (simp -implicitDefEqProofs only [go_sem, so, iA]; repeat (refine GO ?_; simp -implicitDefEqProofs only [go_sem, so, iA]))
  repeat (refine VIF.split (fun _ => ?_) (fun h => absurd h (by decide)); (simp -implicitDefEqProofs only [go_sem]; repeat (refine GO ?_; simp -implicitDefEqProofs only [go_sem])))
  refine ⟨by decide, EL.map (l := [(⟨[], 6⟩ : It)]) (i := 0) (by decide) ?_⟩
  (simp -implicitDefEqProofs only [go_sem, It.c, iA]; repeat (refine GO ?_; simp -implicitDefEqProofs only [go_sem, It.c, iA]))
  repeat (refine VIF.split (fun _ => ?_) (fun h => absurd h (by decide)); (simp -implicitDefEqProofs only [go_sem]; repeat (refine GO ?_; simp -implicitDefEqProofs only [go_sem])))
  refine ⟨by decide, EL.map (l := [(⟨[], 6⟩ : It)]) (i := 0) (by decide) ?_⟩
  (simp -implicitDefEqProofs only [go_sem, It.c, iA, rowA]; repeat (refine GO ?_; simp -implicitDefEqProofs only [go_sem, It.c, iA, rowA]))
  repeat (refine VIF.split (fun _ => ?_) (fun h => absurd h (by decide)); (simp -implicitDefEqProofs only [go_sem]; repeat (refine GO ?_; simp -implicitDefEqProofs only [go_sem])))
  refine ⟨by decide, EL.map (l := [(⟨wl 1, 2⟩ : It)]) (i := 0) (by decide) ?_⟩
  (simp -implicitDefEqProofs only [go_sem, It.c, iA]; repeat (refine GO ?_; simp -implicitDefEqProofs only [go_sem, It.c, iA]))
  repeat (refine VIF.split (fun _ => ?_) (fun h => absurd h (by decide)); (simp -implicitDefEqProofs only [go_sem]; repeat (refine GO ?_; simp -implicitDefEqProofs only [go_sem])))
  exact rfl
end Yt
namespace Yt
open Go Go.Vc Go.Proofs
set_option maxRecDepth 10000
set_option maxHeartbeats 8000000
set_option linter.unusedSimpArgs false
set_option linter.unusedVariables false
@[go_sem] theorem fzE_so (id : Nat) (o : Ob) (z : List It) : fzE id o (List.map It.c z) = List.map It.c z := fzE_leafy (so_leafy z)
@[go_sem] theorem fzE_ro3 (id : Nat) (o : Ob) (z : List V) : fzE id o (List.map V.c z) = List.map V.c z := fzE_leafy (ro3_leafy z)
@[go_sem] theorem take_so (z : List It) : List.take z.length (List.map It.c z) = List.map It.c z := take_map_len _ _
@[go_sem] theorem take_ro3 (z : List V) : List.take z.length (List.map V.c z) = List.map V.c z := take_map_len _ _
theorem pr_leafy (p : Pr) : (⟨6, [p.c]⟩ : Ob).leafy := by simp [Ob.leafy, Pr.c, AV.leaf]
theorem tot_filter (p : List V → Bool) (z : List It) (r : List V) : tot r (z.filter fun t => p t.row) = if p r then tot r z else 0 := by
  induction z with
  | nil => simp [tot]
  | cons t z ih =>
    by_cases h : p t.row = true
    · rw [List.filter_cons_of_pos (by simpa using h)]
      simp only [tot, ih]
      by_cases e : cmpR t.row r = 0
      · have e := lin_cmpR.eq _ _ e
        subst e
        simp [h]
      · simp [e]
    · rw [List.filter_cons_of_neg (by simpa using h), ih]
      simp only [tot]
      by_cases e : cmpR t.row r = 0
      · have e := lin_cmpR.eq _ _ e
        subst e
        simp [h]
      · simp [e]
theorem made_filter {z : List It} (h : Made z) (f : It → Bool) : Made (z.filter f) := ⟨h.pw.filter _, fun t ht => h.nz t (List.mem_filter.1 ht).1⟩
theorem Sm.filt {z : List It} {k : Nat} (h : Sm z k) (p : List V → Bool) : Sm (z.filter fun t => p t.row) k :=
  ⟨made_filter h.made _, fun t ht => h.rows t (List.mem_filter.1 ht).1, Nat.le_trans (List.length_filter_le _ _) h.len, fun r => by
    rw [tot_filter]; have := h.tot r; split <;> omega⟩
theorem Sm.mono {z : List It} {k j : Nat} (h : Sm z k) (hk : k ≤ j) : Sm z j := ⟨h.made, h.rows, by have := h.len; omega, fun r => by have := h.tot r; omega⟩
theorem Sm.nil (k : Nat) : Sm [] k := ⟨⟨.nil, by simp⟩, by simp, by simp, fun r => by simp [Yt.tot]; omega⟩
theorem Sm.r40 {z : List It} {k : Nat} (h : Sm z k) : ∀ t ∈ z, t.row.length < 1073741824 := fun t ht => by have := (h.rows t ht).2; omega
theorem Sm.r62 {z : List It} {k : Nat} (h : Sm z k) : ∀ t ∈ z, t.row.length < 4611686018427387904 := fun t ht => by have := (h.rows t ht).2; omega
theorem filt_ok {z out : List It} {err : Int} {f : It → Bool} (hg : Good z) (h : (¬ Good z ∧ out = [] ∧ err = 1) ∨ (Good z ∧ out = z.filter f ∧ err = 0)) : err = 0 ∧ out = z.filter f := by
  rcases h with ⟨h, _⟩ | ⟨_, h1, h2⟩
  · exact absurd hg h
  · exact ⟨h2, h1⟩
theorem neg_ok {z out : List It} {err : Int} (hg : Good z) (h : (¬ Good z ∧ out = [] ∧ err = 1) ∨ (Good z ∧ out = z.map negI ∧ err = 0)) : err = 0 ∧ out = z.map negI := by
  rcases h with ⟨h, _⟩ | ⟨_, h1, h2⟩
  · exact absurd hg h
  · exact ⟨h2, h1⟩
theorem sumW_bound {z : List It} {k : Int} (hk : 0 ≤ k) (h : ∀ t ∈ z, -k ≤ t.w ∧ t.w ≤ k) : -(k * z.length) ≤ sumW z ∧ sumW z ≤ k * z.length := by
  induction z with
  | nil => simp [sumW]
  | cons t z ih =>
    have h1 := h t (by simp)
    have h2 := ih fun u hu => h u (by simp [hu])
    have e : k * ((t :: z).length : Int) = k + k * (z.length : Int) := by
      rw [List.length_cons, Int.natCast_add, Int.mul_add]; omega
    rw [e]
    simp only [sumW]
    omega
theorem sumW_take {z : List It} {k : Int} (hk : 0 ≤ k) (h : ∀ t ∈ z, -k ≤ t.w ∧ t.w ≤ k) (i : Nat) : -(k * z.length) ≤ sumW (z.take i) ∧ sumW (z.take i) ≤ k * z.length := by
  have h1 := sumW_bound hk (z := z.take i) fun t ht => h t (List.mem_of_mem_take ht)
  have h2 : k * ((z.take i).length : Int) ≤ k * z.length := Int.mul_le_mul_of_nonneg_left (by simp; omega) hk
  omega
theorem sumW_succ {z : List It} {i : Nat} (h : i < z.length) : sumW (z.take (i + 1)) = sumW (z.take i) + z[i].w := by
  rw [List.take_succ_eq_append_getElem h, sumW_append]; simp [sumW]
theorem Sm.min {x y out : List It} {i j : Nat} {err : Int} (hx : Sm x i) (hy : Sm y j) (hij : i + j ≤ 100) (h : MinR x y out err) : err = 0 ∧ Sm out (i + j) ∧ ∀ r, Yt.tot r out = Yt.tot r x - Yt.tot r y := by
  have h2 : AddR x (y.map negI) out err := by
    rcases h with ⟨h, _⟩ | ⟨_, _, h⟩
    · exact absurd ⟨hx.good, hy.good⟩ h
    · exact .inr ⟨hx.good, hy.neg.good, h⟩
  obtain ⟨a, b, c⟩ := hx.add hy.neg hij h2
  exact ⟨a, b, fun r => by rw [c, tot_neg]; omega⟩
theorem Sm.eq {x y : List It} {i j : Nat} (hx : Sm x i) (hy : Sm y j) (h : ∀ r, Yt.tot r x = Yt.tot r y) : x = y := made_eq hx.made hy.made h
theorem Sm.w {z : List It} {k : Nat} (h : Sm z k) : ∀ t ∈ z, -(356400 * (k : Int)) ≤ t.w ∧ t.w ≤ 356400 * k := fun t ht => by
  rw [← tot_made h.made ht]; exact h.tot _
theorem Sm.mul {z : List It} {k : Nat} (h : Sm z k) (n : Nat) (hn : 0 < n) (hk : n * k ≤ 1000) : Sm (z.map (mulI n)) (n * k) := by
  refine ⟨made_mul (by omega) h.made fun t ht => ?_, fun t ht => by obtain ⟨u, hu, rfl⟩ := List.mem_map.1 ht; exact h.rows u hu, ?_, fun r => ?_⟩
  · have h1 := h.w t ht
    have h2 : (n : Int) * t.w ≤ n * (356400 * k) := Int.mul_le_mul_of_nonneg_left h1.2 (by omega)
    have h3 : (n : Int) * (-(356400 * k)) ≤ n * t.w := Int.mul_le_mul_of_nonneg_left h1.1 (by omega)
    have e : (n : Int) * (356400 * k) = 356400 * ((n * k : Nat) : Int) := by rw [Int.natCast_mul, ← Int.mul_assoc, ← Int.mul_assoc, Int.mul_comm (n : Int) 356400]
    rw [Int.mul_neg, e] at h3
    rw [e] at h2
    simp only [okW, inB, Bool.and_eq_true, decide_eq_true_eq]; omega
  · rw [List.length_map]
    have := Nat.le_mul_of_pos_left k hn
    have := h.len
    have : 60 * k ≤ 60 * (n * k) := by omega
    omega
  · rw [tot_mul]
    have h1 := h.tot r
    have h2 : (n : Int) * Yt.tot r z ≤ n * (356400 * k) := Int.mul_le_mul_of_nonneg_left h1.2 (by omega)
    have h3 : (n : Int) * (-(356400 * k)) ≤ n * Yt.tot r z := Int.mul_le_mul_of_nonneg_left h1.1 (by omega)
    have e : (n : Int) * (356400 * k) = 356400 * ((n * k : Nat) : Int) := by rw [Int.natCast_mul, ← Int.mul_assoc, ← Int.mul_assoc, Int.mul_comm (n : Int) 356400]
    rw [Int.mul_neg, e] at h3
    rw [e] at h2
    exact ⟨h3, h2⟩
end Yt
namespace Yt
open Go Go.Vc Go.Proofs
set_option maxRecDepth 10000
set_option maxHeartbeats 8000000
set_option linter.unusedSimpArgs false
set_option linter.unusedVariables false
theorem pick_in {r : List V} {cols : List Int} (h : pickE r cols = 0) : cols.length ≤ 12 ∧ ∀ c ∈ cols, 0 ≤ c ∧ c < r.length := by
  simp only [pickE] at h
  split at h
  · cases h
  · rename_i h1
    split at h
    · cases h
    · refine ⟨by omega, fun c hc => ?_⟩
      have h1 : cols.any (outC r.length) = false := by simpa using h1
      rw [List.any_eq_false] at h1
      have := h1 c hc
      simp [outC] at this
      omega
theorem pick_row {r : List V} {cols : List Int} (h : pickE r cols = 0) (hr : okR r = 0) : okR (pickR r cols) = 0 ∧ (pickR r cols).length ≤ 12 := by
  obtain ⟨h1, h2⟩ := pick_in h
  have hl : (pickR r cols).length = cols.length := by simp [pickR]
  have ha : (pickR r cols).all okV = true := by
    rw [List.all_eq_true]
    intro v hv
    obtain ⟨c, hc, rfl⟩ := List.mem_map.1 hv
    obtain ⟨g1, g2⟩ := h2 c hc
    have hlt : c.toNat < r.length := by omega
    have e : getV r c = r[c.toNat] := by simp [getV, hlt]
    rw [e]
    simp only [okR] at hr
    split at hr
    · cases hr
    · split at hr
      · rename_i h3
        exact List.all_eq_true.1 h3 _ (List.getElem_mem _)
      · cases hr
  refine ⟨?_, by omega⟩
  rw [okR, if_neg (by omega), if_pos ha]
theorem tot_proj (cols : List Int) (z : List It) (r : List V) : tot r (z.map (projI cols)) = sumW (z.filter fun t => decide (cmpR (pickR t.row cols) r = 0)) := by
  induction z with
  | nil => simp [tot, sumW]
  | cons t z ih =>
    simp only [List.map_cons, tot, ih]
    have e : (projI cols t).row = pickR t.row cols := rfl
    have e2 : (projI cols t).w = t.w := rfl
    rw [e, e2]
    by_cases h : cmpR (pickR t.row cols) r = 0
    · rw [List.filter_cons_of_pos (by simpa using h)]
      simp [sumW, h]
    · rw [List.filter_cons_of_neg (by simpa using h)]
      simp [h]
theorem proj_tot {x y : List It} (h : ∀ r, tot r x = tot r y) (cols : List Int) (r : List V) : tot r (x.map (projI cols)) = tot r (y.map (projI cols)) := by
  rw [tot_proj, tot_proj]
  exact sum_tot _ _ _ (Nat.le_refl _) fun q => by
    rw [tot_filter (fun q => decide (cmpR (pickR q cols) r = 0)), tot_filter (fun q => decide (cmpR (pickR q cols) r = 0)), h]
theorem ProjR.ok {z out : List It} {k j : Nat} {cols : List Int} {err : Int} (h : Sm z k) (hb : ∀ r, -(356400 * (j : Int)) ≤ Yt.tot r (z.map (projI cols)) ∧ Yt.tot r (z.map (projI cols)) ≤ 356400 * j) (hk : k ≤ j) (hj : j ≤ 1000)
    (hp : ProjR z cols out err) : (err = 0 ∧ (∀ t ∈ z, pickE t.row cols = 0) ∧ Sm out j ∧ ∀ r, Yt.tot r out = Yt.tot r (z.map (projI cols))) ∨ (err ≠ 0 ∧ out = [] ∧ ∃ t ∈ z, pickE t.row cols = err) := by
  rcases hp with ⟨hn, _⟩ | ⟨_, ht, he, ho⟩ | ⟨_, ht, hm⟩
  · exact absurd h.good hn
  · exact .inr ⟨he, ho, ht⟩
  · refine .inl ?_
    obtain ⟨h1, h2, h3, h4, h5⟩ := makeR_fine hm (by
      rw [List.any_eq_false]; intro t hv
      obtain ⟨u, hu, rfl⟩ := List.mem_map.1 hv
      have e1 := (pick_row (ht u hu) (h.rows u hu).1).1
      have e2 := (h.made.nz u hu).2
      simp [okI, projI, e1, e2]) fun r => by
        have := hb r
        simp only [okW, inB, Bool.and_eq_true, decide_eq_true_eq]; omega
    refine ⟨h1, ht, ⟨h2, fun t hu => ?_, ?_, fun r => by rw [h3]; exact hb r⟩, h3⟩
    · obtain ⟨g1, u, hu, e⟩ := h4 t hu
      obtain ⟨v, hv, rfl⟩ := List.mem_map.1 hu
      refine ⟨g1, ?_⟩
      rw [← e]
      have := (pick_row (ht v hv) (h.rows v hv).1).2
      have e3 : (projI cols v).row = pickR v.row cols := rfl
      rw [e3]; omega
    · have := h.len
      rw [List.length_map] at h5; omega
theorem proj_bound {z : List It} {j k : Nat} (h : ∀ t ∈ z, -(5940 * (j : Int)) ≤ t.w ∧ t.w ≤ 5940 * j) (hl : z.length ≤ 60 * k) (cols : List Int) (r : List V) :
    -(356400 * ((j * k : Nat) : Int)) ≤ tot r (z.map (projI cols)) ∧ tot r (z.map (projI cols)) ≤ 356400 * ((j * k : Nat) : Int) := by
  have h1 := tot_bound (z := z.map (projI cols)) (k := 5940 * (j : Int)) (by omega) (fun t ht => by obtain ⟨u, hu, rfl⟩ := List.mem_map.1 ht; exact h u hu) r
  rw [List.length_map] at h1
  have h2 : 5940 * (j : Int) * (z.length : Int) ≤ 5940 * (j : Int) * ((60 * k : Nat) : Int) := Int.mul_le_mul_of_nonneg_left (by omega) (by omega)
  have e : 5940 * (j : Int) * ((60 * k : Nat) : Int) = 356400 * ((j * k : Nat) : Int) := by
    rw [Int.natCast_mul, Int.natCast_mul, Int.mul_assoc, Int.mul_left_comm (j : Int), ← Int.mul_assoc]; rfl
  rw [e] at h2
  omega
theorem u64_nat {n : Nat} (h : n < 4611686018427387904) : IntKind.u64.wrap (n : Int) = n := by simp [IntKind.wrap, IntKind.signed, IntKind.bits]; omega
theorem u64_rem (x k : Int) (hk : 0 < k) (hk' : k ≤ 4611686018427387904) : ∃ o : Nat, (IntKind.u64.wrap x).tmod k = o ∧ (o : Int) < k ∧ IntKind.i64.wrap (o : Int) = o := by
  have h0 : 0 ≤ IntKind.u64.wrap x := by simp [IntKind.wrap, IntKind.signed, IntKind.bits]; omega
  have h5 := Int.tmod_eq_emod_of_nonneg (b := k) h0
  have h6 := Int.emod_nonneg (IntKind.u64.wrap x) (show k ≠ 0 by omega)
  have h7 := Int.emod_lt_of_pos (IntKind.u64.wrap x) hk
  refine ⟨((IntKind.u64.wrap x).tmod k).toNat, by omega, by omega, by rw [wrap_i64] <;> omega⟩
/-- What of the first k leads to r. -/
def sumP (cols : List Int) (r : List V) (a : List It) (k : Nat) : Int := sumW ((a.take k).filter fun t => decide (cmpR (pickR t.row cols) r = 0))
theorem sumP_in {cols : List Int} {r : List V} {a : List It} {k : Nat} (h : k < a.length) (e : pickR a[k].row cols = r) : sumP cols r a (k + 1) = sumP cols r a k + a[k].w := by
  simp only [sumP]
  rw [List.take_succ_eq_append_getElem h, List.filter_append, sumW_append]
  congr 1
  rw [List.filter_cons_of_pos (by simp [e, lin_cmpR.self])]
  simp [sumW]
theorem sumP_out {cols : List Int} {r : List V} {a : List It} {k : Nat} (h : k < a.length) (e : pickR a[k].row cols ≠ r) : sumP cols r a (k + 1) = sumP cols r a k := by
  simp only [sumP]
  rw [List.take_succ_eq_append_getElem h, List.filter_append]
  have e2 : ¬ cmpR (pickR a[k].row cols) r = 0 := fun h => e (lin_cmpR.eq _ _ h)
  rw [List.filter_cons_of_neg (by simp [e2])]
  simp
theorem sumP_bound {cols : List Int} {r : List V} {a : List It} {k : Nat} (h : ∀ t ∈ a, -5940 ≤ t.w ∧ t.w ≤ 5940) (hl : a.length ≤ 60) : -356400 ≤ sumP cols r a k ∧ sumP cols r a k ≤ 356400 := by
  have h1 := sumW_bound (k := 5940) (by decide) (z := (a.take k).filter fun t => decide (cmpR (pickR t.row cols) r = 0)) fun t ht => h t (List.mem_of_mem_take (List.mem_filter.1 ht).1)
  have h2 : ((a.take k).filter fun t => decide (cmpR (pickR t.row cols) r = 0)).length ≤ 60 := Nat.le_trans (List.length_filter_le _ _) (by simp; omega)
  simp only [sumP]
  omega
theorem sumP_all (cols : List Int) (r : List V) (a : List It) : sumP cols r a a.length = tot r (a.map (projI cols)) := by
  rw [sumP, List.take_length, tot_proj]
theorem ProjR.len {z out : List It} {cols : List Int} {err : Int} (h : ProjR z cols out err) : out.length ≤ z.length := by
  rcases h with ⟨_, rfl, _⟩ | ⟨_, _, _, rfl⟩ | ⟨_, _, h⟩
  · simp
  · simp
  · rcases h with ⟨_, rfl, _⟩ | ⟨_, rfl, _⟩ | ⟨_, _, _, _, _, h⟩
    · simp
    · simp
    · simpa using h
theorem sumW_proj (cols : List Int) (z : List It) : sumW (z.map (projI cols)) = sumW z := by
  induction z with
  | nil => rfl
  | cons t z ih => simp only [List.map_cons, sumW, ih]; rfl
end Yt
namespace Yt
open Go Go.Vc Go.Proofs
set_option maxRecDepth 10000
set_option maxHeartbeats 8000000
set_option linter.unusedSimpArgs false
set_option linter.unusedVariables false
theorem fz_so (z : List It) : (AV.rf 0 0 z.length).fz 0 (so z) = setA z := by
  rw [fz_rf, if_pos rfl, List.drop_zero, List.take_of_length_le (by simp [so])]; rfl
theorem fz_ro3 (r : List V) : (AV.rf 0 0 r.length).fz 0 (ro3 r) = rowA r := by
  rw [fz_rf, if_pos rfl, List.drop_zero, List.take_of_length_le (by simp [ro3])]; rfl
theorem Spec1.setE {f : Nat} {args : List AV} {Q : List It → Int → Prop} (h : Spec1 Try.prog f args (fun r o => ∃ (out : List It) (err : Int), r = .tu [.rf 0 0 out.length, iA err] ∧ o = so out ∧ Q out err)) :
    Spec0 Try.prog f args fun r => ∃ (out : List It) (err : Int), r = .tu [setA out, iA err] ∧ Q out err :=
  (Spec1.fz h).mono fun r O' ⟨⟨⟨r0, o, ⟨out, err, e1, e2, hq⟩, _, _, e3⟩, hn⟩, hO⟩ => by
    subst e1; subst e2; subst e3
    refine ⟨⟨⟨out, err, ?_, hq⟩, hn⟩, hO⟩
    rw [fz_tu, fzs_cons, fzs_cons, fzs_nil, fz_so, iA, fz_pr]
theorem Spec1.set1 {f : Nat} {args : List AV} {Q : List It → Prop} (h : Spec1 Try.prog f args (fun r o => ∃ (out : List It), r = .rf 0 0 out.length ∧ o = so out ∧ Q out)) :
    Spec0 Try.prog f args fun r => ∃ (out : List It), r = setA out ∧ Q out :=
  (Spec1.fz h).mono fun r O' ⟨⟨⟨r0, o, ⟨out, e1, e2, hq⟩, _, _, e3⟩, hn⟩, hO⟩ => by
    subst e1; subst e2; subst e3
    exact ⟨⟨⟨out, fz_so out, hq⟩, hn⟩, hO⟩
theorem Spec1.setC {f : Nat} {args : List AV} {z : List It} (h : Spec1 Try.prog f args (fun r o => r = .rf 0 0 z.length ∧ o = so z)) : Spec0 Try.prog f args (· = setA z) :=
  (Spec1.fz h).mono fun r O' ⟨⟨⟨r0, o, ⟨e1, e2⟩, _, _, e3⟩, hn⟩, hO⟩ => by
    subst e1; subst e2; subst e3
    exact ⟨⟨fz_so z, hn⟩, hO⟩
theorem EL.mapL {α : Type} {f : α → List AV} {l : List α} {tail : List (List AV)} {i : Nat} {K : List AV → Prop} (h : i < l.length) (k : K (f l[i])) : EL (l.map f ++ tail) i K :=
  ⟨f l[i], by rw [List.getElem?_append_left (by simpa using h)]; simp [h], k⟩
theorem setL {α : Type} {f : α → List AV} {l : List α} {tail : List (List AV)} {i : Nat} {x : α} (h : i < l.length) : (l.map f ++ tail).set i (f x) = (l.set i x).map f ++ tail := by
  rw [List.set_append_left _ _ (by simpa using h), List.map_set]
theorem Spec1.row1 {f : Nat} {args : List AV} {Q : List V → Prop} (h : Spec1 Try.prog f args (fun r o => ∃ (out : List V), r = .rf 0 0 out.length ∧ o = ro3 out ∧ Q out)) :
    Spec0 Try.prog f args fun r => ∃ (out : List V), r = rowA out ∧ Q out :=
  (Spec1.fz h).mono fun r O' ⟨⟨⟨r0, o, ⟨out, e1, e2, hq⟩, _, _, e3⟩, hn⟩, hO⟩ => by
    subst e1; subst e2; subst e3
    exact ⟨⟨⟨out, fz_ro3 out, hq⟩, hn⟩, hO⟩
theorem Spec1.rowE {f : Nat} {args : List AV} {Q : List V → Int → Prop} (h : Spec1 Try.prog f args (fun r o => ∃ (out : List V) (err : Int), r = .tu [.rf 0 0 out.length, iA err] ∧ o = ro3 out ∧ Q out err)) :
    Spec0 Try.prog f args fun r => ∃ (out : List V) (err : Int), r = .tu [rowA out, iA err] ∧ Q out err :=
  (Spec1.fz h).mono fun r O' ⟨⟨⟨r0, o, ⟨out, err, e1, e2, hq⟩, _, _, e3⟩, hn⟩, hO⟩ => by
    subst e1; subst e2; subst e3
    refine ⟨⟨⟨out, err, ?_, hq⟩, hn⟩, hO⟩
    rw [fz_tu, fzs_cons, fzs_cons, fzs_nil, fz_ro3, iA, fz_pr]
theorem spec0_nls {P : Program} {f : Nat} {l l' : List AV} {R : AV → Prop} (h : Spec0 P f l R) (hn : nlOk l l') : Spec0 P f l' R := spec_nl h hn
theorem c84 (t : It) : Spec0 Try.prog 84 [.ag t.c] (· = bA (decide (t.w < 0))) := by
  refine spec0_of_vc tabOk elems ord84 Try.func84 rfl (rl := [.tmp 2]) rfl (by kernel_rfl) rfl ?_
  (simp -implicitDefEqProofs only [go_sem, It.c, iA, rowA]; repeat (refine GO ?_; simp -implicitDefEqProofs only [go_sem, It.c, iA, rowA]))
  simp [bA]
def distL (z : List It) : List It := (z.filter fun t => !decide (t.w < 0)).map fun t => oneI t.row
/-- The first so many with weight 1. -/
def upto1 (y : List It) (i : Nat) : List It := (y.take i).map (fun t => oneI t.row) ++ y.drop i
theorem upto1_len {y : List It} {i : Nat} (h : i ≤ y.length) : (upto1 y i).length = y.length := by simp [upto1]; omega
theorem upto1_get {y : List It} {i : Nat} (h : i < y.length) (h2 : i < (upto1 y i).length) : (upto1 y i)[i] = y[i] := by
  simp only [upto1]
  rw [List.getElem_append_right (by simp; omega)]
  simp [Nat.min_eq_left (Nat.le_of_lt h)]
theorem upto1_set {y : List It} {i : Nat} (h : i < y.length) : (upto1 y i).set i (oneI y[i].row) = upto1 y (i + 1) := by
  simp only [upto1]
  rw [List.set_append_right _ _ (by simp; omega), List.take_succ_eq_append_getElem h, List.map_append, List.length_map, List.length_take, Nat.min_eq_left (Nat.le_of_lt h), Nat.sub_self, List.drop_eq_getElem_cons h, List.set_cons_zero]
  simp only [List.map_cons, List.map_nil, List.append_assoc, List.cons_append, List.nil_append]
theorem c32 (z : List It) (hl : z.length ≤ 1048576) (hr : ∀ t ∈ z, t.row.length < 1073741824) :
    Spec0 Try.prog 32 [setA z] (fun r => ∃ (out : List It) (err : Int), r = .tu [setA out, iA err] ∧ ((¬ Good z ∧ out = [] ∧ err = 1) ∨ (Good z ∧ out = distL z ∧ err = 0))) := by
  refine spec0_of_vc tabOk elems ord32 Try.func32 rfl (rl := [.tmp 2, .tmp 3]) rfl (by kernel_rfl) rfl ?_
  (simp -implicitDefEqProofs only [go_sem, setA]; repeat (refine GO ?_; simp -implicitDefEqProofs only [go_sem, setA]))
  refine .pure _ (s16 z (by omega) (fun t ht => by have := hr t ht; omega)) rfl fun q hq _ => ?_
  obtain ⟨e, rfl, he, hg⟩ := hq
  (simp -implicitDefEqProofs only [go_sem, iA]; repeat (refine GO ?_; simp -implicitDefEqProofs only [go_sem, iA]))
  refine VIF.split (fun h => ?_) (fun h => ?_)
  · have h : e ≠ 0 := by simpa using h
    have h1 : e = 1 := by omega
    subst h1
    simp -implicitDefEqProofs only [go_sem]
    refine TO [] [(2, setA []), (3, iA 1)] [] [] rfl ?_ ?_
    · (simp -implicitDefEqProofs only [go_sem, setA, iA]; repeat (refine GO ?_; simp -implicitDefEqProofs only [go_sem, setA, iA]))
      exact ⟨id, rfl⟩
    (simp -implicitDefEqProofs only [go_sem]; repeat (refine GO ?_; simp -implicitDefEqProofs only [go_sem]))
    exact ⟨rfl, [], 1, rfl, .inl ⟨fun g => h (hg.2 g), rfl, rfl⟩⟩
  · have h : e = 0 := by simpa using h
    have hg := hg.1 h
    (simp -implicitDefEqProofs only [go_sem]; repeat (refine GO ?_; simp -implicitDefEqProofs only [go_sem]))
    refine .make 13 _ (s57 z hl hr) rfl (by simp) rfl fun q o hq _ => ?_
    obtain ⟨rfl, rfl⟩ := hq
    simp -implicitDefEqProofs only [go_sem, so]
    refine GO ?_
    simp -implicitDefEqProofs only [go_sem, so]
    refine .both 13 (so z) _ [.rf 0 0 z.length, .fn 84 []] (c82 84 [] rfl (fun t => decide (t.w < 0)) (fun t => True) (fun t ht => c84 t) z (fun t ht => trivial) hl) rfl (so_leafy z) rfl rfl fun q o' hq hlf => ?_
    obtain ⟨y, hy, rfl, hsz, hes⟩ := hq
    have hyl : y.length ≤ z.length := by rw [hy]; exact List.length_filter_le _ _
    obtain ⟨tail, rfl, htl⟩ : ∃ tail, o' = ⟨2, y.map It.c ++ tail⟩ ∧ ∀ x ∈ tail, ∀ a ∈ x, a.leaf = true := by
      refine ⟨o'.es.drop y.length, ?_, fun x hx => hlf x (List.mem_of_mem_drop hx)⟩
      rw [← hes, List.take_append_drop, ← hsz]
    (simp -implicitDefEqProofs only [go_sem]; repeat (refine GO ?_; simp -implicitDefEqProofs only [go_sem]))
    have hlf2 : ∀ i, (Ob.mk 2 ((upto1 y i).map It.c ++ tail)).leafy := fun i x hx => by
      rcases List.mem_append.1 hx with hx | hx
      · exact so_leafy (upto1 y i) x hx
      · exact htl x hx
    refine LOOP.mk (ι := { i : Nat // i ≤ y.length }) (fun p => mkS [(5, .rf 1000 0 y.length), (16, iA y.length), (17, iA p.1)] [(1000, ⟨2, (upto1 y p.1).map It.c ++ tail⟩)] [1000])
      (fun p => y.length - p.1) ⟨0, Nat.zero_le _⟩ [(1000, some 13)] rfl rfl ?_ (fun p => ?_)
    · (simp -implicitDefEqProofs only [go_sem, iA]; repeat (refine GO ?_; simp -implicitDefEqProofs only [go_sem, iA]))
      exact ⟨id, rfl, .same ⟨2, y.map It.c ++ tail⟩ _ _ (hlf2 0) rfl⟩
    · obtain ⟨i, hi⟩ := p
      (simp -implicitDefEqProofs only [go_sem, iA]; repeat (refine GO ?_; simp -implicitDefEqProofs only [go_sem, iA]))
      refine VIF.split (fun h1 => ?_) (fun h1 => ?_)
      · have h1 : i < y.length := by simpa using h1
        have w1 := wrap_add1 (show i < 4611686018427387904 by omega)
        have hi2 : i < (upto1 y i).length := by rw [upto1_len hi]; exact h1
        have e1 : (List.map It.c (upto1 y i) ++ tail).set i [rowA y[i].row, iA 1] = List.map It.c (upto1 y (i + 1)) ++ tail := by
          rw [← upto1_set h1]; exact setL (f := It.c) (x := oneI y[i].row) hi2
        (simp -implicitDefEqProofs only [go_sem]; repeat (refine GO ?_; simp -implicitDefEqProofs only [go_sem]))
        refine ⟨by omega, EL.mapL hi2 ?_⟩
        rw [upto1_get h1]
        (simp -implicitDefEqProofs only [go_sem, It.c, w1]; repeat (refine GO ?_; simp -implicitDefEqProofs only [go_sem, It.c, w1]))
        refine BACK.mk ⟨i + 1, by omega⟩ [(1000, some 1000)] rfl rfl (by show y.length - (i + 1) < y.length - i; omega) ?_
        (simp -implicitDefEqProofs only [go_sem, iA, w1]; repeat (refine GO ?_; simp -implicitDefEqProofs only [go_sem, iA, w1]))
        exact ⟨id, .same (so []) _ _ (fun x hx => hlf2 (i + 1) x (e1 ▸ hx)) e1⟩
      · have h1 : i = y.length := by simp at h1; omega
        subst h1
        have hd : upto1 y y.length = distL z := by
          simp only [upto1, List.take_length, List.drop_length, List.append_nil, distL, hy]
        rw [hd]
        have hdl : (distL z).length = y.length := by rw [← hd, upto1_len (Nat.le_refl _)]
        simp -implicitDefEqProofs only [go_sem]
        refine GO ?_
        simp -implicitDefEqProofs only [go_sem]
        refine TO [] [(25, setA (distL z))] [] [] rfl ?_ ?_
        · (simp -implicitDefEqProofs only [go_sem, setA]; repeat (refine GO ?_; simp -implicitDefEqProofs only [go_sem, setA]))
          refine ⟨id, by decide, _, rfl, ?_, rfl, ?_⟩
          · rw [← hd]; exact hlf2 _
          · rw [← hdl]; show List.take _ (List.map It.c (distL z) ++ tail) = _
            rw [List.take_append_of_le_length (by simp), take_so]
        (simp -implicitDefEqProofs only [go_sem, setA]; repeat (refine GO ?_; simp -implicitDefEqProofs only [go_sem, setA]))
        refine .pure _ (Spec1.setC (s38 (distL z) (by omega))) rfl fun q hq _ => ?_
        subst hq
        (simp -implicitDefEqProofs only [go_sem, setA]; repeat (refine GO ?_; simp -implicitDefEqProofs only [go_sem, setA]))
        exact ⟨rfl, distL z, 0, rfl, .inr ⟨hg, rfl, rfl⟩⟩
/-- What of the distinct rows is more. -/
def DDel (z dz out : List It) (err : Int) : Prop := ∃ now e, AddR z dz now e ∧ ((e ≠ 0 ∧ out = [] ∧ err = e) ∨ (e = 0 ∧ MinR (distL now) (distL z) out err))
theorem makeR_rows {z out : List It} {err : Int} (h : MakeR z out err) : out.length ≤ z.length ∧ ∀ t ∈ out, ∃ u ∈ z, u.row = t.row := by
  rcases h with ⟨_, rfl, _⟩ | ⟨_, rfl, _⟩ | ⟨_, _, _, _, h, hl⟩
  · simp
  · simp
  · exact ⟨hl, fun t ht => (h t ht).2⟩
theorem addR_rows {a b out : List It} {err : Int} (h : AddR a b out err) : out.length ≤ a.length + b.length ∧ ∀ t ∈ out, ∃ u ∈ a ++ b, u.row = t.row := by
  rcases h with ⟨_, rfl, _⟩ | ⟨_, _, h⟩
  · simp
  · have := makeR_rows h
    rw [List.length_append] at this; exact this
theorem distL_len (z : List It) : (distL z).length ≤ z.length := by
  rw [distL, List.length_map]; exact List.length_filter_le _ _
theorem distL_rows {z : List It} {P : List V → Prop} (h : ∀ t ∈ z, P t.row) : ∀ t ∈ distL z, P t.row := fun t ht => by
  obtain ⟨u, hu, rfl⟩ := List.mem_map.1 ht
  exact h u (List.mem_filter.1 hu).1
theorem addR_good {a b out : List It} {err : Int} (h : AddR a b out err) (he : err = 0) : Good a ∧ Good b ∧ Made out ∧ Good out ∧ ∀ r, tot r out = tot r a + tot r b := by
  rcases h with ⟨_, _, h⟩ | ⟨ha, hb, h⟩
  · omega
  · rcases h with ⟨_, _, h⟩ | ⟨_, _, h, _⟩ | ⟨_, _, hm, ht, hr, _⟩
    · omega
    · omega
    · exact ⟨ha, hb, hm, good_made.2 ⟨hm, fun t h => (hr t h).1⟩, fun r => by rw [ht, tot_append]⟩
theorem dist_ok {z out : List It} {err : Int} (hg : Good z) (h : (¬ Good z ∧ out = [] ∧ err = 1) ∨ (Good z ∧ out = distL z ∧ err = 0)) : err = 0 ∧ out = distL z := by
  rcases h with ⟨h, _⟩ | ⟨_, h1, h2⟩
  · exact absurd hg h
  · exact ⟨h2, h1⟩
theorem c33 (z dz : List It) (hl : z.length + dz.length ≤ 300000) (hz : ∀ t ∈ z, t.row.length < 1073741824) (hd : ∀ t ∈ dz, t.row.length < 1073741824) :
    Spec0 Try.prog 33 [setA z, setA dz] (fun r => ∃ (out : List It) (err : Int), r = .tu [setA out, iA err] ∧ DDel z dz out err) := by
  refine spec0_of_vc tabOk elems ord33 Try.func33 rfl (rl := [.tmp 4, .tmp 5]) rfl (by kernel_rfl) rfl ?_
  (simp -implicitDefEqProofs only [go_sem, setA]; repeat (refine GO ?_; simp -implicitDefEqProofs only [go_sem, setA]))
  refine .pure _ (Spec1.setE (s23 z dz (by omega) hz hd)) rfl fun q hq _ => ?_
  obtain ⟨now, e, rfl, hm⟩ := hq
  obtain ⟨nl, nr⟩ := addR_rows hm
  have nr : ∀ t ∈ now, t.row.length < 1073741824 := fun t ht => by
    obtain ⟨u, hu, e⟩ := nr t ht
    rw [← e]
    rcases List.mem_append.1 hu with hu | hu
    · exact hz u hu
    · exact hd u hu
  (simp -implicitDefEqProofs only [go_sem, iA, setA]; repeat (refine GO ?_; simp -implicitDefEqProofs only [go_sem, iA, setA]))
  refine VIF.split (fun h => ?_) (fun h => ?_)
  · have h : e ≠ 0 := by simpa using h
    simp -implicitDefEqProofs only [go_sem]
    refine TO [] [(4, setA []), (5, iA e)] [] [] rfl ?_ ?_
    · (simp -implicitDefEqProofs only [go_sem, setA, iA]; repeat (refine GO ?_; simp -implicitDefEqProofs only [go_sem, setA, iA]))
      exact ⟨id, rfl⟩
    (simp -implicitDefEqProofs only [go_sem]; repeat (refine GO ?_; simp -implicitDefEqProofs only [go_sem]))
    exact ⟨rfl, [], e, rfl, now, e, hm, .inl ⟨h, rfl, rfl⟩⟩
  · have h : e = 0 := by simpa using h
    subst h
    obtain ⟨gz, gd, mn, gn, tn⟩ := addR_good hm rfl
    (simp -implicitDefEqProofs only [go_sem]; repeat (refine GO ?_; simp -implicitDefEqProofs only [go_sem]))
    refine .pure _ (c32 now (by omega) nr) rfl fun q hq _ => ?_
    obtain ⟨a, e1, rfl, ha⟩ := hq
    obtain ⟨rfl, rfl⟩ := dist_ok gn ha
    have la := distL_len now
    (simp -implicitDefEqProofs only [go_sem, iA, setA]; repeat (refine GO ?_; simp -implicitDefEqProofs only [go_sem, iA, setA]))
    refine .pure _ (c32 z (by omega) hz) rfl fun q hq _ => ?_
    obtain ⟨b, e2, rfl, hb⟩ := hq
    obtain ⟨rfl, rfl⟩ := dist_ok gz hb
    have lb := distL_len z
    (simp -implicitDefEqProofs only [go_sem, iA, setA]; repeat (refine GO ?_; simp -implicitDefEqProofs only [go_sem, iA, setA]))
    refine .pure _ (Spec1.setE (c55 (distL now) (distL z) (by omega) (distL_rows (P := fun r => r.length < 1073741824) nr) (distL_rows (P := fun r => r.length < 1073741824) hz))) rfl fun q hq _ => ?_
    obtain ⟨out, err, rfl, ho⟩ := hq
    (simp -implicitDefEqProofs only [go_sem, iA, setA]; repeat (refine GO ?_; simp -implicitDefEqProofs only [go_sem, iA, setA]))
    exact ⟨rfl, out, err, rfl, now, 0, hm, .inr ⟨rfl, ho⟩⟩
end Yt
namespace Yt
open Go Go.Vc Go.Proofs
set_option maxRecDepth 10000
set_option maxHeartbeats 8000000
set_option linter.unusedSimpArgs false
set_option linter.unusedVariables false
theorem made_dist {z : List It} (h : Made z) : Made (distL z) := by
  refine ⟨?_, fun t ht => ?_⟩
  · rw [distL, List.pairwise_map]
    exact h.pw.filter _
  · obtain ⟨u, hu, rfl⟩ := List.mem_map.1 ht
    exact ⟨by simp [oneI], by simp [oneI, okW, inB]⟩
def sg (n : Int) : Int := if 0 < n then 1 else 0
theorem sg_cases (n : Int) : (0 < n ∧ sg n = 1) ∨ (n ≤ 0 ∧ sg n = 0) := by
  by_cases h : 0 < n
  · exact .inl ⟨h, if_pos h⟩
  · exact .inr ⟨by omega, if_neg h⟩
theorem tot_dist {z : List It} (h : Made z) (r : List V) : tot r (distL z) = sg (tot r z) := by
  by_cases hr : ∃ t ∈ z, t.row = r
  · obtain ⟨t, ht, rfl⟩ := hr
    rw [tot_made h ht]
    have h0 := (h.nz t ht).1
    by_cases hw : t.w < 0
    · have : sg t.w = 0 := if_neg (by omega)
      rw [this]
      refine tot_none fun u hu e => ?_
      obtain ⟨v, hv, rfl⟩ := List.mem_map.1 hu
      obtain ⟨hv1, hv2⟩ := List.mem_filter.1 hv
      have e : v.row = t.row := lin_cmpR.eq _ _ e
      have h1 := tot_made h hv1
      rw [e, tot_made h ht] at h1
      simp at hv2
      omega
    · have : sg t.w = 1 := if_pos (by omega)
      rw [this]
      exact tot_made (made_dist h) (t := oneI t.row) (List.mem_map.2 ⟨t, List.mem_filter.2 ⟨ht, by simpa using hw⟩, rfl⟩)
  · have hz : tot r z = 0 := tot_none fun u hu e => hr ⟨u, hu, lin_cmpR.eq _ _ e⟩
    rw [hz, tot_none fun u hu e => ?_]
    · rfl
    · obtain ⟨v, hv, rfl⟩ := List.mem_map.1 hu
      exact hr ⟨v, (List.mem_filter.1 hv).1, lin_cmpR.eq _ _ e⟩
theorem Sm.dist {z : List It} {k : Nat} (h : Sm z k) : Sm (distL z) (k + 1) :=
  ⟨made_dist h.made, fun t ht => distL_rows (P := fun r => okR r = 0 ∧ r.length ≤ 40) h.rows t ht, by have := distL_len z; have := h.len; omega, fun r => by
    rw [tot_dist h.made]
    have := sg_cases (Yt.tot r z)
    omega⟩
theorem Sm.ddel {z dz out : List It} {i j : Nat} {err : Int} (hz : Sm z i) (hd : Sm dz j) (hij : i + j + 1 + (i + 1) ≤ 100) (h : DDel z dz out err) :
    err = 0 ∧ Sm out (i + j + 1 + (i + 1)) ∧ ∀ r, Yt.tot r out = sg (Yt.tot r z + Yt.tot r dz) - sg (Yt.tot r z) := by
  obtain ⟨now, e, ha, h⟩ := h
  obtain ⟨rfl, sn, tn⟩ := hz.add hd (by omega) ha
  rcases h with ⟨h, _⟩ | ⟨_, h⟩
  · exact absurd rfl h
  · obtain ⟨a, b, c⟩ := sn.dist.min hz.dist hij h
    exact ⟨a, b, fun r => by rw [c, tot_dist sn.made, tot_dist hz.made, tn]⟩
theorem c40 (n : Int) : Spec0 Try.prog 40 [iA n] (· = rowA (wl n)) := by
  have h : Spec1 Try.prog 40 [iA n] (fun r o => ∃ (out : List V), r = .rf 0 0 out.length ∧ o = ro3 out ∧ out = wl n) := by
    refine spec1_of_vc tabOk elems ord40 Try.func40 rfl (rl := [.tmp 2]) rfl (by kernel_rfl) rfl ?_
    (simp -implicitDefEqProofs only [go_sem, iA]; repeat (refine GO ?_; simp -implicitDefEqProofs only [go_sem, iA]))
    refine FINmk [(0, some 5)] [(2, .rf 0 0 1)] [(0, ro3 (wl n))] [0] rfl ?_ ?_
    · (simp -implicitDefEqProofs only [go_sem, ro3, wl]; repeat (refine GO ?_; simp -implicitDefEqProofs only [go_sem, ro3, wl]))
      exact .same (ro3 (wl n)) _ _ (ro3_leafy (wl n)) rfl
    · exact ⟨ro3 _, ⟨⟨wl n, rfl, rfl, rfl⟩, rfl⟩, ro3_leafy _, rfl⟩
  refine (Spec1.row1 h).mono ?_
  rintro r O' ⟨⟨⟨out, rfl, rfl⟩, hn⟩, hO⟩
  exact ⟨⟨rfl, hn⟩, hO⟩
def wd : List It := [⟨wl 1, -2⟩, ⟨wl 3, 4⟩]
theorem wl_cmp (a b : Int) : cmpR (wl a) (wl b) = cmpI a b := by
  have : cmpS ByteArray.empty ByteArray.empty = 0 := by
    have := lin_cmpV.self ⟨0, 0, ByteArray.empty⟩
    simp [cmpV, nz, cmpI] at this
    exact Classical.byContradiction fun h => h (this h)
  simp only [wl, cmpR, cmpV, nz, cmpI, this]
  split <;> simp_all
theorem wl_sm {n w : Int} (hn : -1152921504606846976 ≤ n ∧ n ≤ 1152921504606846976) (h0 : w ≠ 0) (hw : -356400 ≤ w ∧ w ≤ 356400) : Sm [⟨wl n, w⟩] 1 :=
  ⟨⟨List.pairwise_singleton _ _, by simpa [okW, inB, h0] using by omega⟩, by simpa using ⟨wl_ok n hn, by simp [wl]⟩, by simp, fun r => by
    simp only [Yt.tot]; split <;> omega⟩
theorem wd_good : Good wd := good_made.2 ⟨⟨by simp [wd, cI, wl_cmp, cmpI], by simp [wd, okW, inB]⟩, fun t ht => by
  simp only [wd, List.mem_cons, List.not_mem_nil, or_false] at ht
  rcases ht with rfl | rfl <;> exact wl_ok _ (by decide)⟩
theorem wd_dist : distL wd = [⟨wl 3, 1⟩] := by simp [distL, wd, oneI]
theorem c35 : Spec0 Try.prog 35 [] (· = bA true) := by
  refine spec0_of_vc tabOk elems ord35 Try.func35 rfl (rl := [.tmp 0]) rfl (by kernel_rfl) rfl ?_
  (simp -implicitDefEqProofs only [go_sem]; repeat (refine GO ?_; simp -implicitDefEqProofs only [go_sem]))
  refine .pure _ (c40 1) rfl fun r hq _ => ?_
  subst hq
  (simp -implicitDefEqProofs only [go_sem]; repeat (refine GO ?_; simp -implicitDefEqProofs only [go_sem]))
  refine .pure _ (c40 3) rfl fun r hq _ => ?_
  subst hq
  simp -implicitDefEqProofs only [go_sem]
  refine FRZ 10 (so wd) rfl (so_leafy wd) ?_
  simp -implicitDefEqProofs only [go_sem, so]
  refine .pure _ (show Spec0 Try.prog 32 [setA wd] _ from c32 wd (by decide) (by simp [wd, wl])) rfl fun r hq _ => ?_
  obtain ⟨a, e, rfl, ha⟩ := hq
  obtain ⟨rfl, rfl⟩ := dist_ok wd_good ha
  rw [wd_dist]
  (simp -implicitDefEqProofs only [go_sem, iA]; repeat (refine GO ?_; simp -implicitDefEqProofs only [go_sem, iA]))
  refine .pure _ (c40 3) rfl fun r hq _ => ?_
  subst hq
  simp -implicitDefEqProofs only [go_sem]
  refine FRZ 18 (so [⟨wl 3, -1⟩]) rfl (so_leafy [⟨wl 3, -1⟩]) ?_
  simp -implicitDefEqProofs only [go_sem, so]
  refine .pure _ (show Spec0 Try.prog 33 [setA [⟨wl 3, 1⟩], setA [⟨wl 3, -1⟩]] _ from c33 _ _ (by decide) (by simp [wl]) (by simp [wl])) rfl fun r hq _ => ?_
  obtain ⟨b, e, rfl, hb⟩ := hq
  obtain ⟨rfl, sb, tb⟩ := (wl_sm (n := 3) (w := 1) (by decide) (by decide) (by decide)).ddel (wl_sm (n := 3) (w := -1) (by decide) (by decide) (by decide)) (by decide) hb
  obtain rfl : b = [⟨wl 3, -1⟩] := made_eq sb.made (wl_sm (n := 3) (w := -1) (by decide) (by decide) (by decide)).made fun r => by
    rw [tb]
    simp only [tot]
    split <;> simp [sg]
  (simp -implicitDefEqProofs only [go_sem, setA, iA]; repeat (refine GO ?_; simp -implicitDefEqProofs only [go_sem, setA, iA]))
  repeat (refine VIF.split (fun _ => ?_) (fun h => absurd h (by decide)); (simp -implicitDefEqProofs only [go_sem]; repeat (refine GO ?_; simp -implicitDefEqProofs only [go_sem])))
  refine ⟨by decide, EL.map (l := [(⟨wl 3, 1⟩ : It)]) (i := 0) (by decide) ?_⟩
  (simp -implicitDefEqProofs only [go_sem, It.c, iA, rowA]; repeat (refine GO ?_; simp -implicitDefEqProofs only [go_sem, It.c, iA, rowA]))
  repeat (refine VIF.split (fun _ => ?_) (fun h => absurd h (by decide)); (simp -implicitDefEqProofs only [go_sem]; repeat (refine GO ?_; simp -implicitDefEqProofs only [go_sem])))
  refine ⟨by decide, EL.map (l := [(⟨wl 3, 1⟩ : It)]) (i := 0) (by decide) ?_⟩
  (simp -implicitDefEqProofs only [go_sem, It.c, iA, rowA]; repeat (refine GO ?_; simp -implicitDefEqProofs only [go_sem, It.c, iA, rowA]))
  repeat (refine VIF.split (fun _ => ?_) (fun h => absurd h (by decide)); (simp -implicitDefEqProofs only [go_sem]; repeat (refine GO ?_; simp -implicitDefEqProofs only [go_sem])))
  refine ⟨by decide, EL.map (l := [(⟨wl 3, 1⟩ : It)]) (i := 0) (by decide) ?_⟩
  (simp -implicitDefEqProofs only [go_sem, It.c, iA, rowA]; repeat (refine GO ?_; simp -implicitDefEqProofs only [go_sem, It.c, iA, rowA]))
  refine ⟨by decide, EL.map (l := wl 3) (i := 0) (by decide) ?_⟩
  (simp -implicitDefEqProofs only [go_sem, V.c]; repeat (refine GO ?_; simp -implicitDefEqProofs only [go_sem, V.c]))
  repeat (refine VIF.split (fun _ => ?_) (fun h => absurd h (by decide)); (simp -implicitDefEqProofs only [go_sem]; repeat (refine GO ?_; simp -implicitDefEqProofs only [go_sem])))
  refine ⟨by decide, EL.map (l := [(⟨wl 3, -1⟩ : It)]) (i := 0) (by decide) ?_⟩
  (simp -implicitDefEqProofs only [go_sem, It.c, iA]; repeat (refine GO ?_; simp -implicitDefEqProofs only [go_sem, It.c, iA]))
  simp [bA]
end Yt
namespace Yt
open Go Go.Vc Go.Proofs
set_option maxRecDepth 10000
set_option maxHeartbeats 8000000
set_option linter.unusedSimpArgs false
set_option linter.unusedVariables false
def uA (n : Int) : AV := .pr (.int .u64 n)
theorem and_32 {x : Int} (h0 : 0 ≤ x) (h1 : x < 18446744073709551616) : bitsOp .and .u64 x 4294967295 = x % 4294967296 := by
  simp only [bitsOp]
  have h1 : (BitVec.ofInt IntKind.u64.bits x &&& BitVec.ofInt IntKind.u64.bits 4294967295).toNat = (x % 4294967296).toNat := by
    rw [BitVec.toNat_and]
    have e1 : (BitVec.ofInt IntKind.u64.bits 4294967295).toNat = 2 ^ 32 - 1 := by decide
    rw [e1, Nat.and_two_pow_sub_one_eq_mod]
    simp only [BitVec.toNat_ofInt, IntKind.bits]
    omega
  rw [h1]
  simp [IntKind.wrap, IntKind.signed, IntKind.bits]; omega
theorem wrap_u64 {x : Int} (h0 : 0 ≤ x) (h1 : x < 18446744073709551616) : IntKind.u64.wrap x = x := by
  simp [IntKind.wrap, IntKind.signed, IntKind.bits]; omega
theorem mul_bd {a b : Int} (ha : 0 ≤ a ∧ a ≤ 4294967295) (hb : 0 ≤ b ∧ b ≤ 4294967295) : 0 ≤ a * b ∧ a * b ≤ 18446744065119617025 :=
  ⟨Int.mul_nonneg ha.1 hb.1, Int.le_trans (Int.mul_le_mul ha.2 hb.2 hb.1 (by decide)) (by decide)⟩
/-- The upper half of a product of 64 bits, as it is worked out. -/
theorem mul64 {x y : Int} (hx : 0 ≤ x ∧ x < 18446744073709551616) (hy : 0 ≤ y ∧ y < 18446744073709551616) :
    IntKind.u64.wrap (IntKind.u64.wrap (IntKind.u64.wrap (x / 4294967296 * (y / 4294967296)) +
      IntKind.u64.wrap (IntKind.u64.wrap (x / 4294967296 * bitsOp .and .u64 y 4294967295) + IntKind.u64.wrap (bitsOp .and .u64 x 4294967295 * bitsOp .and .u64 y 4294967295) / 4294967296) / 4294967296) +
      IntKind.u64.wrap (bitsOp .and .u64 (IntKind.u64.wrap (IntKind.u64.wrap (x / 4294967296 * bitsOp .and .u64 y 4294967295) + IntKind.u64.wrap (bitsOp .and .u64 x 4294967295 * bitsOp .and .u64 y 4294967295) / 4294967296)) 4294967295 +
        IntKind.u64.wrap (bitsOp .and .u64 x 4294967295 * (y / 4294967296))) / 4294967296) = x * y / 18446744073709551616 := by
  rw [and_32 hx.1 hx.2, and_32 hy.1 hy.2]
  have ex : x = x / 4294967296 * 4294967296 + x % 4294967296 := by omega
  have ey : y = y / 4294967296 * 4294967296 + y % 4294967296 := by omega
  generalize hx1 : x / 4294967296 = x1 at *
  generalize hx0 : x % 4294967296 = x0 at *
  generalize hy1 : y / 4294967296 = y1 at *
  generalize hy0 : y % 4294967296 = y0 at *
  have e : x * y = x1 * y1 * 18446744073709551616 + (x1 * y0 + x0 * y1) * 4294967296 + x0 * y0 := by
    rw [ex, ey]
    simp only [Int.add_mul, Int.mul_add]
    have e1 : x1 * 4294967296 * (y1 * 4294967296) = x1 * y1 * 18446744073709551616 := by rw [Int.mul_assoc, Int.mul_left_comm 4294967296, ← Int.mul_assoc]; rfl
    have e2 : x1 * 4294967296 * y0 = x1 * y0 * 4294967296 := Int.mul_right_comm _ _ _
    have e3 : x0 * (y1 * 4294967296) = x0 * y1 * 4294967296 := (Int.mul_assoc _ _ _).symm
    rw [e1, e2, e3]
    omega
  have b1 := mul_bd (a := x1) (b := y1) (by omega) (by omega)
  have b2 := mul_bd (a := x1) (b := y0) (by omega) (by omega)
  have b3 := mul_bd (a := x0) (b := y1) (by omega) (by omega)
  have b4 := mul_bd (a := x0) (b := y0) (by omega) (by omega)
  rw [e]
  generalize x1 * y1 = d at *
  generalize x1 * y0 = a at *
  generalize x0 * y1 = c at *
  generalize x0 * y0 = b at *
  rw [wrap_u64 (x := d) (by omega) (by omega), wrap_u64 (x := a) (by omega) (by omega), wrap_u64 (x := b) (by omega) (by omega), wrap_u64 (x := c) (by omega) (by omega)]
  rw [wrap_u64 (x := a + b / 4294967296) (by omega) (by omega), and_32 (by omega) (by omega), wrap_u64 (x := (a + b / 4294967296) % 4294967296 + c) (by omega) (by omega)]
  rw [wrap_u64 (x := d + (a + b / 4294967296) / 4294967296) (by omega) (by omega), wrap_u64 (by omega) (by omega)]
  omega
theorem c115 (x y : Int) (hx : 0 ≤ x ∧ x < 18446744073709551616) (hy : 0 ≤ y ∧ y < 18446744073709551616) :
    Spec0 Try.prog 115 [uA x, uA y] (· = .tu [uA (x * y / 18446744073709551616), uA (x * y % 18446744073709551616)]) := by
  refine spec0_of_vc tabOk elems ord115 Try.func115 rfl (rl := [.tmp 4, .tmp 5]) rfl (by kernel_rfl) rfl ?_
  (simp -implicitDefEqProofs only [go_sem, uA]; repeat (refine GO ?_; simp -implicitDefEqProofs only [go_sem, uA]))
  refine ⟨by decide, by decide, by decide, by decide, by decide, ?_⟩
  (simp -implicitDefEqProofs only [go_sem, uA]; repeat (refine GO ?_; simp -implicitDefEqProofs only [go_sem, uA]))
  refine ⟨rfl, ?_⟩
  simp only [shr32]
  rw [mul64 hx hy]
  have e : IntKind.u64.wrap (x * y) = x * y % 18446744073709551616 := by simp [IntKind.wrap, IntKind.signed, IntKind.bits]
  rw [e]
theorem c116 (n : Int) (h : -9223372036854775807 ≤ n ∧ n ≤ 9223372036854775807) : Spec0 Try.prog 116 [iA n] (· = uA (n.natAbs : Int)) := by
  refine spec0_of_vc tabOk elems ord116 Try.func116 rfl (rl := [.tmp 2]) rfl (by kernel_rfl) rfl ?_
  have w1 : IntKind.i64.wrap (0 - n) = -n := by rw [wrap_i64] <;> omega
  (simp -implicitDefEqProofs only [go_sem, iA, uA, w1]; repeat (refine GO ?_; simp -implicitDefEqProofs only [go_sem, iA, uA, w1]))
  have e : IntKind.u64.wrap (max n (-n)) = n.natAbs := by rw [wrap_u64] <;> omega
  rw [e]
theorem natAbs_mul_le (a b : Int) (k : Nat) : (a.natAbs : Int) * b.natAbs ≤ k ↔ -(k : Int) ≤ a * b ∧ a * b ≤ k := by
  have h := Int.natAbs_mul a b
  rw [← Int.natCast_mul, ← h]
  omega
theorem c74 (a b : Int) (ha : -4611686018427387904 ≤ a ∧ a ≤ 4611686018427387904) (hb : -4611686018427387904 ≤ b ∧ b ≤ 4611686018427387904) :
    Spec0 Try.prog 74 [iA a, iA b] (· = .tu [iA (IntKind.i64.wrap (a * b)), bA (okW (a * b))]) := by
  refine spec0_of_vc tabOk elems ord74 Try.func74 rfl (rl := [.tmp 4, .tmp 5]) rfl (by kernel_rfl) rfl ?_
  (simp -implicitDefEqProofs only [go_sem, iA]; repeat (refine GO ?_; simp -implicitDefEqProofs only [go_sem, iA]))
  refine .pure _ (c116 a (by omega)) rfl fun r hq _ => ?_
  subst hq
  (simp -implicitDefEqProofs only [go_sem, iA]; repeat (refine GO ?_; simp -implicitDefEqProofs only [go_sem, iA]))
  refine .pure _ (c116 b (by omega)) rfl fun r hq _ => ?_
  subst hq
  (simp -implicitDefEqProofs only [go_sem, iA, uA]; repeat (refine GO ?_; simp -implicitDefEqProofs only [go_sem, iA, uA]))
  refine .pure _ (c115 (a.natAbs : Int) (b.natAbs : Int) (by omega) (by omega)) rfl fun r hq _ => ?_
  subst hq
  have hk := natAbs_mul_le a b 72057594037927936
  have h0 : 0 ≤ (a.natAbs : Int) * b.natAbs := Int.mul_nonneg (by omega) (by omega)
  (simp -implicitDefEqProofs only [go_sem, iA, uA]; repeat (refine GO ?_; simp -implicitDefEqProofs only [go_sem, iA, uA]))
  refine VIF.split (fun h => ?_) (fun h => ?_)
  · have h : (a.natAbs : Int) * b.natAbs / 18446744073709551616 = 0 := by simpa using h
    (simp -implicitDefEqProofs only [go_sem]; repeat (refine GO ?_; simp -implicitDefEqProofs only [go_sem]))
    have e : (a.natAbs : Int) * b.natAbs % 18446744073709551616 = (a.natAbs : Int) * b.natAbs := by omega
    rw [e]
    simp only [okW, inB, bA, h, decide_true]
    refine ⟨rfl, ?_⟩
    congr 5
    rw [← Bool.decide_and, decide_eq_decide]
    exact hk
  · have h : (a.natAbs : Int) * b.natAbs / 18446744073709551616 ≠ 0 := by simpa using h
    (simp -implicitDefEqProofs only [go_sem]; repeat (refine GO ?_; simp -implicitDefEqProofs only [go_sem]))
    have hn : ¬ (-72057594037927936 ≤ a * b ∧ a * b ≤ 72057594037927936) := fun h' => by have := hk.2 h'; omega
    have e : okW (a * b) = false := by
      simp only [okW, inB, ← Bool.decide_and]; exact decide_eq_false hn
    simp [h, e, bA, iA]
/-- Do two rows meet? -/
def meetP (a b : List V) (cols others : List Int) : Bool := (cols.zip others).all fun p =>
  inC p.1 a.length && inC p.2 b.length && !decide ((getV a p.1).k = 1) && !decide ((getV b p.2).k = 1) && decide (cmpV (getV a p.1) (getV b p.2) = 0)
theorem c114 (a b : List V) (cols others : List Int) (hl : cols.length = others.length) (ha : a.length < 4611686018427387904) (hb : b.length < 4611686018427387904) (hc : cols.length < 4611686018427387904) :
    Spec0 Try.prog 114 [rowA a, rowA b, intsL cols, intsL others] (· = bA (meetP a b cols others)) := by
  refine spec0_of_vc tabOk elems ord114 Try.func114 rfl (rl := [.tmp 8]) rfl (by kernel_rfl) rfl ?_
  (simp -implicitDefEqProofs only [go_sem, rowA, intsL]; repeat (refine GO ?_; simp -implicitDefEqProofs only [go_sem, rowA, intsL]))
  have fin : ∀ (i : Nat) (h : i < cols.length) (h2 : i < others.length), (inC cols[i] a.length && inC others[i] b.length && !decide ((getV a cols[i]).k = 1) && !decide ((getV b others[i]).k = 1) && decide (cmpV (getV a cols[i]) (getV b others[i]) = 0)) = false →
      meetP a b cols others = false := fun i h h2 e => by
    simp only [meetP]
    rw [List.all_eq_false]
    exact ⟨(cols[i], others[i]), List.mem_iff_getElem.2 ⟨i, by simp; omega, by simp⟩, by rw [e]; simp⟩
  refine LOOP.mk (ι := { i : Nat // i ≤ cols.length ∧ ∀ j (h : j < cols.length) (h2 : j < others.length), j < i → (inC cols[j] a.length && inC others[j] b.length && !decide ((getV a cols[j]).k = 1) && !decide ((getV b others[j]).k = 1) && decide (cmpV (getV a cols[j]) (getV b others[j]) = 0)) = true })
    (fun q => mkS [(0, rowA a), (1, rowA b), (3, intsL others), (12, intsL cols), (13, iA cols.length), (14, iA q.1)] [] []) (fun q => cols.length - q.1) ⟨0, Nat.zero_le _, fun j _ _ h => absurd h (Nat.not_lt_zero _)⟩ [] rfl rfl ?_ (fun q => ?_)
  · (simp -implicitDefEqProofs only [go_sem, rowA, intsL, iA]; repeat (refine GO ?_; simp -implicitDefEqProofs only [go_sem, rowA, intsL, iA]))
    exact ⟨id, rfl⟩
  · obtain ⟨i, hi, hz⟩ := q
    (simp -implicitDefEqProofs only [go_sem, rowA, intsL, iA]; repeat (refine GO ?_; simp -implicitDefEqProofs only [go_sem, rowA, intsL, iA]))
    refine VIF.split (fun h => ?_) (fun h => ?_)
    · have h : i < cols.length := by simpa using h
      have h2 : i < others.length := by omega
      have w1 := wrap_add1 (show i < 4611686018427387904 by omega)
      (simp -implicitDefEqProofs only [go_sem]; repeat (refine GO ?_; simp -implicitDefEqProofs only [go_sem]))
      refine EL.map h ?_
      (simp -implicitDefEqProofs only [go_sem, iA]; repeat (refine GO ?_; simp -implicitDefEqProofs only [go_sem, iA]))
      refine EL.map h2 ?_
      (simp -implicitDefEqProofs only [go_sem, iA]; repeat (refine GO ?_; simp -implicitDefEqProofs only [go_sem, iA]))
      have bad : (inC cols[i] a.length && inC others[i] b.length && !decide ((getV a cols[i]).k = 1) && !decide ((getV b others[i]).k = 1) && decide (cmpV (getV a cols[i]) (getV b others[i]) = 0)) = false →
          AV.pr (Value.bool false) = bA (meetP a b cols others) := fun e => by rw [fin i h h2 e]; rfl
      refine VIF.split (fun g1 => ?_) (fun g1 => ?_)
      · have g1 : cols[i] < 0 := by simpa using g1
        (simp -implicitDefEqProofs only [go_sem]; repeat (refine GO ?_; simp -implicitDefEqProofs only [go_sem]))
        exact bad (by simp [inC]; intros; omega)
      have g1 : ¬ cols[i] < 0 := by simpa using g1
      (simp -implicitDefEqProofs only [go_sem]; repeat (refine GO ?_; simp -implicitDefEqProofs only [go_sem]))
      refine VIF.split (fun g2 => ?_) (fun g2 => ?_)
      · have g2 : (a.length : Int) ≤ cols[i] := by simpa using g2
        (simp -implicitDefEqProofs only [go_sem]; repeat (refine GO ?_; simp -implicitDefEqProofs only [go_sem]))
        exact bad (by simp [inC]; intros; omega)
      have g2 : ¬ (a.length : Int) ≤ cols[i] := by simpa using g2
      (simp -implicitDefEqProofs only [go_sem]; repeat (refine GO ?_; simp -implicitDefEqProofs only [go_sem]))
      refine VIF.split (fun g3 => ?_) (fun g3 => ?_)
      · have g3 : others[i] < 0 := by simpa using g3
        (simp -implicitDefEqProofs only [go_sem]; repeat (refine GO ?_; simp -implicitDefEqProofs only [go_sem]))
        exact bad (by simp [inC]; intros; omega)
      have g3 : ¬ others[i] < 0 := by simpa using g3
      (simp -implicitDefEqProofs only [go_sem]; repeat (refine GO ?_; simp -implicitDefEqProofs only [go_sem]))
      refine VIF.split (fun g4 => ?_) (fun g4 => ?_)
      · have g4 : (b.length : Int) ≤ others[i] := by simpa using g4
        (simp -implicitDefEqProofs only [go_sem]; repeat (refine GO ?_; simp -implicitDefEqProofs only [go_sem]))
        exact bad (by simp [inC]; intros; omega)
      have g4 : ¬ (b.length : Int) ≤ others[i] := by simpa using g4
      have k1 : cols[i].toNat < a.length := by omega
      have k2 : others[i].toNat < b.length := by omega
      have hg1 : getV a cols[i] = a[cols[i].toNat] := by simp [getV, k1]
      have hg2 : getV b others[i] = b[others[i].toNat] := by simp [getV, k2]
      rw [hg1, hg2] at bad
      have i1 : inC cols[i] a.length = true := by simp [inC]; omega
      have i2 : inC others[i] b.length = true := by simp [inC]; omega
      (simp -implicitDefEqProofs only [go_sem]; repeat (refine GO ?_; simp -implicitDefEqProofs only [go_sem]))
      refine ⟨by omega, EL.map k1 ?_⟩
      (simp -implicitDefEqProofs only [go_sem, V.c]; repeat (refine GO ?_; simp -implicitDefEqProofs only [go_sem, V.c]))
      refine VIF.split (fun g5 => ?_) (fun g5 => ?_)
      · (simp -implicitDefEqProofs only [go_sem]; repeat (refine GO ?_; simp -implicitDefEqProofs only [go_sem]))
        exact bad (by simp [g5])
      have g5 : decide (a[cols[i].toNat].k = 1) = false := by simpa using g5
      (simp -implicitDefEqProofs only [go_sem]; repeat (refine GO ?_; simp -implicitDefEqProofs only [go_sem]))
      refine ⟨by omega, EL.map k2 ?_⟩
      (simp -implicitDefEqProofs only [go_sem, V.c]; repeat (refine GO ?_; simp -implicitDefEqProofs only [go_sem, V.c]))
      refine VIF.split (fun g6 => ?_) (fun g6 => ?_)
      · (simp -implicitDefEqProofs only [go_sem]; repeat (refine GO ?_; simp -implicitDefEqProofs only [go_sem]))
        exact bad (by simp [g6])
      have g6 : decide (b[others[i].toNat].k = 1) = false := by simpa using g6
      (simp -implicitDefEqProofs only [go_sem]; repeat (refine GO ?_; simp -implicitDefEqProofs only [go_sem]))
      refine ⟨by omega, EL.map k1 ?_⟩
      (simp -implicitDefEqProofs only [go_sem, V.c]; repeat (refine GO ?_; simp -implicitDefEqProofs only [go_sem, V.c]))
      refine ⟨by omega, EL.map k2 ?_⟩
      (simp -implicitDefEqProofs only [go_sem, V.c]; repeat (refine GO ?_; simp -implicitDefEqProofs only [go_sem, V.c]))
      refine .pure _ (s45 a[cols[i].toNat] b[others[i].toNat]) rfl fun r hq _ => ?_
      subst hq
      (simp -implicitDefEqProofs only [go_sem, iA]; repeat (refine GO ?_; simp -implicitDefEqProofs only [go_sem, iA]))
      refine VIF.split (fun g7 => ?_) (fun g7 => ?_)
      · have g7 : cmpV a[cols[i].toNat] b[others[i].toNat] ≠ 0 := by simpa using g7
        (simp -implicitDefEqProofs only [go_sem]; repeat (refine GO ?_; simp -implicitDefEqProofs only [go_sem]))
        exact bad (by simp [g7])
      have g7 : cmpV a[cols[i].toNat] b[others[i].toNat] = 0 := by simpa using g7
      (simp -implicitDefEqProofs only [go_sem, w1]; repeat (refine GO ?_; simp -implicitDefEqProofs only [go_sem, w1]))
      refine BACK.mk ⟨i + 1, by omega, fun j hj hj2 hji => ?_⟩ [] rfl rfl (by show cols.length - (i + 1) < cols.length - i; omega) ?_
      · by_cases e2 : j = i
        · subst e2
          rw [i1, i2, hg1, hg2, g5, g6, g7]; rfl
        · exact hz j hj hj2 (by omega)
      · (simp -implicitDefEqProofs only [go_sem, rowA, intsL, iA]; repeat (refine GO ?_; simp -implicitDefEqProofs only [go_sem, rowA, intsL, iA]))
        exact id
    · have h : i = cols.length := by simp at h; omega
      subst h
      (simp -implicitDefEqProofs only [go_sem]; repeat (refine GO ?_; simp -implicitDefEqProofs only [go_sem]))
      have e : meetP a b cols others = true := by
        simp only [meetP]
        rw [List.all_eq_true]
        intro p hp
        obtain ⟨j, hj, rfl⟩ := List.mem_iff_getElem.1 hp
        simp only [List.length_zip] at hj
        simpa using hz j (by omega) (by omega) (by omega)
      rw [e]; rfl
end Yt
namespace Yt
open Go Go.Vc Go.Proofs
set_option maxRecDepth 10000
set_option maxHeartbeats 8000000
set_option linter.unusedSimpArgs false
set_option linter.unusedVariables false
theorem zerosV_leafy (n : Nat) : (Ob.mk 3 (List.replicate n [iA 0, iA 0, .pr (.string ⟨#[]⟩)])).leafy := by
  intro x hx a ha
  rw [(List.mem_replicate.1 hx).2] at ha
  simp only [List.mem_cons, List.not_mem_nil, or_false] at ha
  rcases ha with rfl | rfl | rfl <;> rfl
theorem c117 (n : Nat) (hn : n ≤ 1073741824) : Spec1 Try.prog 117 [.nl, iA n] (fun r o => r = .rf 0 0 0 ∧ o.sz = 3) := by
  refine spec1_of_vc tabOk elems ord117 Try.func117 rfl (rl := [.tmp 4]) rfl (by kernel_rfl) rfl ?_
  (simp -implicitDefEqProofs only [go_sem, iA]; repeat (refine GO ?_; simp -implicitDefEqProofs only [go_sem, iA]))
  refine VIF.split (fun h => by simp at h; omega) (fun _ => ?_)
  have w0 : IntKind.i64.wrap (0 - 0) = 0 := by rw [wrap_i64] <;> omega
  have w1 : IntKind.i64.wrap ((n : Int) - 0) = n := by rw [wrap_i64] <;> omega
  (simp -implicitDefEqProofs only [go_sem, w0, w1]; repeat (refine GO ?_; simp -implicitDefEqProofs only [go_sem, w0, w1]))
  refine VIF.split (fun h => ?_) (fun h => ?_)
  · have h : 0 < n := by simpa using h
    (simp -implicitDefEqProofs only [go_sem]; repeat (refine GO ?_; simp -implicitDefEqProofs only [go_sem]))
    refine ⟨by decide, ⟨_, rfl⟩, ⟨by omega, by omega⟩, by decide, ?_⟩
    (simp -implicitDefEqProofs only [go_sem]; repeat (refine GO ?_; simp -implicitDefEqProofs only [go_sem]))
    refine FINmk [(0, some 22)] [(4, .rf 0 0 0)] [(0, ⟨3, List.replicate n [iA 0, iA 0, .pr (.string ⟨#[]⟩)]⟩)] [0] rfl ?_ ?_
    · (simp -implicitDefEqProofs only [go_sem, iA]; repeat (refine GO ?_; simp -implicitDefEqProofs only [go_sem, iA]))
      exact ⟨⟨rfl, rfl⟩, .same ⟨3, List.replicate n [iA 0, iA 0, .pr (.string ⟨#[]⟩)]⟩ _ _ (zerosV_leafy n) (by simp [iA])⟩
    · exact ⟨_, ⟨⟨rfl, rfl⟩, rfl⟩, zerosV_leafy n, rfl⟩
  · (simp -implicitDefEqProofs only [go_sem]; repeat (refine GO ?_; simp -implicitDefEqProofs only [go_sem]))
    refine FINmk [(0, none)] [(4, .rf 0 0 0)] [(0, ro3 [])] [0] rfl ?_ ?_
    · (simp -implicitDefEqProofs only [go_sem]; repeat (refine GO ?_; simp -implicitDefEqProofs only [go_sem]))
      simp [ro3]
    · exact ⟨ro3 [], ⟨⟨rfl, rfl⟩, rfl⟩, ro3_leafy [], rfl⟩
/-- All of them, one behind the other. -/
def catV : List (List V) → List V
  | [] => []
  | z :: r => z ++ catV r
theorem catV_append (x y : List (List V)) : catV (x ++ y) = catV x ++ catV y := by
  induction x with
  | nil => rfl
  | cons z x ih => simp only [List.cons_append, catV, ih, List.append_assoc]
theorem catV_take {zs : List (List V)} {i : Nat} (h : i < zs.length) : (catV (zs.take (i + 1))).length = (catV (zs.take i)).length + zs[i].length := by
  rw [List.take_succ_eq_append_getElem h, catV_append]; simp [catV]
theorem catV_le (zs : List (List V)) (i : Nat) : (catV (zs.take i)).length ≤ (catV zs).length := by
  have : catV zs = catV (zs.take i) ++ catV (zs.drop i) := by rw [← catV_append, List.take_append_drop]
  rw [this]; simp
theorem c75 (zs : List (List V)) (hl : zs.length ≤ 1073741824) (hc : (catV zs).length ≤ 1048576) :
    Spec1 Try.prog 75 [rowsA zs] (fun r o => r = .rf 0 0 (catV zs).length ∧ o.sz = 3 ∧ o.es.take (catV zs).length = (catV zs).map V.c) := by
  refine spec1_of_vc tabOk elems ord75 Try.func75 rfl (rl := [.tmp 2]) rfl (by kernel_rfl) rfl ?_
  (simp -implicitDefEqProofs only [go_sem, rowsA]; repeat (refine GO ?_; simp -implicitDefEqProofs only [go_sem, rowsA]))
  refine LOOP.mk (ι := { i : Nat // i ≤ zs.length }) (fun p => mkS [(0, rowsA zs), (3, iA (catV (zs.take p.1)).length), (9, rowsA zs), (10, iA zs.length), (11, iA p.1)] [] [])
    (fun p => zs.length - p.1) ⟨0, Nat.zero_le _⟩ [] rfl rfl ?_ (fun p => ?_)
  · (simp -implicitDefEqProofs only [go_sem, rowsA, iA]; repeat (refine GO ?_; simp -implicitDefEqProofs only [go_sem, rowsA, iA]))
    exact ⟨id, rfl, rfl⟩
  · obtain ⟨i, hi⟩ := p
    (simp -implicitDefEqProofs only [go_sem, rowsA, iA]; repeat (refine GO ?_; simp -implicitDefEqProofs only [go_sem, rowsA, iA]))
    refine VIF.split (fun h => ?_) (fun h => ?_)
    · have h : i < zs.length := by simpa using h
      (simp -implicitDefEqProofs only [go_sem]; repeat (refine GO ?_; simp -implicitDefEqProofs only [go_sem]))
      refine EL.map h ?_
      have hct := catV_take h
      have hcl := catV_le zs (i + 1)
      rw [hct] at hcl
      have w1 : IntKind.i64.wrap (((catV (zs.take i)).length : Int) + (zs[i].length : Int)) = ((catV (zs.take (i + 1))).length : Int) := by
        rw [hct, wrap_i64] <;> omega
      have w2 := wrap_add1 (show i < 4611686018427387904 by omega)
      (simp -implicitDefEqProofs only [go_sem, rowA, w1, w2]; repeat (refine GO ?_; simp -implicitDefEqProofs only [go_sem, rowA, w1, w2]))
      refine VIF.split (fun h => by simp at h; omega) (fun _ => ?_)
      (simp -implicitDefEqProofs only [go_sem, w1, w2]; repeat (refine GO ?_; simp -implicitDefEqProofs only [go_sem, w1, w2]))
      refine BACK.mk ⟨i + 1, by omega⟩ [] rfl rfl (by show zs.length - (i + 1) < zs.length - i; omega) ?_
      (simp -implicitDefEqProofs only [go_sem, rowsA, iA, w1, w2]; repeat (refine GO ?_; simp -implicitDefEqProofs only [go_sem, rowsA, iA, w1, w2]))
      exact ⟨id, rfl, rfl⟩
    · have h : i = zs.length := by simp at h; omega
      subst h
      (simp -implicitDefEqProofs only [go_sem, List.take_length]; repeat (refine GO ?_; simp -implicitDefEqProofs only [go_sem, List.take_length]))
      refine .make 24 _ (c117 (catV zs).length (by omega)) rfl (by simp) rfl fun q o hq hlf => ?_
      obtain ⟨rfl, ho⟩ := hq
      (simp -implicitDefEqProofs only [go_sem]; repeat (refine GO ?_; simp -implicitDefEqProofs only [go_sem]))
      refine LOOP.mk (ι := { p : Nat × Ob // p.1 ≤ zs.length ∧ p.2.sz = 3 ∧ p.2.leafy ∧ p.2.es.take (catV (zs.take p.1)).length = (catV (zs.take p.1)).map V.c })
        (fun p => mkS [(6, .rf 1000 0 (catV (zs.take p.1.1)).length), (25, rowsA zs), (26, iA zs.length), (27, iA p.1.1)] [(1000, p.1.2)] [1000])
        (fun p => zs.length - p.1.1) ⟨(0, o), Nat.zero_le _, ho, hlf, rfl⟩ [(1000, some 24)] rfl rfl ?_ (fun p => ?_)
      · (simp -implicitDefEqProofs only [go_sem, rowsA, iA]; repeat (refine GO ?_; simp -implicitDefEqProofs only [go_sem, rowsA, iA]))
        exact ⟨id, ⟨rfl, rfl⟩, .same o _ _ hlf rfl⟩
      · obtain ⟨⟨i, o2⟩, hi, hsz, hlf2, hes⟩ := p
        simp only at hi hsz hlf2 hes
        (simp -implicitDefEqProofs only [go_sem, rowsA, iA]; repeat (refine GO ?_; simp -implicitDefEqProofs only [go_sem, rowsA, iA]))
        refine VIF.split (fun h => ?_) (fun h => ?_)
        · have h : i < zs.length := by simpa using h
          have hct := catV_take h
          have hcl := catV_le zs (i + 1)
          rw [hct] at hcl
          have w2 := wrap_add1 (show i < 4611686018427387904 by omega)
          (simp -implicitDefEqProofs only [go_sem]; repeat (refine GO ?_; simp -implicitDefEqProofs only [go_sem]))
          refine EL.map h ?_
          (simp -implicitDefEqProofs only [go_sem, rowA, w2]; repeat (refine GO ?_; simp -implicitDefEqProofs only [go_sem, rowA, w2]))
          refine ⟨⟨hsz, by omega⟩, ?_⟩
          have hlf3 : (Ob.mk 3 (o2.es.take (catV (zs.take i)).length ++ zs[i].map V.c)).leafy := by
            rw [hes, ← List.map_append]; exact ro3_leafy _
          refine BACK.mk ⟨(i + 1, ⟨3, o2.es.take (catV (zs.take i)).length ++ zs[i].map V.c⟩), by omega, rfl, hlf3, by
            show (o2.es.take (catV (zs.take i)).length ++ zs[i].map V.c).take (catV (zs.take (i + 1))).length = (catV (zs.take (i + 1))).map V.c
            rw [hes, ← List.map_append, List.take_succ_eq_append_getElem h, catV_append]
            simp only [catV, List.append_nil]
            exact List.take_of_length_le (by simp)⟩ [(1000, some 33)] rfl rfl (by show zs.length - (i + 1) < zs.length - i; omega) ?_
          (simp -implicitDefEqProofs only [go_sem, rowsA, iA, w2]; repeat (refine GO ?_; simp -implicitDefEqProofs only [go_sem, rowsA, iA, w2]))
          refine ⟨id, ⟨by rw [hct], rfl⟩, .same (Ob.mk 3 (o2.es.take (catV (zs.take i)).length ++ zs[i].map V.c)) _ _ hlf3 rfl⟩
        · have h : i = zs.length := by simp at h; omega
          subst h
          rw [List.take_length] at hes
          (simp -implicitDefEqProofs only [go_sem, List.take_length]; repeat (refine GO ?_; simp -implicitDefEqProofs only [go_sem, List.take_length]))
          refine FINmk [(0, some 1000)] [(2, .rf 0 0 (catV zs).length)] [(0, o2)] [0] rfl ?_ ?_
          · (simp -implicitDefEqProofs only [go_sem]; repeat (refine GO ?_; simp -implicitDefEqProofs only [go_sem]))
            exact .same o2 _ _ hlf2 rfl
          · exact ⟨o2, ⟨⟨rfl, hsz, hes⟩, rfl⟩, hlf2, rfl⟩
end Yt
namespace Yt
open Go Go.Vc Go.Proofs
set_option maxRecDepth 10000
set_option maxHeartbeats 8000000
set_option linter.unusedSimpArgs false
set_option linter.unusedVariables false
theorem c75z (zs : List (List V)) (hl : zs.length ≤ 1073741824) (hc : (catV zs).length ≤ 1048576) : Spec0 Try.prog 75 [rowsA zs] (· = rowA (catV zs)) :=
  (Spec1.fz (c75 zs hl hc)).mono fun r O' ⟨⟨⟨r0, o, ⟨e1, e2, e4⟩, _, _, e3⟩, hn⟩, hO⟩ => by
    subst e1; subst e3
    refine ⟨⟨?_, hn⟩, hO⟩
    rw [fz_rf, if_pos rfl, List.drop_zero, e2, e4]; rfl
def pc (p : It × It) : List AV := [rowA p.1.row, iA p.1.w, rowA p.2.row, iA p.2.w]
def pairsA (l : List (It × It)) : AV := .im 4 (l.map pc)
def op4 (l : List (It × It)) : Ob := ⟨4, l.map pc⟩
theorem op4_leafy (l : List (It × It)) : (op4 l).leafy := by
  intro x hx a ha
  obtain ⟨p, hp, rfl⟩ := List.mem_map.1 hx
  simp only [pc, List.mem_cons, List.not_mem_nil, or_false] at ha
  rcases ha with rfl | rfl | rfl | rfl <;> rfl
def pairL (a b : List It) (cols others : List Int) : List (It × It) := a.flatMap fun x => (b.filter fun y => meetP x.row y.row cols others).map fun y => (x, y)
def longP (p : It × It) : Bool := decide (12 < p.1.row.length + p.2.row.length)
theorem pairL_append (a a' b : List It) (cols others : List Int) : pairL (a ++ a') b cols others = pairL a b cols others ++ pairL a' b cols others := by simp [pairL]
theorem pairL_one (x : It) (b b' : List It) (cols others : List Int) : pairL [x] (b ++ b') cols others = pairL [x] b cols others ++ pairL [x] b' cols others := by simp [pairL]
theorem pairL_len (a b : List It) (cols others : List Int) : (pairL a b cols others).length ≤ a.length * b.length := by
  induction a with
  | nil => simp [pairL]
  | cons x a ih =>
    have e : pairL (x :: a) b cols others = (b.filter fun y => meetP x.row y.row cols others).map (fun y => (x, y)) ++ pairL a b cols others := by simp [pairL]
    rw [e, List.length_append, List.length_map, List.length_cons, Nat.succ_mul]
    have := List.length_filter_le (fun y => meetP x.row y.row cols others) b
    omega
theorem pairL_mem {a b : List It} {cols others : List Int} {p : It × It} (h : p ∈ pairL a b cols others) : p.1 ∈ a ∧ p.2 ∈ b ∧ meetP p.1.row p.2.row cols others = true := by
  simp only [pairL, List.mem_flatMap, List.mem_map, List.mem_filter] at h
  obtain ⟨x, hx, y, ⟨hy, hm⟩, rfl⟩ := h
  exact ⟨hx, hy, hm⟩
theorem pair_bd {a b : List It} {cols others : List Int} {i j : Nat} (hi : i < a.length) (hj : j ≤ b.length) : (pairL (a.take i) b cols others ++ pairL [a[i]] (b.take j) cols others).length ≤ a.length * b.length := by
  have h1 := pairL_len (a.take (i + 1)) b cols others
  rw [List.take_succ_eq_append_getElem hi, pairL_append] at h1
  have h2 : b = b.take j ++ b.drop j := (List.take_append_drop j b).symm
  have h3 : pairL [a[i]] b cols others = pairL [a[i]] (b.take j) cols others ++ pairL [a[i]] (b.drop j) cols others := by rw [← pairL_one, List.take_append_drop]
  rw [h3] at h1
  have h4 : (a.take i ++ [a[i]]).length ≤ a.length := by simp; omega
  have h5 := Nat.mul_le_mul_right b.length h4
  simp only [List.length_append] at h1 ⊢
  simp only [List.length_append] at h5
  omega
theorem c73 (a b : List It) (cols others : List Int) (hl : cols.length = others.length) (hc : cols.length < 1073741824) (hab : a.length * b.length ≤ 1048576) (hal : a.length ≤ 1048576) (hbl : b.length ≤ 1048576) (ha : ∀ t ∈ a, t.row.length < 1073741824) (hb : ∀ t ∈ b, t.row.length < 1073741824) :
    Spec0 Try.prog 73 [setA a, setA b, intsL cols, intsL others] (· = .tu [pairsA (pairL a b cols others), bA ((pairL a b cols others).any longP)]) := by
  refine spec0_of_vc tabOk elems ord73 Try.func73 rfl (rl := [.tmp 8, .tmp 9]) rfl (by kernel_rfl) rfl ?_
  (simp -implicitDefEqProofs only [go_sem, setA, intsL]; repeat (refine GO ?_; simp -implicitDefEqProofs only [go_sem, setA, intsL]))
  refine LOOP.mk (ι := { i : Nat // i ≤ a.length }) (fun p => mkS [(1, setA b), (2, intsL cols), (3, intsL others), (8, .rf 1000 0 (pairL (a.take p.1) b cols others).length), (9, bA ((pairL (a.take p.1) b cols others).any longP)), (14, setA a), (15, iA a.length), (16, iA p.1)]
    [(1000, op4 (pairL (a.take p.1) b cols others))] [1000]) (fun p => a.length - p.1) ⟨0, Nat.zero_le _⟩ [(1000, none)] rfl rfl ?_ (fun p => ?_)
  · (simp -implicitDefEqProofs only [go_sem, setA, intsL, iA, bA, op4]; repeat (refine GO ?_; simp -implicitDefEqProofs only [go_sem, setA, intsL, iA, bA, op4]))
    simp [pairL]
  · obtain ⟨i, hi⟩ := p
    (simp -implicitDefEqProofs only [go_sem, setA, intsL, iA, bA, op4]; repeat (refine GO ?_; simp -implicitDefEqProofs only [go_sem, setA, intsL, iA, bA, op4]))
    refine VIF.split (fun h1 => ?_) (fun h1 => ?_)
    · have h1 : i < a.length := by simpa using h1
      have hma := List.getElem_mem h1
      have w1 := wrap_add1 (show i < 4611686018427387904 by omega)
      (simp -implicitDefEqProofs only [go_sem]; repeat (refine GO ?_; simp -implicitDefEqProofs only [go_sem]))
      refine EL.map h1 ?_
      (simp -implicitDefEqProofs only [go_sem, It.c]; repeat (refine GO ?_; simp -implicitDefEqProofs only [go_sem, It.c]))
      have e0 : pairL (a.take i) b cols others ++ pairL [a[i]] (b.take 0) cols others = pairL (a.take i) b cols others := by simp [pairL]
      refine LOOP.mk (ι := { j : Nat // j ≤ b.length }) (fun p => mkS [(1, setA b), (2, intsL cols), (3, intsL others), (8, .rf 1000 0 (pairL (a.take i) b cols others ++ pairL [a[i]] (b.take p.1) cols others).length), (9, bA ((pairL (a.take i) b cols others ++ pairL [a[i]] (b.take p.1) cols others).any longP)), (11, .pt 1001 0 0), (14, setA a), (15, iA a.length), (16, iA i), (20, setA b), (21, iA b.length), (22, iA p.1)]
        [(1000, op4 (pairL (a.take i) b cols others ++ pairL [a[i]] (b.take p.1) cols others)), (1001, ⟨2, [It.c a[i]]⟩)] [1000, 1001]) (fun p => b.length - p.1) ⟨0, Nat.zero_le _⟩ [(1000, some 1000), (1001, some 11)] rfl rfl ?_ (fun p => ?_)
      · simp only [e0]
        (simp -implicitDefEqProofs only [go_sem, setA, intsL, iA, bA, op4, It.c, rowA]; repeat (refine GO ?_; simp -implicitDefEqProofs only [go_sem, setA, intsL, iA, bA, op4, It.c, rowA]))
        exact ⟨id, rfl, .same (op4 (pairL (a.take i) b cols others)) _ _ (op4_leafy _) rfl, .same ⟨2, [It.c a[i]]⟩ _ _ (by simp [Ob.leafy, It.c, AV.leaf, rowA, iA]) rfl⟩
      · obtain ⟨j, hj⟩ := p
        have hbd := pair_bd (cols := cols) (others := others) h1 hj
        simp only
        generalize hL : pairL (a.take i) b cols others ++ pairL [a[i]] (b.take j) cols others = L at *
        (simp -implicitDefEqProofs only [go_sem, setA, intsL, iA, bA, op4, It.c]; repeat (refine GO ?_; simp -implicitDefEqProofs only [go_sem, setA, intsL, iA, bA, op4, It.c]))
        refine VIF.split (fun h2 => ?_) (fun h2 => ?_)
        · have h2 : j < b.length := by simpa using h2
          have hmb := List.getElem_mem h2
          have w2 := wrap_add1 (show j < 4611686018427387904 by omega)
          (simp -implicitDefEqProofs only [go_sem]; repeat (refine GO ?_; simp -implicitDefEqProofs only [go_sem]))
          refine EL.map h2 ?_
          (simp -implicitDefEqProofs only [go_sem, It.c]; repeat (refine GO ?_; simp -implicitDefEqProofs only [go_sem, It.c]))
          refine .pure _ (c114 a[i].row b[j].row cols others hl (by have := ha _ hma; omega) (by have := hb _ hmb; omega) (by omega)) rfl fun r hq _ => ?_
          subst hq
          have eN : pairL (a.take i) b cols others ++ pairL [a[i]] (b.take (j + 1)) cols others = L ++ pairL [a[i]] [b[j]] cols others := by
            rw [List.take_succ_eq_append_getElem h2, pairL_one, ← List.append_assoc, hL]
          (simp -implicitDefEqProofs only [go_sem, bA]; repeat (refine GO ?_; simp -implicitDefEqProofs only [go_sem, bA]))
          refine VIF.split (fun h3 => ?_) (fun h3 => ?_)
          · have eM : pairL [a[i]] [b[j]] cols others = [(a[i], b[j])] := by simp [pairL, h3]
            rw [eM] at eN
            (simp -implicitDefEqProofs only [go_sem]; repeat (refine GO ?_; simp -implicitDefEqProofs only [go_sem]))
            refine ⟨by omega, ?_⟩
            have e1 : (List.map pc L).take L.length ++ [[rowA a[i].row, iA a[i].w, rowA b[j].row, iA b[j].w]] = List.map pc (L ++ [(a[i], b[j])]) := by
              rw [take_map_len, List.map_append]; rfl
            have hany : (L ++ [(a[i], b[j])]).any longP = (L.any longP || decide (12 < a[i].row.length + b[j].row.length)) := by simp [longP]
            refine VIF.split (fun h4 => ?_) (fun h4 => ?_)
            · rw [h4, Bool.true_or] at hany
              have hw : True := trivial
              (simp -implicitDefEqProofs only [go_sem, w2, h4]; repeat (refine GO ?_; simp -implicitDefEqProofs only [go_sem, w2, h4]))
              refine BACK.mk ⟨j + 1, by omega⟩ [(1000, some 38), (1001, some 1001)] rfl rfl (by show b.length - (j + 1) < b.length - j; omega) ?_
              simp only [eN, hany]
              (simp -implicitDefEqProofs only [go_sem, setA, intsL, iA, bA, op4, It.c, w2, hw]; repeat (refine GO ?_; simp -implicitDefEqProofs only [go_sem, setA, intsL, iA, bA, op4, It.c, w2, hw]))
              exact ⟨id, by simp, .same (op4 []) _ _ (fun x hx => op4_leafy (L ++ [(a[i], b[j])]) x (by rw [op4]; exact e1 ▸ hx)) e1, .same ⟨2, [It.c a[i]]⟩ _ _ (by simp [Ob.leafy, It.c, AV.leaf, rowA, iA]) rfl⟩
            · rw [h4, Bool.false_or] at hany
              have hw : IntKind.i64.wrap ((a[i].row.length : Int) + b[j].row.length) = ((a[i].row.length + b[j].row.length : Nat) : Int) := by
                have := ha _ hma; have := hb _ hmb; rw [wrap_i64] <;> omega
              have hd : decide ((12 : Int) < ((a[i].row.length + b[j].row.length : Nat) : Int)) = decide (12 < a[i].row.length + b[j].row.length) := by
                rw [decide_eq_decide]; omega
              (simp -implicitDefEqProofs only [go_sem, w2, h4, rowA, hw, hd]; repeat (refine GO ?_; simp -implicitDefEqProofs only [go_sem, w2, h4, rowA, hw, hd]))
              refine BACK.mk ⟨j + 1, by omega⟩ [(1000, some 38), (1001, some 1001)] rfl rfl (by show b.length - (j + 1) < b.length - j; omega) ?_
              simp only [eN, hany]
              (simp -implicitDefEqProofs only [go_sem, setA, intsL, iA, bA, op4, It.c, w2, hw, rowA]; repeat (refine GO ?_; simp -implicitDefEqProofs only [go_sem, setA, intsL, iA, bA, op4, It.c, w2, hw, rowA]))
              exact ⟨id, by simp, .same (op4 []) _ _ (fun x hx => op4_leafy (L ++ [(a[i], b[j])]) x (by rw [op4]; exact e1 ▸ hx)) e1, .same ⟨2, [It.c a[i]]⟩ _ _ (by simp [Ob.leafy, It.c, AV.leaf, rowA, iA]) rfl⟩
          · have eM : pairL [a[i]] [b[j]] cols others = [] := by simp [pairL, h3]
            rw [eM, List.append_nil] at eN
            (simp -implicitDefEqProofs only [go_sem, w2]; repeat (refine GO ?_; simp -implicitDefEqProofs only [go_sem, w2]))
            refine BACK.mk ⟨j + 1, by omega⟩ [(1000, some 1000), (1001, some 1001)] rfl rfl (by show b.length - (j + 1) < b.length - j; omega) ?_
            simp only [eN]
            (simp -implicitDefEqProofs only [go_sem, setA, intsL, iA, bA, op4, It.c, rowA]; repeat (refine GO ?_; simp -implicitDefEqProofs only [go_sem, setA, intsL, iA, bA, op4, It.c, rowA]))
            exact ⟨id, .same (op4 L) _ _ (op4_leafy _) rfl, .same ⟨2, [It.c a[i]]⟩ _ _ (by simp [Ob.leafy, It.c, AV.leaf, rowA, iA]) rfl⟩
        · have h2 : j = b.length := by simp at h2; omega
          subst h2
          have eL : L = pairL (a.take (i + 1)) b cols others := by rw [← hL, List.take_length, List.take_succ_eq_append_getElem h1, pairL_append]
          subst eL
          (simp -implicitDefEqProofs only [go_sem, w1]; repeat (refine GO ?_; simp -implicitDefEqProofs only [go_sem, w1]))
          refine BACK.mk ⟨i + 1, by omega⟩ [(1000, some 1000)] rfl rfl (by show a.length - (i + 1) < a.length - i; omega) ?_
          (simp -implicitDefEqProofs only [go_sem, setA, intsL, iA, bA, op4]; repeat (refine GO ?_; simp -implicitDefEqProofs only [go_sem, setA, intsL, iA, bA, op4]))
          exact ⟨id, .same (op4 (pairL (a.take (i + 1)) b cols others)) _ _ (op4_leafy _) rfl⟩
    · have h1 : i = a.length := by simp at h1; omega
      subst h1
      simp -implicitDefEqProofs only [go_sem, List.take_length]
      generalize hL : pairL a b cols others = L at *
      refine FRZ 1000 (op4 L) rfl (op4_leafy L) ?_
      (simp -implicitDefEqProofs only [go_sem, op4]; repeat (refine GO ?_; simp -implicitDefEqProofs only [go_sem, op4]))
      rw [take_map_len]
      exact ⟨rfl, rfl⟩
end Yt
namespace Yt
open Go Go.Vc Go.Proofs
set_option maxRecDepth 10000
set_option maxHeartbeats 8000000
set_option linter.unusedSimpArgs false
set_option linter.unusedVariables false
def joinI (p : It × It) : It := ⟨p.1.row ++ p.2.row, p.1.w * p.2.w⟩
/-- What a join is, or why not. -/
def JoinR (a b : List It) (cols others : List Int) (out : List It) (err : Int) : Prop :=
  (¬ (Good a ∧ Good b) ∧ out = [] ∧ err = 1) ∨ (Good a ∧ Good b ∧ (cols.length ≠ others.length ∨ (cols.length = others.length ∧ (pairL a b cols others).any longP = true)) ∧ out = [] ∧ err = 2) ∨
  (Good a ∧ Good b ∧ cols.length = others.length ∧ (pairL a b cols others).any longP = false ∧ (∃ p ∈ pairL a b cols others, okW (p.1.w * p.2.w) = false) ∧ out = [] ∧ err = 11) ∨
  (Good a ∧ Good b ∧ cols.length = others.length ∧ (pairL a b cols others).any longP = false ∧ (∀ p ∈ pairL a b cols others, okW (p.1.w * p.2.w) = true) ∧ MakeR ((pairL a b cols others).map joinI) out err)
theorem good_w {z : List It} (h : Good z) {t : It} (ht : t ∈ z) : -72057594037927936 ≤ t.w ∧ t.w ≤ 72057594037927936 := by
  have := ((good_made.1 h).1.nz t ht).2
  simp [okW, inB] at this; exact this
theorem c26 (a b : List It) (cols others : List Int) (hc : cols.length < 1073741824) (hd : others.length < 1073741824) (hab : a.length * b.length ≤ 1048576) (hal : a.length ≤ 1048576) (hbl : b.length ≤ 1048576) (ha : ∀ t ∈ a, t.row.length < 1073741824) (hb : ∀ t ∈ b, t.row.length < 1073741824) :
    Spec0 Try.prog 26 [setA a, setA b, intsL cols, intsL others] (fun r => ∃ (out : List It) (err : Int), r = .tu [setA out, iA err] ∧ JoinR a b cols others out err) := by
  refine spec0_of_vc tabOk elems ord26 Try.func26 rfl (rl := [.tmp 8, .tmp 9]) rfl (by kernel_rfl) rfl ?_
  (simp -implicitDefEqProofs only [go_sem, setA, intsL]; repeat (refine GO ?_; simp -implicitDefEqProofs only [go_sem, setA, intsL]))
  have bad : ∀ (e : Int) (s : St), 0 ∉ s.used → s.regs 8 = .nl → s.regs 9 = .pr (.int .i64 e) → JoinR a b cols others [] e → GOES (fun st => hRes T st [.tmp 8, .tmp 9] fun v => v.noId = true ∧ ∃ (out : List It) (err : Int), v = .tu [setA out, iA err] ∧ JoinR a b cols others out err) s := by
    intro e s hu h8 h9 hj
    refine TO [] [(8, setA []), (9, iA e)] [] [] rfl ?_ ?_
    · (simp -implicitDefEqProofs only [go_sem, setA, iA, h8, h9]; repeat (refine GO ?_; simp -implicitDefEqProofs only [go_sem, setA, iA, h8, h9]))
      exact ⟨fun h => absurd h hu, rfl⟩
    (simp -implicitDefEqProofs only [go_sem]; repeat (refine GO ?_; simp -implicitDefEqProofs only [go_sem]))
    exact ⟨rfl, [], e, rfl, hj⟩
  refine .pure _ (s16 a (by omega) (fun t ht => by have := ha t ht; omega)) rfl fun q hq _ => ?_
  obtain ⟨e1, rfl, he1, hg1⟩ := hq
  (simp -implicitDefEqProofs only [go_sem, iA]; repeat (refine GO ?_; simp -implicitDefEqProofs only [go_sem, iA]))
  refine VIF.split (fun h => ?_) (fun h => ?_)
  · have h : e1 ≠ 0 := by simpa using h
    simp -implicitDefEqProofs only [go_sem]
    exact bad 1 _ (by simp) rfl rfl (.inl ⟨fun g => h (hg1.2 g.1), rfl, rfl⟩)
  have h : e1 = 0 := by simpa using h
  have hg1 := hg1.1 h
  (simp -implicitDefEqProofs only [go_sem]; repeat (refine GO ?_; simp -implicitDefEqProofs only [go_sem]))
  refine .pure _ (s16 b (by omega) (fun t ht => by have := hb t ht; omega)) rfl fun q hq _ => ?_
  obtain ⟨e2, rfl, he2, hg2⟩ := hq
  (simp -implicitDefEqProofs only [go_sem, iA]; repeat (refine GO ?_; simp -implicitDefEqProofs only [go_sem, iA]))
  refine VIF.split (fun h => ?_) (fun h => ?_)
  · have h : e2 ≠ 0 := by simpa using h
    simp -implicitDefEqProofs only [go_sem]
    exact bad 1 _ (by simp) rfl rfl (.inl ⟨fun g => h (hg2.2 g.2), rfl, rfl⟩)
  have h : e2 = 0 := by simpa using h
  have hg2 := hg2.1 h
  (simp -implicitDefEqProofs only [go_sem]; repeat (refine GO ?_; simp -implicitDefEqProofs only [go_sem]))
  refine VIF.split (fun h => ?_) (fun h => ?_)
  · have h : cols.length ≠ others.length := by simp at h; omega
    simp -implicitDefEqProofs only [go_sem]
    exact bad 2 _ (by simp) rfl rfl (.inr (.inl ⟨hg1, hg2, .inl h, rfl, rfl⟩))
  have hl : cols.length = others.length := by simp at h; omega
  (simp -implicitDefEqProofs only [go_sem]; repeat (refine GO ?_; simp -implicitDefEqProofs only [go_sem]))
  refine .pure _ (c73 a b cols others hl hc hab hal hbl ha hb) rfl fun r hq _ => ?_
  subst hq
  have hLl := pairL_len a b cols others
  have hLm : ∀ p ∈ pairL a b cols others, p.1 ∈ a ∧ p.2 ∈ b := fun p hp => ⟨(pairL_mem hp).1, (pairL_mem hp).2.1⟩
  generalize hL : pairL a b cols others = L at *
  (simp -implicitDefEqProofs only [go_sem, bA, pairsA]; repeat (refine GO ?_; simp -implicitDefEqProofs only [go_sem, bA, pairsA]))
  refine VIF.split (fun h => ?_) (fun h => ?_)
  · simp -implicitDefEqProofs only [go_sem]
    exact bad 2 _ (by simp) rfl rfl (.inr (.inl ⟨hg1, hg2, .inr ⟨hl, by rw [hL]; exact h⟩, rfl, rfl⟩))
  have hsh : ∀ p ∈ L, p.1.row.length + p.2.row.length ≤ 12 := fun p hp => by
    rw [List.any_eq_false] at h
    have := h p hp
    simp [longP] at this; omega
  (simp -implicitDefEqProofs only [go_sem]; repeat (refine GO ?_; simp -implicitDefEqProofs only [go_sem]))
  refine LOOP.mk (ι := { i : Nat // i ≤ L.length ∧ ∀ p ∈ L.take i, okW (p.1.w * p.2.w) = true }) (fun q => mkS [(12, .rf 1000 0 q.1), (39, pairsA L), (40, iA L.length), (41, iA q.1)] [(1000, so ((L.take q.1).map joinI))] [1000]) (fun q => L.length - q.1) ⟨0, Nat.zero_le _, by simp⟩ [(1000, none)] rfl rfl ?_ (fun q => ?_)
  · (simp -implicitDefEqProofs only [go_sem, pairsA, iA, so]; repeat (refine GO ?_; simp -implicitDefEqProofs only [go_sem, pairsA, iA, so]))
    simp
  · obtain ⟨i, hi, hz⟩ := q
    (simp -implicitDefEqProofs only [go_sem, pairsA, iA, so]; repeat (refine GO ?_; simp -implicitDefEqProofs only [go_sem, pairsA, iA, so]))
    refine VIF.split (fun h1 => ?_) (fun h1 => ?_)
    · have h1 : i < L.length := by simpa using h1
      have hm := List.getElem_mem h1
      have w1 := wrap_add1 (show i < 4611686018427387904 by omega)
      have b1 := good_w hg1 (hLm _ hm).1
      have b2 := good_w hg2 (hLm _ hm).2
      have hs := hsh _ hm
      (simp -implicitDefEqProofs only [go_sem]; repeat (refine GO ?_; simp -implicitDefEqProofs only [go_sem]))
      refine EL.map h1 ?_
      (simp -implicitDefEqProofs only [go_sem, pc, iA, rowA]; repeat (refine GO ?_; simp -implicitDefEqProofs only [go_sem, pc, iA, rowA]))
      refine .pure _ (c74 L[i].1.w L[i].2.w (by omega) (by omega)) rfl fun r hq _ => ?_
      subst hq
      (simp -implicitDefEqProofs only [go_sem, iA, bA]; repeat (refine GO ?_; simp -implicitDefEqProofs only [go_sem, iA, bA]))
      refine VIF.split (fun h2 => ?_) (fun h2 => ?_)
      · have h2 : okW (L[i].1.w * L[i].2.w) = false := by simpa using h2
        simp -implicitDefEqProofs only [go_sem]
        exact bad 11 _ (by simp) rfl rfl (.inr (.inr (.inl ⟨hg1, hg2, hl, by rw [hL]; exact h, by rw [hL]; exact ⟨_, hm, h2⟩, rfl, rfl⟩)))
      have h2 : okW (L[i].1.w * L[i].2.w) = true := by simpa using h2
      have hw : IntKind.i64.wrap (L[i].1.w * L[i].2.w) = L[i].1.w * L[i].2.w := by
        simp [okW, inB] at h2; rw [wrap_i64] <;> omega
      simp -implicitDefEqProofs only [go_sem]
      refine GO ?_
      simp -implicitDefEqProofs only [go_sem]
      refine FRZ 64 ⟨1, [[rowA L[i].1.row], [rowA L[i].2.row]]⟩ rfl (by simp [Ob.leafy, AV.leaf, rowA]) ?_
      simp -implicitDefEqProofs only [go_sem, so]
      refine .pure _ (show Spec0 Try.prog 75 [rowsA [L[i].1.row, L[i].2.row]] _ from c75z [L[i].1.row, L[i].2.row] (by simp) (by simp [catV]; omega)) rfl fun r hq _ => ?_
      have hq : r = rowA (joinI L[i]).row := by rw [hq]; simp [catV, joinI]
      subst hq
      have e1 : (List.map It.c (List.map joinI (L.take i))).take i ++ [[rowA (joinI L[i]).row, iA (L[i].1.w * L[i].2.w)]] = List.map It.c (List.map joinI (L.take (i + 1))) := by
        rw [List.take_of_length_le (by simp; omega), List.take_succ_eq_append_getElem h1, List.map_append, List.map_append]; rfl
      (simp -implicitDefEqProofs only [go_sem, hw, w1]; repeat (refine GO ?_; simp -implicitDefEqProofs only [go_sem, hw, w1]))
      refine ⟨by omega, ?_⟩
      refine BACK.mk ⟨i + 1, by omega, fun p hp => ?_⟩ [(1000, some 69)] rfl rfl (by show L.length - (i + 1) < L.length - i; omega) ?_
      · rw [List.take_succ_eq_append_getElem h1, List.mem_append] at hp
        rcases hp with hp | hp
        · exact hz p hp
        · simp at hp; rw [hp]; exact h2
      · (simp -implicitDefEqProofs only [go_sem, pairsA, iA, so, hw]; repeat (refine GO ?_; simp -implicitDefEqProofs only [go_sem, pairsA, iA, so, hw]))
        exact ⟨id, .same (so []) _ _ (fun x hx => so_leafy ((L.take (i + 1)).map joinI) x (by rw [so]; exact e1 ▸ hx)) e1⟩
    · have h1 : i = L.length := by simp at h1; omega
      subst h1
      rw [List.take_length] at hz
      simp -implicitDefEqProofs only [go_sem, List.take_length]
      refine GO ?_
      simp -implicitDefEqProofs only [go_sem]
      refine TO [] [(71, setA (L.map joinI))] [] [] rfl ?_ ?_
      · (simp -implicitDefEqProofs only [go_sem, setA]; repeat (refine GO ?_; simp -implicitDefEqProofs only [go_sem, setA]))
        exact ⟨id, by decide, _, rfl, so_leafy (L.map joinI), rfl, List.take_of_length_le (by simp)⟩
      (simp -implicitDefEqProofs only [go_sem, setA]; repeat (refine GO ?_; simp -implicitDefEqProofs only [go_sem, setA]))
      refine .pure _ (Spec1.setE (s11 (L.map joinI) (by simp; omega) (fun t ht => by
        obtain ⟨p, hp, rfl⟩ := List.mem_map.1 ht
        have := hsh p hp
        simp [joinI]; omega))) rfl fun q hq _ => ?_
      obtain ⟨out, err, rfl, hm⟩ := hq
      (simp -implicitDefEqProofs only [go_sem, iA, setA]; repeat (refine GO ?_; simp -implicitDefEqProofs only [go_sem, iA, setA]))
      exact ⟨rfl, out, err, rfl, .inr (.inr (.inr ⟨hg1, hg2, hl, by rw [hL]; simpa using h, by rw [hL]; exact hz, by rw [hL]; exact hm⟩))⟩
end Yt
namespace Yt
open Go Go.Vc Go.Proofs
set_option maxRecDepth 10000
set_option maxHeartbeats 8000000
set_option linter.unusedSimpArgs false
set_option linter.unusedVariables false
/-- On, if there is no refusal. -/
def Thn (out : List It) (err e : Int) (Q : Prop) : Prop := (e ≠ 0 ∧ out = [] ∧ err = e) ∨ (e = 0 ∧ Q)
/-- What a join is more. -/
def JDel (a da b db : List It) (cols others : List Int) (out : List It) (err : Int) : Prop :=
  (¬ (∀ z ∈ [a, da, b, db], Good z) ∧ out = [] ∧ err = 1) ∨ ((∀ z ∈ [a, da, b, db], Good z) ∧ cols.length ≠ others.length ∧ out = [] ∧ err = 2) ∨
  ((∀ z ∈ [a, da, b, db], Good z) ∧ cols.length = others.length ∧ ∃ na e1, AddR a da na e1 ∧ Thn out err e1 (∃ nb e2, AddR b db nb e2 ∧ Thn out err e2
    (∃ now e3, JoinR na nb cols others now e3 ∧ Thn out err e3 (∃ was e4, JoinR a b cols others was e4 ∧ Thn out err e4 (MinR now was out err)))))
theorem joinR_rows {a b out : List It} {cols others : List Int} {err : Int} (h : JoinR a b cols others out err) : out.length ≤ a.length * b.length ∧ ∀ t ∈ out, t.row.length ≤ 12 := by
  rcases h with ⟨_, rfl, _⟩ | ⟨_, _, _, rfl, _⟩ | ⟨_, _, _, _, _, rfl, _⟩ | ⟨_, _, _, hs, _, hm⟩
  · simp
  · simp
  · simp
  · obtain ⟨h1, h2⟩ := makeR_rows hm
    have := pairL_len a b cols others
    refine ⟨by simpa using Nat.le_trans h1 (by simpa using this), fun t ht => ?_⟩
    obtain ⟨u, hu, e⟩ := h2 t ht
    obtain ⟨p, hp, rfl⟩ := List.mem_map.1 hu
    rw [List.any_eq_false] at hs
    have := hs p hp
    rw [← e]
    simp [longP] at this
    simp [joinI]; omega
theorem addR_small {a b out : List It} {err : Int} {k : Nat} (h : AddR a b out err) (ha : ∀ t ∈ a, t.row.length < k) (hb : ∀ t ∈ b, t.row.length < k) : ∀ t ∈ out, t.row.length < k := fun t ht => by
  obtain ⟨u, hu, e⟩ := (addR_rows h).2 t ht
  rw [← e]
  rcases List.mem_append.1 hu with hu | hu
  · exact ha u hu
  · exact hb u hu
theorem c63 (a da b db : List It) (cols others : List Int) (hc : cols.length < 1073741824) (hd : others.length < 1073741824) (hab : (a.length + da.length) * (b.length + db.length) ≤ 300000) (hal : a.length + da.length ≤ 300000) (hbl : b.length + db.length ≤ 300000)
    (ha : ∀ t ∈ a, t.row.length < 1073741824) (hda : ∀ t ∈ da, t.row.length < 1073741824) (hb : ∀ t ∈ b, t.row.length < 1073741824) (hdb : ∀ t ∈ db, t.row.length < 1073741824) :
    Spec0 Try.prog 63 [setA a, setA da, setA b, setA db, intsL cols, intsL others] (fun r => ∃ (out : List It) (err : Int), r = .tu [setA out, iA err] ∧ JDel a da b db cols others out err) := by
  refine spec0_of_vc tabOk elems ord63 Try.func63 rfl (rl := [.tmp 12, .tmp 13]) rfl (by kernel_rfl) rfl ?_
  have bad : ∀ (e : Int) (s : St), 0 ∉ s.used → s.regs 12 = .nl → s.regs 13 = .pr (.int .i64 e) → JDel a da b db cols others [] e → GOES (fun st => hRes T st [.tmp 12, .tmp 13] fun v => v.noId = true ∧ ∃ (out : List It) (err : Int), v = .tu [setA out, iA err] ∧ JDel a da b db cols others out err) s := by
    intro e s hu h8 h9 hj
    refine TO [] [(12, setA []), (13, iA e)] [] [] rfl ?_ ?_
    · (simp -implicitDefEqProofs only [go_sem, setA, iA, h8, h9]; repeat (refine GO ?_; simp -implicitDefEqProofs only [go_sem, setA, iA, h8, h9]))
      exact ⟨fun h => absurd h hu, rfl⟩
    (simp -implicitDefEqProofs only [go_sem]; repeat (refine GO ?_; simp -implicitDefEqProofs only [go_sem]))
    exact ⟨rfl, [], e, rfl, hj⟩
  have hzl : ∀ z ∈ [a, da, b, db], z.length ≤ 300000 ∧ ∀ t ∈ z, t.row.length < 1073741824 := fun z hz => by
    simp only [List.mem_cons, List.not_mem_nil, or_false] at hz
    rcases hz with rfl | rfl | rfl | rfl
    · exact ⟨by omega, ha⟩
    · exact ⟨by omega, hda⟩
    · exact ⟨by omega, hb⟩
    · exact ⟨by omega, hdb⟩
  (simp -implicitDefEqProofs only [go_sem, setA, intsL]; repeat (refine GO ?_; simp -implicitDefEqProofs only [go_sem, setA, intsL]))
  refine LOOP.mk (ι := { i : Nat // i ≤ 4 ∧ ∀ j (h : j < [a, da, b, db].length), j < i → Good [a, da, b, db][j] }) (fun q => mkS [(0, setA a), (1, setA da), (2, setA b), (3, setA db), (4, intsL cols), (5, intsL others), (26, setsA [a, da, b, db]), (27, iA 4), (28, iA q.1)] [] []) (fun q => 4 - q.1) ⟨0, by decide, fun j _ h => absurd h (Nat.not_lt_zero _)⟩ [] rfl rfl ?_ (fun q => ?_)
  · (simp -implicitDefEqProofs only [go_sem, setA, intsL, iA, setsA]; repeat (refine GO ?_; simp -implicitDefEqProofs only [go_sem, setA, intsL, iA, setsA]))
    exact ⟨id, ⟨by decide, _, rfl, by simp [Ob.leafy, AV.leaf], rfl, rfl⟩, rfl, rfl⟩
  · obtain ⟨i, hi, hz⟩ := q
    (simp -implicitDefEqProofs only [go_sem, setA, intsL, iA, setsA]; repeat (refine GO ?_; simp -implicitDefEqProofs only [go_sem, setA, intsL, iA, setsA]))
    refine VIF.split (fun h1 => ?_) (fun h1 => ?_)
    · have h1 : i < [a, da, b, db].length := by simp at h1 ⊢; omega
      have hm := List.getElem_mem h1
      obtain ⟨z1, z2⟩ := hzl _ hm
      have w1 := wrap_add1 (show i < 4611686018427387904 by omega)
      (simp -implicitDefEqProofs only [go_sem]; repeat (refine GO ?_; simp -implicitDefEqProofs only [go_sem]))
      refine EL.map (l := [a, da, b, db]) (i := i) h1 ?_
      (simp -implicitDefEqProofs only [go_sem, setA]; repeat (refine GO ?_; simp -implicitDefEqProofs only [go_sem, setA]))
      refine .pure _ (s16 _ (by omega) (fun t ht => by have := z2 t ht; omega)) rfl fun q hq _ => ?_
      obtain ⟨e1, rfl, he1, hg1⟩ := hq
      (simp -implicitDefEqProofs only [go_sem, iA]; repeat (refine GO ?_; simp -implicitDefEqProofs only [go_sem, iA]))
      refine VIF.split (fun h => ?_) (fun h => ?_)
      · have h : e1 ≠ 0 := by simpa using h
        have h1 : e1 = 1 := by omega
        subst h1
        simp -implicitDefEqProofs only [go_sem]
        exact bad 1 _ (by simp) rfl rfl (.inl ⟨fun g => h (hg1.2 (g _ hm)), rfl, rfl⟩)
      have h : e1 = 0 := by simpa using h
      have hg1 := hg1.1 h
      (simp -implicitDefEqProofs only [go_sem, w1]; repeat (refine GO ?_; simp -implicitDefEqProofs only [go_sem, w1]))
      refine BACK.mk ⟨i + 1, by simp at h1; omega, fun j hj hji => ?_⟩ [] rfl rfl (by simp at h1; show 4 - (i + 1) < 4 - i; omega) ?_
      · by_cases e : j = i
        · subst e; exact hg1
        · exact hz j hj (by omega)
      · (simp -implicitDefEqProofs only [go_sem, setA, intsL, iA, setsA, w1]; repeat (refine GO ?_; simp -implicitDefEqProofs only [go_sem, setA, intsL, iA, setsA, w1]))
        exact id
    · have h1 : i = 4 := by simp at h1; omega
      subst h1
      have hG : ∀ z ∈ [a, da, b, db], Good z := fun z hzm => by
        obtain ⟨j, hj, rfl⟩ := List.mem_iff_getElem.1 hzm
        exact hz j hj (by simpa using hj)
      (simp -implicitDefEqProofs only [go_sem]; repeat (refine GO ?_; simp -implicitDefEqProofs only [go_sem]))
      refine VIF.split (fun h => ?_) (fun h => ?_)
      · have h : cols.length ≠ others.length := by simp at h; omega
        simp -implicitDefEqProofs only [go_sem]
        exact bad 2 _ (by simp) rfl rfl (.inr (.inl ⟨hG, h, rfl, rfl⟩))
      have hl : cols.length = others.length := by simp at h; omega
      (simp -implicitDefEqProofs only [go_sem]; repeat (refine GO ?_; simp -implicitDefEqProofs only [go_sem]))
      refine .pure _ (Spec1.setE (s23 a da (by omega) ha hda)) rfl fun q hq _ => ?_
      obtain ⟨na, e1, rfl, h1⟩ := hq
      obtain ⟨nl, nr⟩ := addR_rows h1
      have nr := addR_small h1 ha hda
      (simp -implicitDefEqProofs only [go_sem, iA, setA]; repeat (refine GO ?_; simp -implicitDefEqProofs only [go_sem, iA, setA]))
      refine VIF.split (fun h => ?_) (fun h => ?_)
      · have h : e1 ≠ 0 := by simpa using h
        simp -implicitDefEqProofs only [go_sem]
        exact bad e1 _ (by simp) rfl rfl (.inr (.inr ⟨hG, hl, na, e1, h1, .inl ⟨h, rfl, rfl⟩⟩))
      have h : e1 = 0 := by simpa using h
      subst h
      (simp -implicitDefEqProofs only [go_sem]; repeat (refine GO ?_; simp -implicitDefEqProofs only [go_sem]))
      refine .pure _ (Spec1.setE (s23 b db (by omega) hb hdb)) rfl fun q hq _ => ?_
      obtain ⟨nb, e2, rfl, h2⟩ := hq
      obtain ⟨ml, mr⟩ := addR_rows h2
      have mr := addR_small h2 hb hdb
      (simp -implicitDefEqProofs only [go_sem, iA, setA]; repeat (refine GO ?_; simp -implicitDefEqProofs only [go_sem, iA, setA]))
      refine VIF.split (fun h => ?_) (fun h => ?_)
      · have h : e2 ≠ 0 := by simpa using h
        simp -implicitDefEqProofs only [go_sem]
        exact bad e2 _ (by simp) rfl rfl (.inr (.inr ⟨hG, hl, na, 0, h1, .inr ⟨rfl, nb, e2, h2, .inl ⟨h, rfl, rfl⟩⟩⟩))
      have h : e2 = 0 := by simpa using h
      subst h
      have p1 : na.length * nb.length ≤ 300000 := Nat.le_trans (Nat.mul_le_mul nl ml) hab
      have p2 : a.length * b.length ≤ 300000 := Nat.le_trans (Nat.mul_le_mul (by omega) (by omega)) hab
      (simp -implicitDefEqProofs only [go_sem]; repeat (refine GO ?_; simp -implicitDefEqProofs only [go_sem]))
      refine .pure _ (c26 na nb cols others hc hd (by omega) (by omega) (by omega) nr mr) rfl fun q hq _ => ?_
      obtain ⟨now, e3, rfl, h3⟩ := hq
      obtain ⟨ol, orr⟩ := joinR_rows h3
      (simp -implicitDefEqProofs only [go_sem, iA, setA]; repeat (refine GO ?_; simp -implicitDefEqProofs only [go_sem, iA, setA]))
      refine VIF.split (fun h => ?_) (fun h => ?_)
      · have h : e3 ≠ 0 := by simpa using h
        simp -implicitDefEqProofs only [go_sem]
        exact bad e3 _ (by simp) rfl rfl (.inr (.inr ⟨hG, hl, na, 0, h1, .inr ⟨rfl, nb, 0, h2, .inr ⟨rfl, now, e3, h3, .inl ⟨h, rfl, rfl⟩⟩⟩⟩))
      have h : e3 = 0 := by simpa using h
      subst h
      (simp -implicitDefEqProofs only [go_sem]; repeat (refine GO ?_; simp -implicitDefEqProofs only [go_sem]))
      refine .pure _ (c26 a b cols others hc hd (by omega) (by omega) (by omega) ha hb) rfl fun q hq _ => ?_
      obtain ⟨was, e4, rfl, h4⟩ := hq
      obtain ⟨wl, wr⟩ := joinR_rows h4
      (simp -implicitDefEqProofs only [go_sem, iA, setA]; repeat (refine GO ?_; simp -implicitDefEqProofs only [go_sem, iA, setA]))
      refine VIF.split (fun h => ?_) (fun h => ?_)
      · have h : e4 ≠ 0 := by simpa using h
        simp -implicitDefEqProofs only [go_sem]
        exact bad e4 _ (by simp) rfl rfl (.inr (.inr ⟨hG, hl, na, 0, h1, .inr ⟨rfl, nb, 0, h2, .inr ⟨rfl, now, 0, h3, .inr ⟨rfl, was, e4, h4, .inl ⟨h, rfl, rfl⟩⟩⟩⟩⟩))
      have h : e4 = 0 := by simpa using h
      subst h
      (simp -implicitDefEqProofs only [go_sem]; repeat (refine GO ?_; simp -implicitDefEqProofs only [go_sem]))
      refine .pure _ (Spec1.setE (c55 now was (by omega) (fun t ht => by have := orr t ht; omega) (fun t ht => by have := wr t ht; omega))) rfl fun q hq _ => ?_
      obtain ⟨out, err, rfl, h5⟩ := hq
      (simp -implicitDefEqProofs only [go_sem, iA, setA]; repeat (refine GO ?_; simp -implicitDefEqProofs only [go_sem, iA, setA]))
      exact ⟨rfl, out, err, rfl, .inr (.inr ⟨hG, hl, na, 0, h1, .inr ⟨rfl, nb, 0, h2, .inr ⟨rfl, now, 0, h3, .inr ⟨rfl, was, 0, h4, .inr ⟨rfl, h5⟩⟩⟩⟩⟩)⟩
end Yt
namespace Yt
open Go Go.Vc Go.Proofs
set_option maxRecDepth 10000
set_option maxHeartbeats 8000000
set_option linter.unusedSimpArgs false
set_option linter.unusedVariables false
/-- What items come to, each row as it counts. -/
def linF (f : List V → Int) : List It → Int
  | [] => 0
  | t :: z => t.w * f t.row + linF f z
theorem linF_append (f : List V → Int) (x y : List It) : linF f (x ++ y) = linF f x + linF f y := by
  induction x with
  | nil => simp [linF]
  | cons t x ih => simp only [List.cons_append, linF, ih]; omega
theorem linF_neg (f : List V → Int) (x : List It) : linF f (x.map negI) = - linF f x := by
  induction x with
  | nil => rfl
  | cons t x ih => simp only [List.map_cons, linF, ih, negI, Int.neg_mul]; omega
theorem linF_split (f : List V → Int) (r : List V) (x : List It) : linF f x = tot r x * f r + linF f (x.filter fun t => !decide (cmpR t.row r = 0)) := by
  induction x with
  | nil => simp [linF, tot]
  | cons t x ih =>
    simp only [linF, tot, List.filter_cons]
    by_cases e : cmpR t.row r = 0
    · have e2 := lin_cmpR.eq _ _ e
      subst e2
      have hs := lin_cmpR.self t.row
      simp only [hs, if_true, decide_true, Bool.not_true, Bool.false_eq_true, if_false, Int.add_mul, ih]; omega
    · simp only [e, if_false, decide_false, Bool.not_false, if_true, linF, ih, Int.zero_add]; omega
theorem tot_filter_self (r : List V) (x : List It) : tot r (x.filter fun t => !decide (cmpR t.row r = 0)) = 0 := tot_none fun t ht => by simpa using (List.mem_filter.1 ht).2
theorem tot_filter_ne {r q : List V} (e : q ≠ r) (x : List It) : tot q (x.filter fun t => !decide (cmpR t.row r = 0)) = tot q x := by
  induction x with
  | nil => rfl
  | cons t x ih =>
    simp only [List.filter_cons, tot]
    by_cases e2 : cmpR t.row r = 0
    · have e3 : ¬ cmpR t.row q = 0 := fun h => e ((lin_cmpR.eq _ _ h).symm.trans (lin_cmpR.eq _ _ e2))
      simp [e2, e3, ← ih]
    · simp [e2, tot, ← ih]
theorem linF_zero (f : List V → Int) : ∀ (n : Nat) (x : List It), x.length ≤ n → (∀ r, tot r x = 0) → linF f x = 0
  | 0, x, hl, _ => by
    have : x = [] := List.eq_nil_of_length_eq_zero (by omega)
    subst this; rfl
  | n + 1, x, hl, h => by
    cases x with
    | nil => rfl
    | cons t x =>
      rw [linF_split f t.row, h, Int.zero_mul, Int.zero_add]
      refine linF_zero f n _ ?_ fun q => ?_
      · have := lin_cmpR.self t.row
        rw [List.filter_cons_of_neg (by simp [this])]
        have := List.length_filter_le (fun u : It => !decide (cmpR u.row t.row = 0)) x
        simp at hl; omega
      · by_cases e : q = t.row
        · subst e; exact tot_filter_self _ _
        · rw [tot_filter_ne e, h]
/-- It hangs on what each row comes to alone. -/
theorem linF_tot (f : List V → Int) {x y : List It} (h : ∀ r, tot r x = tot r y) : linF f x = linF f y := by
  have h1 := linF_zero f _ (x ++ y.map negI) (Nat.le_refl _) fun r => by rw [tot_append, tot_neg, h]; omega
  rw [linF_append, linF_neg] at h1
  omega
theorem linF_add (f : List V → Int) {x y z : List It} (h : ∀ r, tot r z = tot r x + tot r y) : linF f z = linF f x + linF f y := by
  rw [← linF_append]; exact linF_tot f fun r => by rw [h, tot_append]
theorem linF_ext {f g : List V → Int} {x : List It} (h : ∀ t ∈ x, f t.row = g t.row) : linF f x = linF g x := by
  induction x with
  | nil => rfl
  | cons t x ih => simp only [linF, h t (by simp), ih fun u hu => h u (by simp [hu])]
theorem linF_sum (f g : List V → Int) (x : List It) : linF (fun r => f r + g r) x = linF f x + linF g x := by
  induction x with
  | nil => rfl
  | cons t x ih => simp only [linF, ih, Int.mul_add]; omega
/-- What a row comes to in a join. -/
def jt (cols others : List Int) (r : List V) (a b : List It) : Int := linF (fun ra => linF (fun rb => if meetP ra rb cols others = true ∧ cmpR (ra ++ rb) r = 0 then 1 else 0) b) a
theorem tot_join1 (cols others : List Int) (r : List V) (x : It) (b : List It) : tot r ((pairL [x] b cols others).map joinI) = x.w * linF (fun rb => if meetP x.row rb cols others = true ∧ cmpR (x.row ++ rb) r = 0 then 1 else 0) b := by
  induction b with
  | nil => simp [pairL, tot, linF]
  | cons y b ihb =>
    have e2 : pairL [x] (y :: b) cols others = pairL [x] [y] cols others ++ pairL [x] b cols others := by rw [← pairL_one]; rfl
    rw [e2, List.map_append, tot_append, ihb]
    simp only [linF, Int.mul_add]
    congr 1
    by_cases hm : meetP x.row y.row cols others = true
    · by_cases hc : cmpR (x.row ++ y.row) r = 0
      · simp [pairL, hm, tot, joinI, hc]
      · simp [pairL, hm, tot, joinI, hc]
    · simp [pairL, hm, tot]
theorem tot_join (cols others : List Int) (r : List V) (a b : List It) : tot r ((pairL a b cols others).map joinI) = jt cols others r a b := by
  induction a with
  | nil => rfl
  | cons x a ih =>
    have e : pairL (x :: a) b cols others = pairL [x] b cols others ++ pairL a b cols others := by rw [← pairL_append]; rfl
    rw [e, List.map_append, tot_append, ih, tot_join1]
    rfl
theorem jt_left {a da na : List It} (h : ∀ r, tot r na = tot r a + tot r da) (cols others : List Int) (r : List V) (b : List It) : jt cols others r na b = jt cols others r a b + jt cols others r da b := linF_add _ h
theorem jt_right {b db nb : List It} (h : ∀ r, tot r nb = tot r b + tot r db) (cols others : List Int) (r : List V) (a : List It) : jt cols others r a nb = jt cols others r a b + jt cols others r a db := by
  simp only [jt]
  rw [← linF_sum]
  exact linF_ext fun t _ => linF_add _ h
/-- As small as a law's sets are, when they are joined. -/
structure Fw (z : List It) (n : Nat) (k : Int) : Prop where
  good : Good z
  len : z.length ≤ n
  tot : ∀ r, -k ≤ tot r z ∧ tot r z ≤ k
theorem Fw.w {z : List It} {n : Nat} {k : Int} (h : Fw z n k) : ∀ t ∈ z, -k ≤ t.w ∧ t.w ≤ k := fun t ht => by
  rw [← tot_made (good_made.1 h.good).1 ht]; exact h.tot _
theorem mul_small {x y i j : Int} (hx : -i ≤ x ∧ x ≤ i) (hy : -j ≤ y ∧ y ≤ j) : -(i * j) ≤ x * y ∧ x * y ≤ i * j := by
  have h1 := Int.natAbs_mul x y
  have h2 : x.natAbs ≤ i.natAbs := by omega
  have h3 : y.natAbs ≤ j.natAbs := by omega
  have h4 := Nat.mul_le_mul h2 h3
  have h5 : (i.natAbs * j.natAbs : Nat) = (i * j).natAbs := (Int.natAbs_mul i j).symm
  have h6 : 0 ≤ i * j := Int.mul_nonneg (by omega) (by omega)
  omega
theorem joinR_fine {a b out : List It} {cols others : List Int} {err : Int} {n m : Nat} {i j : Int} (ha : Fw a n i) (hb : Fw b m j) (hl : cols.length = others.length) (hw : i * j * ((n * m : Nat) : Int) ≤ 72057594037927936)
    (hi : 0 ≤ i) (hj : 0 ≤ j) (hnm : 0 < n * m) (h : JoinR a b cols others out err) :
    (err = 2 ∧ out = [] ∧ (pairL a b cols others).any longP = true) ∨ (err = 0 ∧ (pairL a b cols others).any longP = false ∧ Good out ∧ Fw out (n * m) (i * j * ((n * m : Nat) : Int)) ∧ ∀ r, tot r out = jt cols others r a b) := by
  have hij : 0 ≤ i * j := Int.mul_nonneg hi hj
  have h1 : i * j ≤ i * j * ((n * m : Nat) : Int) := by
    have := Int.mul_le_mul_of_nonneg_left (show (1 : Int) ≤ ((n * m : Nat) : Int) by omega) hij
    omega
  have hp : ∀ p ∈ pairL a b cols others, -(i * j) ≤ p.1.w * p.2.w ∧ p.1.w * p.2.w ≤ i * j := fun p hp => by
    obtain ⟨g1, g2, _⟩ := pairL_mem hp
    exact mul_small (ha.w _ g1) (hb.w _ g2)
  have hok : ∀ p ∈ pairL a b cols others, okW (p.1.w * p.2.w) = true := fun p h => by
    have := hp p h
    simp only [okW, inB, Bool.and_eq_true, decide_eq_true_eq]; omega
  have hll := Nat.le_trans (pairL_len a b cols others) (Nat.mul_le_mul ha.len hb.len)
  rcases h with ⟨h, _⟩ | ⟨_, _, h, ho, he⟩ | ⟨_, _, _, _, ⟨p, hp, h⟩, _⟩ | ⟨ga, gb, _, hs, _, hm⟩
  · exact absurd ⟨ha.good, hb.good⟩ h
  · rcases h with h | ⟨_, h⟩
    · exact absurd hl h
    · exact .inl ⟨he, ho, h⟩
  · rw [hok p hp] at h; cases h
  · refine .inr ?_
    have hbd : ∀ r, -(i * j * ((n * m : Nat) : Int)) ≤ tot r ((pairL a b cols others).map joinI) ∧ tot r ((pairL a b cols others).map joinI) ≤ i * j * ((n * m : Nat) : Int) := fun r => by
      have h2 := tot_bound (z := (pairL a b cols others).map joinI) hij (fun t ht => by obtain ⟨p, h3, rfl⟩ := List.mem_map.1 ht; exact hp p h3) r
      rw [List.length_map] at h2
      have h3 : i * j * ((pairL a b cols others).length : Int) ≤ i * j * ((n * m : Nat) : Int) := Int.mul_le_mul_of_nonneg_left (by omega) hij
      omega
    obtain ⟨h1, h2, h3, h4, h5⟩ := makeR_fine hm (by
      rw [List.any_eq_false]; intro t ht
      obtain ⟨p, h3, rfl⟩ := List.mem_map.1 ht
      obtain ⟨g1, g2, _⟩ := pairL_mem h3
      have q1 := (good_made.1 ga).2 _ g1
      have q2 := (good_made.1 gb).2 _ g2
      rw [List.any_eq_false] at hs
      have q3 := hs p h3
      have q4 : okR (joinI p).row = 0 := by
        simp only [okR] at q1 q2 ⊢
        simp [longP] at q3
        rw [if_neg (by simp [joinI]; omega)]
        split at q1
        · cases q1
        · split at q1
          · split at q2
            · cases q2
            · split at q2
              · rename_i u1 _ u2
                rw [if_pos (by simp only [joinI, List.all_append, u1, u2]; rfl)]
              · cases q2
          · cases q1
      have q5 : (joinI p).w = p.1.w * p.2.w := rfl
      simp [okI, q4, q5, hok p h3]) fun r => by
        have := hbd r
        simp only [okW, inB, Bool.and_eq_true, decide_eq_true_eq]; omega
    have hg : Good out := good_made.2 ⟨h2, fun t ht => (h4 t ht).1⟩
    refine ⟨h1, hs, hg, ⟨hg, by rw [List.length_map] at h5; omega, fun r => by rw [h3]; exact hbd r⟩, fun r => by rw [h3, tot_join]⟩
theorem Fw.add {x y out : List It} {n m : Nat} {i j err : Int} (hx : Fw x n i) (hy : Fw y m j) (hij : i + j ≤ 72057594037927936) (h : AddR x y out err) : err = 0 ∧ Fw out (n + m) (i + j) ∧ ∀ r, Yt.tot r out = Yt.tot r x + Yt.tot r y := by
  rcases h with ⟨h, _⟩ | ⟨_, _, h⟩
  · exact absurd ⟨hx.good, hy.good⟩ h
  · have hok : ∀ z : List It, Good z → ∀ t ∈ z, okI t = true := fun z hz t ht => by
      have := (good_made.1 hz).2 t ht
      have h2 := ((good_made.1 hz).1.nz t ht).2
      simp [okI, this, h2]
    obtain ⟨h1, h2, h3, h4, h5⟩ := makeR_fine h (by
      rw [List.any_eq_false]; intro t ht
      rcases List.mem_append.1 ht with ht | ht
      · simp [hok _ hx.good t ht]
      · simp [hok _ hy.good t ht]) fun r => by
        rw [tot_append]
        have := hx.tot r; have := hy.tot r
        simp only [okW, inB, Bool.and_eq_true, decide_eq_true_eq]; omega
    refine ⟨h1, ⟨good_made.2 ⟨h2, fun t ht => (h4 t ht).1⟩, ?_, fun r => ?_⟩, fun r => by rw [h3, tot_append]⟩
    · rw [List.length_append] at h5
      have := hx.len; have := hy.len; omega
    · rw [h3, tot_append]
      have := hx.tot r; have := hy.tot r; omega
theorem Fw.eq {x y : List It} {n m : Nat} {i j : Int} (hx : Fw x n i) (hy : Fw y m j) (h : ∀ r, Yt.tot r x = Yt.tot r y) : x = y := made_eq (good_made.1 hx.good).1 (good_made.1 hy.good).1 h
theorem Fw.neg {x : List It} {n : Nat} {i : Int} (h : Fw x n i) : Fw (x.map negI) n i :=
  ⟨good_neg h.good, by rw [List.length_map]; exact h.len, fun r => by rw [tot_neg]; have := h.tot r; omega⟩
theorem Fw.rows {x : List It} {n : Nat} {i : Int} (h : Fw x n i) : ∀ t ∈ x, t.row.length ≤ 12 := fun t ht => by
  have := (good_made.1 h.good).2 t ht
  simp only [okR] at this
  split at this
  · cases this
  · omega
end Yt
namespace Yt
open Go Go.Vc Go.Proofs
set_option maxRecDepth 10000
set_option maxHeartbeats 8000000
set_option linter.unusedSimpArgs false
set_option linter.unusedVariables false
theorem made_tot {z : List It} {k : Int} (h : Made z) (hk : 0 ≤ k) (hw : ∀ t ∈ z, -k ≤ t.w ∧ t.w ≤ k) (r : List V) : -k ≤ tot r z ∧ tot r z ≤ k := by
  by_cases hr : ∃ t ∈ z, t.row = r
  · obtain ⟨t, ht, rfl⟩ := hr
    rw [tot_made h ht]; exact hw t ht
  · have : tot r z = 0 := tot_none fun u hu e => hr ⟨u, hu, lin_cmpR.eq _ _ e⟩
    omega
theorem good_sub {x z : List It} (h : Good z) (hs : x.Sublist z) : Good x := by
  obtain ⟨h1, h2⟩ := good_made.1 h
  exact good_made.2 ⟨⟨h1.pw.sublist hs, fun t ht => h1.nz t (hs.subset ht)⟩, fun t ht => h2 t (hs.subset ht)⟩
theorem fw_sub {x z l : List It} {n : Nat} (h : Tm l z) (hs : x.Sublist z) (hn : x.length ≤ n) : Fw x n 5940 := by
  have hg := good_sub h.good hs
  exact ⟨hg, hn, made_tot (good_made.1 hg).1 (by decide) fun t ht => h.small t (hs.subset ht)⟩
theorem c42 (l : List It) (hl : l.length ≤ 1048576) (hr : ∀ t ∈ l, t.row.length < 1073741824) : Spec0 Try.prog 42 [setA l] (fun r => ∃ z : List It, r = setA z ∧ Fw z 25 5940) := by
  refine spec0_of_vc tabOk elems ord42 Try.func42 rfl (rl := [.tmp 2]) rfl (by kernel_rfl) rfl ?_
  (simp -implicitDefEqProofs only [go_sem, setA]; repeat (refine GO ?_; simp -implicitDefEqProofs only [go_sem, setA]))
  refine .pure _ (Spec1.set1 (s24 l hl hr)) rfl fun r hq _ => ?_
  obtain ⟨z, rfl, tz⟩ := hq
  (simp -implicitDefEqProofs only [go_sem, setA]; repeat (refine GO ?_; simp -implicitDefEqProofs only [go_sem, setA]))
  refine VIF.split (fun h => ?_) (fun h => ?_)
  · have h : 25 < z.length := by simp at h; omega
    (simp -implicitDefEqProofs only [go_sem]; repeat (refine GO ?_; simp -implicitDefEqProofs only [go_sem]))
    refine ⟨by omega, ?_⟩
    (simp -implicitDefEqProofs only [go_sem]; repeat (refine GO ?_; simp -implicitDefEqProofs only [go_sem]))
    exact ⟨z.take 25, by simp [setA], fw_sub tz (List.take_sublist _ _) (by simp; omega)⟩
  · have h : z.length ≤ 25 := by simp at h; omega
    (simp -implicitDefEqProofs only [go_sem]; repeat (refine GO ?_; simp -implicitDefEqProofs only [go_sem]))
    exact ⟨z, rfl, fw_sub tz (List.Sublist.refl _) h⟩
theorem c80 (n : Int) : Spec0 Try.prog 80 [iA n] (· = rowA (wl n)) := by
  have h : Spec1 Try.prog 80 [iA n] (fun r o => ∃ (out : List V), r = .rf 0 0 out.length ∧ o = ro3 out ∧ out = wl n) := by
    refine spec1_of_vc tabOk elems ord80 Try.func80 rfl (rl := [.tmp 2]) rfl (by kernel_rfl) rfl ?_
    (simp -implicitDefEqProofs only [go_sem, iA]; repeat (refine GO ?_; simp -implicitDefEqProofs only [go_sem, iA]))
    refine FINmk [(0, some 5)] [(2, .rf 0 0 1)] [(0, ro3 (wl n))] [0] rfl ?_ ?_
    · (simp -implicitDefEqProofs only [go_sem, ro3, wl]; repeat (refine GO ?_; simp -implicitDefEqProofs only [go_sem, ro3, wl]))
      exact .same (ro3 (wl n)) _ _ (ro3_leafy (wl n)) rfl
    · exact ⟨ro3 _, ⟨⟨wl n, rfl, rfl, rfl⟩, rfl⟩, ro3_leafy _, rfl⟩
  refine (Spec1.row1 h).mono ?_
  rintro r O' ⟨⟨⟨out, rfl, rfl⟩, hn⟩, hO⟩
  exact ⟨⟨rfl, hn⟩, hO⟩
def wj1 : List It := [⟨wl 1, 2⟩, ⟨wl 3, 2⟩]
def wj2 : List It := [⟨wl 3, 5⟩]
theorem wj1_fw : Fw wj1 2 2 := by
  have hm : Made wj1 := ⟨by simp [wj1, cI, wl_cmp, cmpI], by simp [wj1, okW, inB]⟩
  refine ⟨good_made.2 ⟨hm, fun t ht => ?_⟩, by simp [wj1], made_tot hm (by decide) (by simp [wj1])⟩
  simp only [wj1, List.mem_cons, List.not_mem_nil, or_false] at ht
  rcases ht with rfl | rfl <;> exact wl_ok _ (by decide)
theorem wj2_fw : Fw wj2 1 5 := by
  have hm : Made wj2 := ⟨List.pairwise_singleton _ _, by simp [wj2, okW, inB]⟩
  refine ⟨good_made.2 ⟨hm, fun t ht => ?_⟩, by simp [wj2], made_tot hm (by decide) (by simp [wj2])⟩
  simp only [wj2, List.mem_cons, List.not_mem_nil, or_false] at ht
  subst ht; exact wl_ok _ (by decide)
theorem cmpV_i (a b : Int) : cmpV ⟨3, a, ByteArray.empty⟩ ⟨3, b, ByteArray.empty⟩ = cmpI a b := by
  have h := wl_cmp a b
  simp only [wl, cmpR] at h
  split at h
  · rename_i h2; rw [h2]; exact h
  · exact h
theorem wl_meet (a b : Int) : meetP (wl a) (wl b) [0] [0] = decide (cmpI a b = 0) := by
  have h := cmpV_i a b
  simp [meetP, wl, inC, getV, h]
theorem wj_pairs : pairL wj1 wj2 [0] [0] = [(⟨wl 3, 2⟩, ⟨wl 3, 5⟩)] := by
  simp [pairL, wj1, wj2, wl_meet, cmpI]
theorem c29 : Spec0 Try.prog 29 [] (· = bA true) := by
  refine spec0_of_vc tabOk elems ord29 Try.func29 rfl (rl := [.tmp 0]) rfl (by kernel_rfl) rfl ?_
  (simp -implicitDefEqProofs only [go_sem]; repeat (refine GO ?_; simp -implicitDefEqProofs only [go_sem]))
  refine .pure _ (c80 1) rfl fun r hq _ => ?_
  subst hq
  (simp -implicitDefEqProofs only [go_sem]; repeat (refine GO ?_; simp -implicitDefEqProofs only [go_sem]))
  refine .pure _ (c80 3) rfl fun r hq _ => ?_
  subst hq
  (simp -implicitDefEqProofs only [go_sem]; repeat (refine GO ?_; simp -implicitDefEqProofs only [go_sem]))
  refine .pure _ (c80 3) rfl fun r hq _ => ?_
  subst hq
  simp -implicitDefEqProofs only [go_sem]
  refine FRZG 8 (so wj1) rfl (so_leafy wj1) ?_
  simp -implicitDefEqProofs only [go_sem, so]
  refine FRZG 11 (so wj2) rfl (so_leafy wj2) ?_
  simp -implicitDefEqProofs only [go_sem, so]
  refine FRZG 12 ⟨1, [[iA 0]]⟩ rfl (by simp [Ob.leafy, AV.leaf, iA]) ?_
  simp -implicitDefEqProofs only [go_sem, so]
  refine FRZ 13 ⟨1, [[iA 0]]⟩ rfl (by simp [Ob.leafy, AV.leaf, iA]) ?_
  simp -implicitDefEqProofs only [go_sem, so]
  refine .pure _ (show Spec0 Try.prog 26 [setA wj1, setA wj2, intsL [0], intsL [0]] _ from c26 wj1 wj2 [0] [0] (by decide) (by decide) (by decide) (by decide) (by decide) (by simp [wj1, wl]) (by simp [wj2, wl])) rfl fun r hq _ => ?_
  obtain ⟨z, e, rfl, hz⟩ := hq
  have hj := joinR_fine wj1_fw wj2_fw rfl (by decide) (by decide) (by decide) (by decide) hz
  have hzz : z = [⟨wl 3 ++ wl 3, 10⟩] ∧ e = 0 := by
    rcases hj with ⟨_, _, h⟩ | ⟨h1, _, _, h2, h3⟩
    · rw [wj_pairs] at h; simp [longP, wl] at h
    · have hg : Good [⟨wl 3 ++ wl 3, 10⟩] := good_made.2 ⟨⟨List.pairwise_singleton _ _, by simp [okW, inB]⟩, fun t ht => by
        simp at ht; subst ht
        have := wl_ok 3 (by decide)
        simp [okR, wl] at this ⊢; exact this⟩
      refine ⟨made_eq (good_made.1 h2.good).1 (good_made.1 hg).1 fun r => ?_, h1⟩
      rw [h3, ← tot_join, wj_pairs]
      rfl
  obtain ⟨rfl, rfl⟩ := hzz
  (simp -implicitDefEqProofs only [go_sem, setA, iA]; repeat (refine GO ?_; simp -implicitDefEqProofs only [go_sem, setA, iA]))
  repeat ((first | (refine VIF.tt ?_ ?_; (· first | rfl | (simp; done) | (simp; omega))) | (refine VIF.ff ?_ ?_; (· first | rfl | (simp; done) | (simp; omega)))); (simp -implicitDefEqProofs only [go_sem]; repeat (refine GO ?_; simp -implicitDefEqProofs only [go_sem])))
  refine ⟨by decide, EL.map (l := [(⟨wl 3 ++ wl 3, 10⟩ : It)]) (i := 0) (by simp) ?_⟩
  (simp -implicitDefEqProofs only [go_sem, It.c, iA, rowA]; repeat (refine GO ?_; simp -implicitDefEqProofs only [go_sem, It.c, iA, rowA]))
  repeat ((first | (refine VIF.tt ?_ ?_; (· first | rfl | (simp; done) | (simp; omega))) | (refine VIF.ff ?_ ?_; (· first | rfl | (simp; done) | (simp; omega)))); (simp -implicitDefEqProofs only [go_sem]; repeat (refine GO ?_; simp -implicitDefEqProofs only [go_sem])))
  refine ⟨by decide, EL.map (l := [(⟨wl 3 ++ wl 3, 10⟩ : It)]) (i := 0) (by simp) ?_⟩
  (simp -implicitDefEqProofs only [go_sem, It.c, iA, rowA]; repeat (refine GO ?_; simp -implicitDefEqProofs only [go_sem, It.c, iA, rowA]))
  repeat ((first | (refine VIF.tt ?_ ?_; (· first | rfl | (simp; done) | (simp; omega))) | (refine VIF.ff ?_ ?_; (· first | rfl | (simp; done) | (simp; omega)))); (simp -implicitDefEqProofs only [go_sem]; repeat (refine GO ?_; simp -implicitDefEqProofs only [go_sem])))
  refine ⟨by decide, EL.map (l := [(⟨wl 3 ++ wl 3, 10⟩ : It)]) (i := 0) (by simp) ?_⟩
  (simp -implicitDefEqProofs only [go_sem, It.c, iA, rowA]; repeat (refine GO ?_; simp -implicitDefEqProofs only [go_sem, It.c, iA, rowA]))
  refine ⟨by decide, EL.map (l := wl 3 ++ wl 3) (i := 1) (by simp [wl]) ?_⟩
  (simp -implicitDefEqProofs only [go_sem, V.c]; repeat (refine GO ?_; simp -implicitDefEqProofs only [go_sem, V.c]))
  simp [bA, wl]
end Yt
namespace Yt
open Go Go.Vc Go.Proofs
set_option maxRecDepth 10000
set_option maxHeartbeats 8000000
set_option linter.unusedSimpArgs false
set_option linter.unusedVariables false
theorem Fw.r40 {z : List It} {n : Nat} {k : Int} (h : Fw z n k) : ∀ t ∈ z, t.row.length < 1073741824 := fun t ht => by have := h.rows t ht; omega
theorem Fw.r62 {z : List It} {n : Nat} {k : Int} (h : Fw z n k) : ∀ t ∈ z, t.row.length < 4611686018427387904 := fun t ht => by have := h.rows t ht; omega
/-- A join of few, as a law sees it. -/
def JoR (a b : List It) (cols others : List Int) (out : List It) (err : Int) : Prop :=
  (err = 2 ∧ out = [] ∧ (pairL a b cols others).any longP = true) ∨ (err = 0 ∧ (pairL a b cols others).any longP = false ∧ ∃ n k, Fw out n k ∧ n ≤ 2500 ∧ k ≤ 400000000000 ∧ ∀ r, tot r out = jt cols others r a b)
theorem JoR.of {a b out : List It} {cols others : List Int} {err : Int} {n m : Nat} {i j : Int} (ha : Fw a n i) (hb : Fw b m j) (hl : cols.length = others.length) (hnm : n * m ≤ 2500) (h0 : 0 < n * m) (hi : 0 ≤ i ∧ i ≤ 12000) (hj : 0 ≤ j ∧ j ≤ 12000)
    (h : JoinR a b cols others out err) : JoR a b cols others out err := by
  have h1 : i * j ≤ 12000 * 12000 := Int.mul_le_mul hi.2 hj.2 hj.1 (by decide)
  have h2 : 0 ≤ i * j := Int.mul_nonneg hi.1 hj.1
  have h3 : i * j * ((n * m : Nat) : Int) ≤ 12000 * 12000 * 2500 := Int.mul_le_mul h1 (by omega) (by omega) (by decide)
  rcases joinR_fine ha hb hl (by omega) hi.1 hj.1 h0 h with ⟨h4, h5, h7⟩ | ⟨h4, h7, _, h5, h6⟩
  · exact .inl ⟨h4, h5, h7⟩
  · exact .inr ⟨h4, h7, _, _, h5, hnm, by omega, h6⟩
theorem JoR.again {a b out out' : List It} {cols others : List Int} {err : Int} (h : JoR a b cols others out 0) (h' : JoR a b cols others out' err) : err = 0 ∧ out' = out := by
  rcases h with ⟨h, _⟩ | ⟨_, h1, n, k, h2, _, _, h3⟩
  · cases h
  · rcases h' with ⟨_, _, h4⟩ | ⟨h4, _, n', k', h5, _, _, h6⟩
    · rw [h1] at h4; cases h4
    · exact ⟨h4, h5.eq h2 fun r => by rw [h3, h6]⟩
theorem Fw.min {x y out : List It} {n m : Nat} {i j err : Int} (hx : Fw x n i) (hy : Fw y m j) (hij : i + j ≤ 72057594037927936) (h : MinR x y out err) : err = 0 ∧ Fw out (n + m) (i + j) ∧ ∀ r, Yt.tot r out = Yt.tot r x - Yt.tot r y := by
  have h2 : AddR x (y.map negI) out err := by
    rcases h with ⟨h, _⟩ | ⟨_, _, h⟩
    · exact absurd ⟨hx.good, hy.good⟩ h
    · exact .inr ⟨hx.good, hy.neg.good, h⟩
  obtain ⟨a, b, c⟩ := hx.add hy.neg hij h2
  exact ⟨a, b, fun r => by rw [c, tot_neg]; omega⟩
theorem c18 (l0 l1 l2 l3 : List It) (cols others : List Int) (hl : ∀ l ∈ [l0, l1, l2, l3], l.length < 4611686018427387904) (hr : ∀ l ∈ [l0, l1, l2, l3], ∀ t ∈ l, t.row.length < 4611686018427387904) (hc : cols.length < 1073741824) (hd : others.length < 1073741824) :
    Spec0 Try.prog 18 [setA l0, setA l1, setA l2, setA l3, intsL cols, intsL others] (· = bA true) := by
  refine spec0_of_vc tabOk elems ord18 Try.func18 rfl (rl := [.tmp 12]) rfl (by kernel_rfl) rfl ?_
  (simp -implicitDefEqProofs only [go_sem, setA, intsL]; repeat (refine GO ?_; simp -implicitDefEqProofs only [go_sem, setA, intsL]))
  refine .lendTo (s10 [l0, l1, l2, l3] (by simp) hl hr) ?_ (by rintro _ rfl; rfl) fun r hq => ?_
  · (simp -implicitDefEqProofs only [go_sem, setsA, setA]; repeat (refine GO ?_; simp -implicitDefEqProofs only [go_sem, setsA, setA]))
    rfl
  subst hq
  (simp -implicitDefEqProofs only [go_sem, bA]; repeat (refine GO ?_; simp -implicitDefEqProofs only [go_sem, bA]))
  refine VIF.split (fun hb => ?_) (fun hb => ?_)
  · (simp -implicitDefEqProofs only [go_sem, bA]; repeat (refine GO ?_; simp -implicitDefEqProofs only [go_sem, bA]))
  have hb : ∀ l ∈ [l0, l1, l2, l3], heavyS l = false := by
    rw [Bool.eq_false_iff, ne_eq] at hb
    exact fun z hz => by
      cases h : heavyS z with
      | false => rfl
      | true => exact absurd (List.any_eq_true.2 ⟨z, hz, h⟩) hb
  obtain ⟨hl0, hr0⟩ := not_heavyS (hb l0 (by simp))
  obtain ⟨hl1, hr1⟩ := not_heavyS (hb l1 (by simp))
  obtain ⟨hl2, hr2⟩ := not_heavyS (hb l2 (by simp))
  obtain ⟨hl3, hr3⟩ := not_heavyS (hb l3 (by simp))
  (simp -implicitDefEqProofs only [go_sem]; repeat (refine GO ?_; simp -implicitDefEqProofs only [go_sem]))
  refine VIF.split (fun h => ?_) (fun h => ?_)
  · (simp -implicitDefEqProofs only [go_sem, bA]; repeat (refine GO ?_; simp -implicitDefEqProofs only [go_sem, bA]))
  (simp -implicitDefEqProofs only [go_sem]; repeat (refine GO ?_; simp -implicitDefEqProofs only [go_sem]))
  refine VIF.split (fun h => ?_) (fun h => ?_)
  · (simp -implicitDefEqProofs only [go_sem, bA]; repeat (refine GO ?_; simp -implicitDefEqProofs only [go_sem, bA]))
  have hll : cols.length = others.length := by simp at h; omega
  simp -implicitDefEqProofs only [go_sem]
  refine TO [] [(0, setA l0), (1, setA l1), (2, setA l2), (3, setA l3), (4, intsL cols), (5, intsL others)] [] [] rfl ?_ ?_
  · (simp -implicitDefEqProofs only [go_sem, setA, intsL]; repeat (refine GO ?_; simp -implicitDefEqProofs only [go_sem, setA, intsL]))
    exact id
  (simp -implicitDefEqProofs only [go_sem, setA, intsL]; repeat (refine GO ?_; simp -implicitDefEqProofs only [go_sem, setA, intsL]))
  refine .pure _ (c42 l0 (by omega) (fun t ht => by have := hr0 t ht; omega)) rfl fun r hq _ => ?_
  obtain ⟨a, rfl, fa⟩ := hq
  (simp -implicitDefEqProofs only [go_sem, setA]; repeat (refine GO ?_; simp -implicitDefEqProofs only [go_sem, setA]))
  refine .pure _ (c42 l1 (by omega) (fun t ht => by have := hr1 t ht; omega)) rfl fun r hq _ => ?_
  obtain ⟨da, rfl, fda⟩ := hq
  (simp -implicitDefEqProofs only [go_sem, setA]; repeat (refine GO ?_; simp -implicitDefEqProofs only [go_sem, setA]))
  refine .pure _ (c42 l2 (by omega) (fun t ht => by have := hr2 t ht; omega)) rfl fun r hq _ => ?_
  obtain ⟨b, rfl, fb⟩ := hq
  (simp -implicitDefEqProofs only [go_sem, setA]; repeat (refine GO ?_; simp -implicitDefEqProofs only [go_sem, setA]))
  refine .pure _ (c42 l3 (by omega) (fun t ht => by have := hr3 t ht; omega)) rfl fun r hq _ => ?_
  obtain ⟨db, rfl, fdb⟩ := hq
  have la := fa.len
  have lda := fda.len
  have lb := fb.len
  have ldb := fdb.len
  have hm : ∀ {x y : List It}, x.length ≤ 25 → y.length ≤ 25 → x.length * y.length ≤ 625 := fun h1 h2 => Nat.mul_le_mul h1 h2
  have hm2 : (a.length + da.length) * (b.length + db.length) ≤ 2500 := Nat.mul_le_mul (show a.length + da.length ≤ 50 by omega) (show b.length + db.length ≤ 50 by omega)
  (simp -implicitDefEqProofs only [go_sem, setA, intsL]; repeat (refine GO ?_; simp -implicitDefEqProofs only [go_sem, setA, intsL]))
  refine .pure _ (c63 a da b db cols others hc hd (by omega) (by omega) (by omega) fa.r40 fda.r40 fb.r40 fdb.r40) rfl fun r hq _ => ?_
  obtain ⟨d, e, rfl, hdel⟩ := hq
  (simp -implicitDefEqProofs only [go_sem, setA, intsL, iA]; repeat (refine GO ?_; simp -implicitDefEqProofs only [go_sem, setA, intsL, iA]))
  refine .pure _ (c26 da b cols others hc hd (by have := hm lda lb; omega) (by omega) (by omega) fda.r40 fb.r40) rfl fun r hq _ => ?_
  obtain ⟨x, f, rfl, hx⟩ := hq
  have hx := JoR.of fda fb hll (by decide) (by decide) (by decide) (by decide) hx
  (simp -implicitDefEqProofs only [go_sem, setA, intsL, iA]; repeat (refine GO ?_; simp -implicitDefEqProofs only [go_sem, setA, intsL, iA]))
  refine .pure _ (c26 a db cols others hc hd (by have := hm la ldb; omega) (by omega) (by omega) fa.r40 fdb.r40) rfl fun r hq _ => ?_
  obtain ⟨y, g, rfl, hy⟩ := hq
  have hy := JoR.of fa fdb hll (by decide) (by decide) (by decide) (by decide) hy
  (simp -implicitDefEqProofs only [go_sem, setA, intsL, iA]; repeat (refine GO ?_; simp -implicitDefEqProofs only [go_sem, setA, intsL, iA]))
  refine .pure _ (c26 da db cols others hc hd (by have := hm lda ldb; omega) (by omega) (by omega) fda.r40 fdb.r40) rfl fun r hq _ => ?_
  obtain ⟨z, h, rfl, hz⟩ := hq
  have hz := JoR.of fda fdb hll (by decide) (by decide) (by decide) (by decide) hz
  -- what a Delta that is no refusal is
  have hd0 : (e ≠ 0 ∧ d = []) ∨ (e = 0 ∧ ∃ na nb now was, AddR a da na 0 ∧ AddR b db nb 0 ∧ JoinR na nb cols others now 0 ∧ JoinR a b cols others was 0 ∧ MinR now was d 0) := by
    rcases hdel with ⟨_, h1, h2⟩ | ⟨_, h1, _⟩ | ⟨_, _, na, e1, h1, h2⟩
    · exact .inl ⟨by omega, h1⟩
    · exact absurd hll h1
    · rcases h2 with ⟨h2, h3, h4⟩ | ⟨rfl, nb, e2, h2, h3⟩
      · exact .inl ⟨by omega, h3⟩
      · rcases h3 with ⟨h3, h4, h5⟩ | ⟨rfl, now, e3, h3, h4⟩
        · exact .inl ⟨by omega, h4⟩
        · rcases h4 with ⟨h4, h5, h6⟩ | ⟨rfl, was, e4, h4, h5⟩
          · exact .inl ⟨by omega, h5⟩
          · rcases h5 with ⟨h5, h6, h7⟩ | ⟨rfl, h5⟩
            · exact .inl ⟨by omega, h6⟩
            · by_cases he : e = 0
              · subst he; exact .inr ⟨rfl, na, nb, now, was, h1, h2, h3, h4, h5⟩
              · refine .inl ⟨he, ?_⟩
                rcases h5 with ⟨_, h, _⟩ | ⟨_, _, h⟩
                · exact h
                · rcases h with ⟨_, h, _⟩ | ⟨_, h, _⟩ | ⟨_, h, _⟩
                  · exact h
                  · exact h
                  · exact absurd h he
  have wk : ∀ (s : St) (d : Option Nat) (K : St → Prop), (∀ r, r = bA true → K (s.put d r)) → CALL Try.prog 29 [] s d K := fun s d K k => .pure _ c29 rfl fun r hq _ => k r hq
  rcases hd0 with ⟨he, rfl⟩ | ⟨rfl, na, nb, now, was, h1, h2, h3, h4, h5⟩
  · (simp -implicitDefEqProofs only [go_sem, iA, he]; repeat (refine GO ?_; simp -implicitDefEqProofs only [go_sem, iA, he]))
    repeat ((first | (refine VIF.tt ?_ ?_; (· first | rfl | (simp; done) | (simp; omega))) | (refine VIF.ff ?_ ?_; (· first | rfl | (simp; done) | (simp; omega)))); (simp -implicitDefEqProofs only [go_sem, he]; repeat (refine GO ?_; simp -implicitDefEqProofs only [go_sem, he])))
    rcases hx with ⟨rfl, rfl, _⟩ | ⟨rfl, _⟩
    · (simp -implicitDefEqProofs only [go_sem]; repeat (refine GO ?_; simp -implicitDefEqProofs only [go_sem]))
      repeat ((first | (refine VIF.tt ?_ ?_; (· first | rfl | (simp; done) | (simp; omega))) | (refine VIF.ff ?_ ?_; (· first | rfl | (simp; done) | (simp; omega)))); (simp -implicitDefEqProofs only [go_sem]; repeat (refine GO ?_; simp -implicitDefEqProofs only [go_sem])))
      refine wk _ _ _ fun r hq => ?_
      subst hq
      (simp -implicitDefEqProofs only [go_sem, bA]; repeat (refine GO ?_; simp -implicitDefEqProofs only [go_sem, bA]))
    · (simp -implicitDefEqProofs only [go_sem]; repeat (refine GO ?_; simp -implicitDefEqProofs only [go_sem]))
      repeat ((first | (refine VIF.tt ?_ ?_; (· first | rfl | (simp; done) | (simp; omega))) | (refine VIF.ff ?_ ?_; (· first | rfl | (simp; done) | (simp; omega)))); (simp -implicitDefEqProofs only [go_sem]; repeat (refine GO ?_; simp -implicitDefEqProofs only [go_sem])))
      refine wk _ _ _ fun r hq => ?_
      subst hq
      (simp -implicitDefEqProofs only [go_sem, bA]; repeat (refine GO ?_; simp -implicitDefEqProofs only [go_sem, bA]))
  rcases hx with ⟨rfl, rfl, _⟩ | ⟨rfl, _, nx, kx, fx, bx1, bx2, tx⟩
  · (simp -implicitDefEqProofs only [go_sem, iA]; repeat (refine GO ?_; simp -implicitDefEqProofs only [go_sem, iA]))
    repeat ((first | (refine VIF.tt ?_ ?_; (· first | rfl | (simp; done) | (simp; omega))) | (refine VIF.ff ?_ ?_; (· first | rfl | (simp; done) | (simp; omega)))); (simp -implicitDefEqProofs only [go_sem]; repeat (refine GO ?_; simp -implicitDefEqProofs only [go_sem])))
    refine wk _ _ _ fun r hq => ?_
    subst hq
    (simp -implicitDefEqProofs only [go_sem, bA]; repeat (refine GO ?_; simp -implicitDefEqProofs only [go_sem, bA]))
  rcases hy with ⟨rfl, rfl, _⟩ | ⟨rfl, _, ny, ky, fy, by1, by2, ty⟩
  · (simp -implicitDefEqProofs only [go_sem, iA]; repeat (refine GO ?_; simp -implicitDefEqProofs only [go_sem, iA]))
    repeat ((first | (refine VIF.tt ?_ ?_; (· first | rfl | (simp; done) | (simp; omega))) | (refine VIF.ff ?_ ?_; (· first | rfl | (simp; done) | (simp; omega)))); (simp -implicitDefEqProofs only [go_sem]; repeat (refine GO ?_; simp -implicitDefEqProofs only [go_sem])))
    refine wk _ _ _ fun r hq => ?_
    subst hq
    (simp -implicitDefEqProofs only [go_sem, bA]; repeat (refine GO ?_; simp -implicitDefEqProofs only [go_sem, bA]))
  rcases hz with ⟨rfl, rfl, _⟩ | ⟨rfl, _, nz, kz, fz, bz1, bz2, tz⟩
  · (simp -implicitDefEqProofs only [go_sem, iA]; repeat (refine GO ?_; simp -implicitDefEqProofs only [go_sem, iA]))
    repeat ((first | (refine VIF.tt ?_ ?_; (· first | rfl | (simp; done) | (simp; omega))) | (refine VIF.ff ?_ ?_; (· first | rfl | (simp; done) | (simp; omega)))); (simp -implicitDefEqProofs only [go_sem]; repeat (refine GO ?_; simp -implicitDefEqProofs only [go_sem])))
    refine wk _ _ _ fun r hq => ?_
    subst hq
    (simp -implicitDefEqProofs only [go_sem, bA]; repeat (refine GO ?_; simp -implicitDefEqProofs only [go_sem, bA]))
  obtain ⟨_, fna, tna⟩ := fa.add fda (by decide) h1
  obtain ⟨_, fnb, tnb⟩ := fb.add fdb (by decide) h2
  have h3 := JoR.of fna fnb hll (by decide) (by decide) (by decide) (by decide) h3
  have h4 := JoR.of fa fb hll (by decide) (by decide) (by decide) (by decide) h4
  have h3' := h3
  have h4' := h4
  rcases h3 with ⟨h, _⟩ | ⟨_, _, nn, kn, fn, bn1, bn2, tn⟩
  · cases h
  rcases h4 with ⟨h, _⟩ | ⟨_, _, nw, kw, fw, bw1, bw2, tw⟩
  · cases h
  obtain ⟨_, fd, td⟩ := fn.min fw (by omega) h5
  have lx := fx.len
  have ly := fy.len
  have lz := fz.len
  have ld := fd.len
  have ln := fn.len
  have lw := fw.len
  (simp -implicitDefEqProofs only [go_sem, iA]; repeat (refine GO ?_; simp -implicitDefEqProofs only [go_sem, iA]))
  repeat ((first | (refine VIF.tt ?_ ?_; (· first | rfl | (simp; done) | (simp; omega))) | (refine VIF.ff ?_ ?_; (· first | rfl | (simp; done) | (simp; omega)))); (simp -implicitDefEqProofs only [go_sem]; repeat (refine GO ?_; simp -implicitDefEqProofs only [go_sem])))
  refine .pure _ (Spec1.setE (s23 x y (by omega) fx.r40 fy.r40)) rfl fun r hq _ => ?_
  obtain ⟨s, e, rfl, hs⟩ := hq
  obtain ⟨rfl, fs, ts⟩ := fx.add fy (by omega) hs
  have ls := fs.len
  (simp -implicitDefEqProofs only [go_sem, iA, setA]; repeat (refine GO ?_; simp -implicitDefEqProofs only [go_sem, iA, setA]))
  refine .pure _ (Spec1.setE (s23 s z (by omega) fs.r40 fz.r40)) rfl fun r hq _ => ?_
  obtain ⟨t, e, rfl, ht⟩ := hq
  obtain ⟨rfl, ft, tt⟩ := fs.add fz (by omega) ht
  have hj : ∀ r, jt cols others r na nb = jt cols others r a b + jt cols others r a db + (jt cols others r da b + jt cols others r da db) := fun r => by
    rw [jt_left tna, jt_right tnb, jt_right tnb]
  obtain rfl : d = t := fd.eq ft fun r => by rw [td, tt, ts, tn, tw, tx, ty, tz, hj]; omega
  (simp -implicitDefEqProofs only [go_sem, iA, setA]; repeat (refine GO ?_; simp -implicitDefEqProofs only [go_sem, iA, setA]))
  repeat ((first | (refine VIF.tt ?_ ?_; (· first | rfl | (simp; done) | (simp; omega))) | (refine VIF.ff ?_ ?_; (· first | rfl | (simp; done) | (simp; omega)))); (simp -implicitDefEqProofs only [go_sem]; repeat (refine GO ?_; simp -implicitDefEqProofs only [go_sem])))
  refine .pure _ (s18 d d (by omega) (by omega) fd.r62) rfl fun r hq _ => ?_
  obtain ⟨e1, rfl, h1⟩ := hq
  have h1 := h1.2 rfl
  subst h1
  (simp -implicitDefEqProofs only [go_sem, bA, setA, intsL]; repeat (refine GO ?_; simp -implicitDefEqProofs only [go_sem, bA, setA, intsL]))
  refine .pure _ (c26 a b cols others hc hd (by have := hm la lb; omega) (by omega) (by omega) fa.r40 fb.r40) rfl fun r hq _ => ?_
  obtain ⟨was2, e2, rfl, hw2⟩ := hq
  obtain ⟨rfl, rfl⟩ := h4'.again (JoR.of fa fb hll (by decide) (by decide) (by decide) (by decide) hw2)
  (simp -implicitDefEqProofs only [go_sem, iA, setA]; repeat (refine GO ?_; simp -implicitDefEqProofs only [go_sem, iA, setA]))
  refine .pure _ (Spec1.setE (s23 a da (by omega) fa.r40 fda.r40)) rfl fun r hq _ => ?_
  obtain ⟨p, e, rfl, hp⟩ := hq
  obtain ⟨rfl, fp, tp⟩ := fa.add fda (by decide) hp
  obtain rfl : p = na := fp.eq fna fun r => by rw [tp, tna]
  (simp -implicitDefEqProofs only [go_sem, iA, setA]; repeat (refine GO ?_; simp -implicitDefEqProofs only [go_sem, iA, setA]))
  refine .pure _ (Spec1.setE (s23 b db (by omega) fb.r40 fdb.r40)) rfl fun r hq _ => ?_
  obtain ⟨q, e, rfl, hq2⟩ := hq
  obtain ⟨rfl, fq, tq⟩ := fb.add fdb (by decide) hq2
  obtain rfl : q = nb := fq.eq fnb fun r => by rw [tq, tnb]
  have lp := fp.len
  have lq := fq.len
  have hpq : p.length * q.length ≤ 2500 := Nat.mul_le_mul lp lq
  (simp -implicitDefEqProofs only [go_sem, iA, setA, intsL]; repeat (refine GO ?_; simp -implicitDefEqProofs only [go_sem, iA, setA, intsL]))
  refine .pure _ (c26 p q cols others hc hd (by omega) (by omega) (by omega) fp.r40 fq.r40) rfl fun r hq _ => ?_
  obtain ⟨now2, e2, rfl, hn2⟩ := hq
  obtain ⟨rfl, rfl⟩ := h3'.again (JoR.of fp fq hll (by decide) (by decide) (by decide) (by decide) hn2)
  (simp -implicitDefEqProofs only [go_sem, iA, setA]; repeat (refine GO ?_; simp -implicitDefEqProofs only [go_sem, iA, setA]))
  refine .pure _ (Spec1.setE (s23 was2 d (by omega) fw.r40 fd.r40)) rfl fun r hq _ => ?_
  obtain ⟨u, e, rfl, hu⟩ := hq
  obtain ⟨rfl, fu, tu⟩ := fw.add fd (by omega) hu
  obtain rfl : u = now2 := fu.eq fn fun r => by rw [tu, td]; omega
  (simp -implicitDefEqProofs only [go_sem, iA, setA]; repeat (refine GO ?_; simp -implicitDefEqProofs only [go_sem, iA, setA]))
  repeat ((first | (refine VIF.tt ?_ ?_; (· first | rfl | (simp; done) | (simp; omega))) | (refine VIF.ff ?_ ?_; (· first | rfl | (simp; done) | (simp; omega)))); (simp -implicitDefEqProofs only [go_sem]; repeat (refine GO ?_; simp -implicitDefEqProofs only [go_sem])))
  refine .pure _ (s18 u u (by omega) (by omega) fn.r62) rfl fun r hq _ => ?_
  obtain ⟨e1, rfl, h1⟩ := hq
  have h1 := h1.2 rfl
  subst h1
  (simp -implicitDefEqProofs only [go_sem, bA]; repeat (refine GO ?_; simp -implicitDefEqProofs only [go_sem, bA]))
  refine wk _ _ _ fun r hq => ?_
  subst hq
  (simp -implicitDefEqProofs only [go_sem, bA]; repeat (refine GO ?_; simp -implicitDefEqProofs only [go_sem, bA]))
end Yt
namespace Yt
open Go Go.Vc Go.Proofs
set_option maxRecDepth 10000
set_option maxHeartbeats 8000000
set_option linter.unusedSimpArgs false
set_option linter.unusedVariables false
def two (t : It) : Bool := decide (t.row.length = 2)
theorem c48 (l : List It) (hl : l.length ≤ 1048576) (hr : ∀ t ∈ l, t.row.length < 1073741824) : Spec0 Try.prog 48 [setA l] (fun r => ∃ z : List It, r = setA z ∧ Fw z 20 5940 ∧ ∀ t ∈ z, t.row.length = 2) := by
  refine spec0_of_vc tabOk elems ord48 Try.func48 rfl (rl := [.tmp 2]) rfl (by kernel_rfl) rfl ?_
  (simp -implicitDefEqProofs only [go_sem, setA]; repeat (refine GO ?_; simp -implicitDefEqProofs only [go_sem, setA]))
  refine .pure _ (Spec1.set1 (s24 l hl hr)) rfl fun r hq _ => ?_
  obtain ⟨z, rfl, tz⟩ := hq
  have lz := tz.len
  (simp -implicitDefEqProofs only [go_sem, setA]; repeat (refine GO ?_; simp -implicitDefEqProofs only [go_sem, setA]))
  refine LOOP.mk (ι := { i : Nat // i ≤ z.length ∧ ((z.take i).filter two).length ≤ 20 }) (fun p => mkS [(3, .rf 1000 0 ((z.take p.1).filter two).length), (4, setA z), (5, iA p.1)] [(1000, so ((z.take p.1).filter two))] [1000]) (fun p => z.length - p.1) ⟨0, Nat.zero_le _, by simp⟩ [(1000, none)] rfl rfl ?_ (fun p => ?_)
  · (simp -implicitDefEqProofs only [go_sem, setA, iA, so]; repeat (refine GO ?_; simp -implicitDefEqProofs only [go_sem, setA, iA, so]))
    simp
  · obtain ⟨i, hi, hn⟩ := p
    (simp -implicitDefEqProofs only [go_sem, setA, iA, so]; repeat (refine GO ?_; simp -implicitDefEqProofs only [go_sem, setA, iA, so]))
    refine VIF.split (fun h1 => ?_) (fun h1 => ?_)
    · have h1 : i < z.length := by simpa using h1
      have w1 := wrap_add1 (show i < 4611686018427387904 by omega)
      (simp -implicitDefEqProofs only [go_sem]; repeat (refine GO ?_; simp -implicitDefEqProofs only [go_sem]))
      refine VIF.split (fun h2 => ?_) (fun h2 => ?_)
      · have h2 : ((z.take i).filter two).length < 20 := by simp at h2; omega
        (simp -implicitDefEqProofs only [go_sem]; repeat (refine GO ?_; simp -implicitDefEqProofs only [go_sem]))
        refine EL.map h1 ?_
        (simp -implicitDefEqProofs only [go_sem, It.c, rowA]; repeat (refine GO ?_; simp -implicitDefEqProofs only [go_sem, It.c, rowA]))
        refine VIF.split (fun h3 => ?_) (fun h3 => ?_)
        · have h3 : two z[i] = true := by simp at h3; simp [two]; omega
          have eN : (z.take (i + 1)).filter two = (z.take i).filter two ++ [z[i]] := by
            rw [List.take_succ_eq_append_getElem h1, List.filter_append]; simp [h3]
          (simp -implicitDefEqProofs only [go_sem]; repeat (refine GO ?_; simp -implicitDefEqProofs only [go_sem]))
          refine EL.map h1 ?_
          (simp -implicitDefEqProofs only [go_sem, It.c]; repeat (refine GO ?_; simp -implicitDefEqProofs only [go_sem, It.c]))
          refine ⟨by omega, ?_⟩
          have e1 : List.map It.c ((z.take i).filter two) ++ [[rowA z[i].row, iA z[i].w]] = List.map It.c ((z.take (i + 1)).filter two) := by
            rw [eN, List.map_append]; rfl
          (simp -implicitDefEqProofs only [go_sem, w1]; repeat (refine GO ?_; simp -implicitDefEqProofs only [go_sem, w1]))
          refine BACK.mk ⟨i + 1, by omega, by rw [eN]; simp; omega⟩ [(1000, some 32)] rfl rfl (by show z.length - (i + 1) < z.length - i; omega) ?_
          (simp -implicitDefEqProofs only [go_sem, setA, iA, so, w1]; repeat (refine GO ?_; simp -implicitDefEqProofs only [go_sem, setA, iA, so, w1]))
          refine ⟨id, by rw [eN]; simp, .same (so []) _ _ (fun x hx => so_leafy ((z.take (i + 1)).filter two) x (by rw [so]; exact e1 ▸ hx)) e1⟩
        · have h3 : two z[i] = false := by simp at h3; simp [two]; omega
          have eN : (z.take (i + 1)).filter two = (z.take i).filter two := by
            rw [List.take_succ_eq_append_getElem h1, List.filter_append]; simp [h3]
          (simp -implicitDefEqProofs only [go_sem, w1]; repeat (refine GO ?_; simp -implicitDefEqProofs only [go_sem, w1]))
          refine BACK.mk ⟨i + 1, by omega, by rw [eN]; exact hn⟩ [(1000, some 1000)] rfl rfl (by show z.length - (i + 1) < z.length - i; omega) ?_
          (simp -implicitDefEqProofs only [go_sem, setA, iA, so, w1]; repeat (refine GO ?_; simp -implicitDefEqProofs only [go_sem, setA, iA, so, w1]))
          refine ⟨id, by rw [eN], .same (so []) _ _ (fun x hx => so_leafy ((z.take (i + 1)).filter two) x (by rw [so, eN]; exact hx)) (by rw [eN])⟩
      · simp -implicitDefEqProofs only [go_sem]
        refine FRZ 1000 (so ((z.take i).filter two)) rfl (so_leafy _) ?_
        (simp -implicitDefEqProofs only [go_sem, so]; repeat (refine GO ?_; simp -implicitDefEqProofs only [go_sem, so]))
        exact ⟨(z.take i).filter two, by simp [setA], fw_sub tz (List.filter_sublist.trans (List.take_sublist _ _)) hn, fun t ht => by simpa [two] using (List.mem_filter.1 ht).2⟩
    · simp -implicitDefEqProofs only [go_sem]
      refine FRZ 1000 (so ((z.take i).filter two)) rfl (so_leafy _) ?_
      (simp -implicitDefEqProofs only [go_sem, so]; repeat (refine GO ?_; simp -implicitDefEqProofs only [go_sem, so]))
      exact ⟨(z.take i).filter two, by simp [setA], fw_sub tz (List.filter_sublist.trans (List.take_sublist _ _)) hn, fun t ht => by simpa [two] using (List.mem_filter.1 ht).2⟩
def ind (r q : List V) : Int := if cmpR q r = 0 then 1 else 0
theorem tot_linF (r : List V) (z : List It) : tot r z = linF (ind r) z := by
  induction z with
  | nil => rfl
  | cons t z ih => simp only [tot, linF, ih, ind]; split <;> simp
theorem tot_proj_linF (r : List V) (cols : List Int) (z : List It) : tot r (z.map (projI cols)) = linF (fun q => ind r (pickR q cols)) z := by
  induction z with
  | nil => rfl
  | cons t z ih =>
    simp only [List.map_cons, tot, linF, ih, ind]
    have e : (projI cols t).row = pickR t.row cols := rfl
    have e2 : (projI cols t).w = t.w := rfl
    rw [e, e2]
    split <;> simp
theorem tot_filter_linF (r : List V) (p : List V → Bool) (z : List It) : tot r (z.filter fun t => p t.row) = linF (fun q => if p q = true then ind r q else 0) z := by
  induction z with
  | nil => rfl
  | cons t z ih =>
    by_cases h : p t.row = true
    · rw [List.filter_cons_of_pos (by simpa using h)]
      simp only [tot, linF, ih, h, if_true, ind]
      split <;> simp
    · rw [List.filter_cons_of_neg (by simpa using h)]
      simp only [linF, ih, h]
      simp
/-- Over all pairs. -/
def dsum (f : It → It → Int) (a b : List It) : Int := (a.map fun x => (b.map fun y => f x y).sum).sum
theorem sum_map_add {α : Type} (f g : α → Int) (l : List α) : (l.map fun x => f x + g x).sum = (l.map f).sum + (l.map g).sum := by
  induction l with
  | nil => rfl
  | cons x l ih => simp only [List.map_cons, List.sum_cons, ih]; omega
theorem sum_map_zero {α : Type} (l : List α) : (l.map fun _ => (0 : Int)).sum = 0 := by
  induction l with
  | nil => rfl
  | cons x l ih => simp only [List.map_cons, List.sum_cons, ih]; rfl
theorem dsum_swap (f : It → It → Int) (a b : List It) : dsum f a b = dsum (fun y x => f x y) b a := by
  induction a with
  | nil => simp [dsum, sum_map_zero]
  | cons x a ih =>
    simp only [dsum, List.map_cons, List.sum_cons] at ih ⊢
    rw [ih, sum_map_add]
theorem dsum_congr {f g : It → It → Int} {a b : List It} (h : ∀ x ∈ a, ∀ y ∈ b, f x y = g x y) : dsum f a b = dsum g a b := by
  simp only [dsum]
  congr 1
  refine List.map_congr_left fun x hx => ?_
  congr 1
  exact List.map_congr_left fun y hy => h x hx y hy
/-- What counts of a join, pair by pair. -/
theorem linF_join (g : List V → Int) (cols others : List Int) (a b : List It) : linF g ((pairL a b cols others).map joinI) = dsum (fun x y => if meetP x.row y.row cols others = true then x.w * y.w * g (x.row ++ y.row) else 0) a b := by
  induction a with
  | nil => rfl
  | cons x a ih =>
    have e : pairL (x :: a) b cols others = pairL [x] b cols others ++ pairL a b cols others := by rw [← pairL_append]; rfl
    have h1 : linF g ((pairL [x] b cols others).map joinI) = (b.map fun y => if meetP x.row y.row cols others = true then x.w * y.w * g (x.row ++ y.row) else 0).sum := by
      clear ih e
      induction b with
      | nil => simp [pairL, linF]
      | cons y b ihb =>
        have e2 : pairL [x] (y :: b) cols others = pairL [x] [y] cols others ++ pairL [x] b cols others := by rw [← pairL_one]; rfl
        rw [e2, List.map_append, linF_append, ihb, List.map_cons, List.sum_cons]
        congr 1
        by_cases hm : meetP x.row y.row cols others = true
        · simp [pairL, hm, linF, joinI]
        · simp [pairL, hm, linF]
    rw [e, List.map_append, linF_append, ih, h1]
    rfl
/-- Items of distinct rows, none of which weighs nothing: as many as what is made of them. -/
theorem made_count {z L : List It} (hz : Made z) (hL : L.Pairwise fun a b => a.row ≠ b.row) (hn : ∀ t ∈ L, t.w ≠ 0) (h : ∀ r, tot r z = tot r L) : z.length = L.length := by
  have nd1 : (z.map (·.row)).Nodup := by
    rw [List.Nodup, List.pairwise_map]
    exact hz.pw.imp fun {a b} hab e => by
      have := cI_eq.2 e; omega
  have nd2 : (L.map (·.row)).Nodup := by rw [List.Nodup, List.pairwise_map]; exact hL
  have tL : ∀ {L : List It}, L.Pairwise (fun a b => a.row ≠ b.row) → ∀ t ∈ L, tot t.row L = t.w := by
    intro L hL
    induction L with
    | nil => simp
    | cons u L ih =>
      obtain ⟨h1, h2⟩ := List.pairwise_cons.1 hL
      intro t ht
      cases ht with
      | head =>
        have := lin_cmpR.self u.row
        have h3 : tot u.row L = 0 := tot_none fun v hv e => h1 v hv (lin_cmpR.eq _ _ e).symm
        simp [tot, this, h3]
      | tail _ ht =>
        have h3 : ¬ cmpR u.row t.row = 0 := fun e => h1 t ht (lin_cmpR.eq _ _ e)
        simp only [tot, h3, if_false, ih h2 t ht]; omega
  have hm : ∀ r, r ∈ z.map (·.row) ↔ r ∈ L.map (·.row) := fun r => by
    constructor
    · intro hr
      obtain ⟨t, ht, rfl⟩ := List.mem_map.1 hr
      have h1 := (hz.nz t ht).1
      rw [← tot_made hz ht, h] at h1
      apply Classical.byContradiction
      intro hno
      exact h1 (tot_none fun u hu e => hno (List.mem_map.2 ⟨u, hu, lin_cmpR.eq _ _ e⟩))
    · intro hr
      obtain ⟨t, ht, rfl⟩ := List.mem_map.1 hr
      have h1 := hn t ht
      rw [← tL hL t ht, ← h] at h1
      apply Classical.byContradiction
      intro hno
      exact h1 (tot_none fun u hu e => hno (List.mem_map.2 ⟨u, hu, lin_cmpR.eq _ _ e⟩))
  have := ((List.perm_ext_iff_of_nodup nd1 nd2).2 hm).length_eq
  simpa using this
end Yt
namespace Yt
open Go Go.Vc Go.Proofs
set_option maxRecDepth 10000
set_option maxHeartbeats 8000000
set_option linter.unusedSimpArgs false
set_option linter.unusedVariables false
theorem nolong {a b : List It} {cols others : List Int} (ha : ∀ t ∈ a, t.row.length = 2) (hb : ∀ t ∈ b, t.row.length = 2) : (pairL a b cols others).any longP = false := by
  rw [List.any_eq_false]; intro p hp
  obtain ⟨h1, h2, _⟩ := pairL_mem hp
  have := ha _ h1
  have := hb _ h2
  simp [longP]; omega
theorem JoR.fine {a b out : List It} {cols others : List Int} {err : Int} (h : JoR a b cols others out err) (hl : (pairL a b cols others).any longP = false) :
    err = 0 ∧ ∃ n k, Fw out n k ∧ n ≤ 2500 ∧ k ≤ 400000000000 ∧ ∀ r, tot r out = jt cols others r a b := by
  rcases h with ⟨_, _, h⟩ | ⟨h, _, n, k, h1⟩
  · rw [hl] at h; cases h
  · exact ⟨h, n, k, h1⟩
theorem Fw.nil {n : Nat} {k : Int} (hk : 0 ≤ k) : Fw [] n k := ⟨good_made.2 ⟨⟨.nil, by simp⟩, by simp⟩, by simp, fun r => by simp [Yt.tot]; omega⟩
theorem Fw.pos {z : List It} {n : Nat} {k : Int} (h : Fw z n k) : 0 ≤ k := by have := h.tot []; omega
theorem joinR_pairs {a b out : List It} {cols others : List Int} {err : Int} (h : JoinR a b cols others out err) : ∀ t ∈ out, ∃ p ∈ pairL a b cols others, t.row = p.1.row ++ p.2.row := by
  rcases h with ⟨_, rfl, _⟩ | ⟨_, _, _, rfl, _⟩ | ⟨_, _, _, _, _, rfl, _⟩ | ⟨_, _, _, hs, _, hm⟩
  · simp
  · simp
  · simp
  · intro t ht
    obtain ⟨u, hu, e⟩ := (makeR_rows hm).2 t ht
    obtain ⟨p, hp, rfl⟩ := List.mem_map.1 hu
    exact ⟨p, hp, e.symm⟩
theorem Fw.proj {y z : List It} {cols : List Int} {err : Int} {n : Nat} {k : Int} (h : Fw y n k) (hp : ∀ t ∈ y, pickE t.row cols = 0) (hk : k * (n : Int) ≤ 72057594037927936) (hz : ProjR y cols z err) :
    err = 0 ∧ Fw z n (k * n) ∧ ∀ r, Yt.tot r z = Yt.tot r (y.map (projI cols)) := by
  have hk0 := h.pos
  rcases hz with ⟨h1, _⟩ | ⟨_, ⟨t, ht, h1⟩, h2, _⟩ | ⟨_, _, hm⟩
  · exact absurd h.good h1
  · exact absurd (h1.symm.trans (hp t ht)) h2
  · have hbd : ∀ r, -(k * (n : Int)) ≤ Yt.tot r (y.map (projI cols)) ∧ Yt.tot r (y.map (projI cols)) ≤ k * n := fun r => by
      have h1 := tot_bound (z := y.map (projI cols)) hk0 (fun t ht => by obtain ⟨u, hu, rfl⟩ := List.mem_map.1 ht; exact h.w u hu) r
      rw [List.length_map] at h1
      have h2 : k * (y.length : Int) ≤ k * n := Int.mul_le_mul_of_nonneg_left (by have := h.len; omega) hk0
      omega
    obtain ⟨h1, h2, h3, h4, h5⟩ := makeR_fine hm (by
      rw [List.any_eq_false]; intro t hv
      obtain ⟨u, hu, rfl⟩ := List.mem_map.1 hv
      have e1 := (pick_row (hp u hu) ((good_made.1 h.good).2 u hu)).1
      have e2 := ((good_made.1 h.good).1.nz u hu).2
      simp [okI, projI, e1, e2]) fun r => by
        have := hbd r
        simp only [okW, inB, Bool.and_eq_true, decide_eq_true_eq]; omega
    exact ⟨h1, ⟨good_made.2 ⟨h2, fun t ht => (h4 t ht).1⟩, by rw [List.length_map] at h5; have := h.len; omega, fun r => by rw [h3]; exact hbd r⟩, h3⟩
theorem row2 {r : List V} (h : r.length = 2) : ∃ a b, r = [a, b] := by
  match r, h with
  | [a, b], _ => exact ⟨a, b, rfl⟩
theorem cmpV_swap {a b : V} : decide (cmpV a b = 0) = decide (cmpV b a = 0) := by
  rw [decide_eq_decide]
  constructor
  · intro h; rw [lin_cmpV.eq _ _ h]; exact lin_cmpV.self _
  · intro h; rw [lin_cmpV.eq _ _ h]; exact lin_cmpV.self _
theorem meet_swap (a b : List V) (p q : Int) : meetP b a [q] [p] = meetP a b [p] [q] := by
  simp only [meetP, List.zip_cons_cons, List.zip_nil_left, List.all_cons, List.all_nil, Bool.and_true]
  rw [cmpV_swap (a := getV b q)]
  cases inC p a.length <;> cases inC q b.length <;> cases decide ((getV a p).k = 1) <;> cases decide ((getV b q).k = 1) <;> rfl
theorem c8 (l0 l1 : List It) (p q : Int) (hl : ∀ l ∈ [l0, l1], l.length < 4611686018427387904) (hr : ∀ l ∈ [l0, l1], ∀ t ∈ l, t.row.length < 4611686018427387904) :
    Spec0 Try.prog 8 [setA l0, setA l1, iA p, iA q] (· = bA true) := by
  refine spec0_of_vc tabOk elems ord8 Try.func8 rfl (rl := [.tmp 8]) rfl (by kernel_rfl) rfl ?_
  (simp -implicitDefEqProofs only [go_sem, setA, iA]; repeat (refine GO ?_; simp -implicitDefEqProofs only [go_sem, setA, iA]))
  refine .lendTo (s10 [l0, l1] (by simp) hl hr) ?_ (by rintro _ rfl; rfl) fun r hq => ?_
  · (simp -implicitDefEqProofs only [go_sem, setsA, setA]; repeat (refine GO ?_; simp -implicitDefEqProofs only [go_sem, setsA, setA]))
    rfl
  subst hq
  (simp -implicitDefEqProofs only [go_sem, bA]; repeat (refine GO ?_; simp -implicitDefEqProofs only [go_sem, bA]))
  refine VIF.split (fun hb => ?_) (fun hb => ?_)
  · (simp -implicitDefEqProofs only [go_sem, bA]; repeat (refine GO ?_; simp -implicitDefEqProofs only [go_sem, bA]))
  have hb : heavyS l0 = false ∧ heavyS l1 = false := by simpa [List.any_cons] using hb
  obtain ⟨hl0, hr0⟩ := not_heavyS hb.1
  obtain ⟨hl1, hr1⟩ := not_heavyS hb.2
  simp -implicitDefEqProofs only [go_sem]
  refine TO [] [(0, setA l0), (1, setA l1), (2, iA p), (3, iA q)] [] [] rfl ?_ ?_
  · (simp -implicitDefEqProofs only [go_sem, setA, iA]; repeat (refine GO ?_; simp -implicitDefEqProofs only [go_sem, setA, iA]))
    exact id
  (simp -implicitDefEqProofs only [go_sem, setA, iA]; repeat (refine GO ?_; simp -implicitDefEqProofs only [go_sem, setA, iA]))
  refine .pure _ (c48 l0 (by omega) (fun t ht => by have := hr0 t ht; omega)) rfl fun r hq _ => ?_
  obtain ⟨a, rfl, fa, ha2⟩ := hq
  (simp -implicitDefEqProofs only [go_sem, setA]; repeat (refine GO ?_; simp -implicitDefEqProofs only [go_sem, setA]))
  refine .pure _ (c48 l1 (by omega) (fun t ht => by have := hr1 t ht; omega)) rfl fun r hq _ => ?_
  obtain ⟨b, rfl, fb, hb2⟩ := hq
  have la := fa.len
  have lb := fb.len
  have hab : a.length * b.length ≤ 400 := Nat.mul_le_mul la lb
  have hba : b.length * a.length ≤ 400 := Nat.mul_le_mul lb la
  obtain ⟨m1, ho, ho1, ho2⟩ := u64_rem p 2 (by decide) (by decide)
  obtain ⟨m2, ho3, ho4, ho5⟩ := u64_rem q 2 (by decide) (by decide)
  (simp -implicitDefEqProofs only [go_sem, ho, ho2, ho3, ho5, setA, iA]; repeat (refine GO ?_; simp -implicitDefEqProofs only [go_sem, ho, ho2, ho3, ho5, setA, iA]))
  refine ⟨by decide, by decide, ?_⟩
  simp -implicitDefEqProofs only [go_sem, ho, ho2, ho3, ho5]
  refine FRZG 39 ⟨1, [[iA m1]]⟩ rfl (by simp [Ob.leafy, AV.leaf, iA]) ?_
  simp -implicitDefEqProofs only [go_sem]
  refine FRZ 41 ⟨1, [[iA m2]]⟩ rfl (by simp [Ob.leafy, AV.leaf, iA]) ?_
  simp -implicitDefEqProofs only [go_sem]
  refine .pure _ (show Spec0 Try.prog 26 [setA a, setA b, intsL [m1], intsL [m2]] _ from c26 a b [m1] [m2] (by simp) (by simp) (by omega) (by omega) (by omega) fa.r40 fb.r40) rfl fun r hq _ => ?_
  obtain ⟨x, e, rfl, hx⟩ := hq
  obtain ⟨rfl, nx, kx, fx, bx1, bx2, tx⟩ := (JoR.of fa fb (by rfl) (by decide) (by decide) (by decide) (by decide) hx).fine (nolong ha2 hb2)
  have lx := fx.len
  simp -implicitDefEqProofs only [go_sem, iA, setA]
  refine FRZG 49 ⟨1, [[iA m2]]⟩ rfl (by simp [Ob.leafy, AV.leaf, iA]) ?_
  simp -implicitDefEqProofs only [go_sem]
  refine FRZ 51 ⟨1, [[iA m1]]⟩ rfl (by simp [Ob.leafy, AV.leaf, iA]) ?_
  simp -implicitDefEqProofs only [go_sem]
  refine .pure _ (show Spec0 Try.prog 26 [setA b, setA a, intsL [m2], intsL [m1]] _ from c26 b a [m2] [m1] (by simp) (by simp) (by omega) (by omega) (by omega) fb.r40 fa.r40) rfl fun r hq _ => ?_
  obtain ⟨y, e, rfl, hy⟩ := hq
  have hyp := joinR_pairs hy
  obtain ⟨rfl, ny, ky, fy, by1, by2, ty⟩ := (JoR.of fb fa (by rfl) (by decide) (by decide) (by decide) (by decide) hy).fine (nolong hb2 ha2)
  have ly := fy.len
  have hy4 : ∀ t ∈ y, pickE t.row [2, 3, 0, 1] = 0 := fun t ht => by
    obtain ⟨p, hp, e⟩ := hyp t ht
    obtain ⟨h1, h2, _⟩ := pairL_mem hp
    have := hb2 _ h1
    have := ha2 _ h2
    have h4 : t.row.length = 4 := by rw [e]; simp; omega
    simp [pickE, outC, h4]
  simp -implicitDefEqProofs only [go_sem, iA, setA]
  refine FRZ 57 ⟨1, [[iA 2], [iA 3], [iA 0], [iA 1]]⟩ rfl (by simp [Ob.leafy, AV.leaf, iA]) ?_
  simp -implicitDefEqProofs only [go_sem]
  refine .pure _ (show Spec0 Try.prog 49 [setA y, intsL [2, 3, 0, 1]] _ from Spec1.setE (c49 y [2, 3, 0, 1] (by omega) fy.r40 (by decide))) rfl fun r hq _ => ?_
  obtain ⟨z, e, rfl, hz⟩ := hq
  have hky : ky * (ny : Int) ≤ 400000000000 * 2500 := Int.mul_le_mul by2 (by omega) (by omega) (by decide)
  obtain ⟨rfl, fz, tz⟩ := fy.proj hy4 (by omega) hz
  have lz := fz.len
  have key : ∀ r, tot r x = tot r z := fun r => by
    rw [tz, tot_proj_linF, linF_tot _ (fun r => (ty r).trans (tot_join _ _ _ _ _).symm), tx, ← tot_join, tot_linF, linF_join, linF_join, dsum_swap]
    refine dsum_congr fun u hu v hv => ?_
    obtain ⟨a1, a2, e1⟩ := row2 (ha2 v hv)
    obtain ⟨b1, b2, e2⟩ := row2 (hb2 u hu)
    have hp : pickR (u.row ++ v.row) [2, 3, 0, 1] = v.row ++ u.row := by rw [e1, e2]; rfl
    rw [meet_swap, hp, Int.mul_comm u.w v.w]
  obtain rfl : x = z := fx.eq fz key
  simp -implicitDefEqProofs only [go_sem, iA, setA]
  refine FRZG 64 ⟨1, [[iA m1]]⟩ rfl (by simp [Ob.leafy, AV.leaf, iA]) ?_
  simp -implicitDefEqProofs only [go_sem]
  refine FRZ 66 ⟨1, [[iA m2]]⟩ rfl (by simp [Ob.leafy, AV.leaf, iA]) ?_
  simp -implicitDefEqProofs only [go_sem]
  refine .pure _ (spec0_nls (c26 a [] [m1] [m2] (by simp) (by simp) (by simp) (by omega) (by simp) fa.r40 (by simp)) (l' := [setA a, .nl, intsL [m1], intsL [m2]]) ⟨.inl rfl, .inr ⟨rfl, 2, rfl⟩, .inl rfl, .inl rfl, trivial⟩) rfl fun r hq _ => ?_
  obtain ⟨n, e, rfl, hn⟩ := hq
  obtain ⟨rfl, nn, kn, fn, _, _, tn⟩ := (JoR.of fa (Fw.nil (n := 1) (k := 1) (by decide)) (by rfl) (by decide) (by decide) (by decide) (by decide) hn).fine (nolong ha2 (by simp))
  obtain rfl : n = [] := fn.eq (Fw.nil (n := 1) (k := 1) (by decide)) fun r => by rw [tn, ← tot_join, tot_linF, linF_join, dsum_swap]; rfl
  (simp -implicitDefEqProofs only [go_sem, iA, setA]; repeat (refine GO ?_; simp -implicitDefEqProofs only [go_sem, iA, setA]))
  refine .pure _ (spec0_nls (c26 [] b [] [] (by simp) (by simp) (by simp) (by simp) (by omega) (by simp) fb.r40) (l' := [.nl, setA b, .nl, .nl]) ⟨.inr ⟨rfl, 2, rfl⟩, .inl rfl, .inr ⟨rfl, 1, rfl⟩, .inr ⟨rfl, 1, rfl⟩, trivial⟩) rfl fun r hq _ => ?_
  obtain ⟨m, e, rfl, hm⟩ := hq
  obtain ⟨rfl, nm, km, fm, _, _, tm⟩ := (JoR.of (Fw.nil (n := 1) (k := 1) (by decide)) fb (by rfl) (by decide) (by decide) (by decide) (by decide) hm).fine (nolong (by simp) hb2)
  obtain rfl : m = [] := fm.eq (Fw.nil (n := 1) (k := 1) (by decide)) fun r => by rw [tm, ← tot_join, tot_linF, linF_join]; rfl
  (simp -implicitDefEqProofs only [go_sem, iA, setA]; repeat (refine GO ?_; simp -implicitDefEqProofs only [go_sem, iA, setA]))
  repeat ((first | (refine VIF.tt ?_ ?_; (· first | rfl | (simp; done) | (simp; omega))) | (refine VIF.ff ?_ ?_; (· first | rfl | (simp; done) | (simp; omega)))); (simp -implicitDefEqProofs only [go_sem]; repeat (refine GO ?_; simp -implicitDefEqProofs only [go_sem])))
  refine .pure _ (s18 x x (by omega) (by omega) fx.r62) rfl fun r hq _ => ?_
  obtain ⟨e2, rfl, h2⟩ := hq
  have h2 := h2.2 rfl
  subst h2
  (simp -implicitDefEqProofs only [go_sem, bA, setA]; repeat (refine GO ?_; simp -implicitDefEqProofs only [go_sem, bA, setA]))
  have w0 : IntKind.i64.wrap 0 = 0 := by decide
  (simp -implicitDefEqProofs only [go_sem, w0]; repeat (refine GO ?_; simp -implicitDefEqProofs only [go_sem, w0]))
  repeat ((first | (refine VIF.tt ?_ ?_; (· first | rfl | (simp; done) | (simp; omega))) | (refine VIF.ff ?_ ?_; (· first | rfl | (simp; done) | (simp; omega)))); (simp -implicitDefEqProofs only [go_sem]; repeat (refine GO ?_; simp -implicitDefEqProofs only [go_sem])))
  refine .pure _ c29 rfl fun r hq _ => ?_
  subst hq
  (simp -implicitDefEqProofs only [go_sem, bA]; repeat (refine GO ?_; simp -implicitDefEqProofs only [go_sem, bA]))
end Yt
namespace Yt
open Go Go.Vc Go.Proofs
set_option maxRecDepth 10000
set_option maxHeartbeats 8000000
set_option linter.unusedSimpArgs false
set_option linter.unusedVariables false
theorem made_rows {z : List It} (h : Made z) : z.Pairwise fun a b => a.row ≠ b.row := h.pw.imp fun {a b} hab e => by
  have := cI_eq.2 e; omega
theorem pairL_distinct {a b : List It} {cols others : List Int} {k : Nat} (ha : Made a) (hb : Made b) (hk : ∀ t ∈ a, t.row.length = k) : ((pairL a b cols others).map joinI).Pairwise fun x y => x.row ≠ y.row := by
  rw [List.pairwise_map, pairL, List.pairwise_flatMap]
  refine ⟨fun x hx => ?_, ?_⟩
  · rw [List.pairwise_map]
    refine ((made_rows hb).filter _).imp fun {u v} h e => h ?_
    simp only [joinI] at e
    exact List.append_cancel_left e
  · refine List.Pairwise.imp_of_mem (fun {x y} hx hy h => ?_) (made_rows ha)
    intro p hp q hq e
    obtain ⟨u, hu, rfl⟩ := List.mem_map.1 hp
    obtain ⟨v, hv, rfl⟩ := List.mem_map.1 hq
    simp only [joinI] at e
    exact h (List.append_inj_left e (by rw [hk _ hx, hk _ hy]))
theorem join_nz {a b : List It} {cols others : List Int} (ha : Made a) (hb : Made b) : ∀ t ∈ (pairL a b cols others).map joinI, t.w ≠ 0 := fun t ht => by
  obtain ⟨p, hp, rfl⟩ := List.mem_map.1 ht
  obtain ⟨h1, h2, _⟩ := pairL_mem hp
  exact Int.mul_ne_zero (ha.nz _ h1).1 (hb.nz _ h2).1
theorem pairL_all (a b : List It) : (pairL a b [] []).length = a.length * b.length := by
  induction a with
  | nil => simp [pairL]
  | cons x a ih =>
    have e : pairL (x :: a) b [] [] = pairL [x] b [] [] ++ pairL a b [] [] := by rw [← pairL_append]; rfl
    have e2 : pairL [x] b [] [] = b.map fun y => (x, y) := by
      simp [pairL, meetP]
      congr 1
      exact List.filter_eq_self.2 (by simp)
    rw [e, List.length_append, ih, e2, List.length_map, List.length_cons, Nat.succ_mul, Nat.add_comm]
theorem eq_holds {u v : List V} (hu : u.length = 2) (hv : v.length = 2) {m n : Nat} (hm : (m : Int) < 2) (hn : (n : Int) < 2) :
    meetP u v [m] [n] = (holdsP ⟨3, m, 2 + n, ⟨0, 0, ByteArray.empty⟩⟩ (u ++ v) && holdsP ⟨6, m, 0, ⟨0, 0, ByteArray.empty⟩⟩ (u ++ v)) := by
  obtain ⟨a, b, rfl⟩ := row2 hu
  obtain ⟨c, d, rfl⟩ := row2 hv
  have key : ∀ x y : V, (!decide (x.k = 1) && !decide (y.k = 1) && decide (cmpV x y = 0)) = (decide (cmpV x y = 0) && !decide (x.k = 1)) := fun x y => by
    by_cases h : cmpV x y = 0
    · have := lin_cmpV.eq _ _ h
      subst this
      cases decide (x.k = 1) <;> simp [h]
    · simp [h]
  have hm : m = 0 ∨ m = 1 := by omega
  have hn : n = 0 ∨ n = 1 := by omega
  rcases hm with rfl | rfl <;> rcases hn with rfl | rfl
  · have := key a c; simp [meetP, holdsP, inC, otherP, getV] at this ⊢; exact this
  · have := key a d; simp [meetP, holdsP, inC, otherP, getV] at this ⊢; exact this
  · have := key b c; simp [meetP, holdsP, inC, otherP, getV] at this ⊢; exact this
  · have := key b d; simp [meetP, holdsP, inC, otherP, getV] at this ⊢; exact this
theorem Fw.filt {z : List It} {n : Nat} {k : Int} (h : Fw z n k) (p : List V → Bool) : Fw (z.filter fun t => p t.row) n k :=
  ⟨good_sub h.good List.filter_sublist, Nat.le_trans (List.length_filter_le _ _) h.len, fun r => by
    rw [tot_filter]; have := h.tot r; have := h.pos; split <;> omega⟩
theorem c16 (l0 l1 : List It) (p q : Int) (hl : ∀ l ∈ [l0, l1], l.length < 4611686018427387904) (hr : ∀ l ∈ [l0, l1], ∀ t ∈ l, t.row.length < 4611686018427387904) :
    Spec0 Try.prog 16 [setA l0, setA l1, iA p, iA q] (· = bA true) := by
  refine spec0_of_vc tabOk elems ord16 Try.func16 rfl (rl := [.tmp 8]) rfl (by kernel_rfl) rfl ?_
  (simp -implicitDefEqProofs only [go_sem, setA, iA]; repeat (refine GO ?_; simp -implicitDefEqProofs only [go_sem, setA, iA]))
  refine .lendTo (s10 [l0, l1] (by simp) hl hr) ?_ (by rintro _ rfl; rfl) fun r hq => ?_
  · (simp -implicitDefEqProofs only [go_sem, setsA, setA]; repeat (refine GO ?_; simp -implicitDefEqProofs only [go_sem, setsA, setA]))
    rfl
  subst hq
  (simp -implicitDefEqProofs only [go_sem, bA]; repeat (refine GO ?_; simp -implicitDefEqProofs only [go_sem, bA]))
  refine VIF.split (fun hb => ?_) (fun hb => ?_)
  · (simp -implicitDefEqProofs only [go_sem, bA]; repeat (refine GO ?_; simp -implicitDefEqProofs only [go_sem, bA]))
  have hb : heavyS l0 = false ∧ heavyS l1 = false := by simpa [List.any_cons] using hb
  obtain ⟨hl0, hr0⟩ := not_heavyS hb.1
  obtain ⟨hl1, hr1⟩ := not_heavyS hb.2
  simp -implicitDefEqProofs only [go_sem]
  refine TO [] [(0, setA l0), (1, setA l1), (2, iA p), (3, iA q)] [] [] rfl ?_ ?_
  · (simp -implicitDefEqProofs only [go_sem, setA, iA]; repeat (refine GO ?_; simp -implicitDefEqProofs only [go_sem, setA, iA]))
    exact id
  (simp -implicitDefEqProofs only [go_sem, setA, iA]; repeat (refine GO ?_; simp -implicitDefEqProofs only [go_sem, setA, iA]))
  refine .pure _ (c48 l0 (by omega) (fun t ht => by have := hr0 t ht; omega)) rfl fun r hq _ => ?_
  obtain ⟨a, rfl, fa, ha2⟩ := hq
  (simp -implicitDefEqProofs only [go_sem, setA]; repeat (refine GO ?_; simp -implicitDefEqProofs only [go_sem, setA]))
  refine .pure _ (c48 l1 (by omega) (fun t ht => by have := hr1 t ht; omega)) rfl fun r hq _ => ?_
  obtain ⟨b, rfl, fb, hb2⟩ := hq
  have la := fa.len
  have lb := fb.len
  have ma := (good_made.1 fa.good).1
  have mb := (good_made.1 fb.good).1
  have hab : a.length * b.length ≤ 400 := Nat.mul_le_mul la lb
  obtain ⟨m1, ho, ho1, ho2⟩ := u64_rem p 2 (by decide) (by decide)
  obtain ⟨m2, ho3, ho4, ho5⟩ := u64_rem q 2 (by decide) (by decide)
  (simp -implicitDefEqProofs only [go_sem, ho, ho2, ho3, ho5, setA, iA]; repeat (refine GO ?_; simp -implicitDefEqProofs only [go_sem, ho, ho2, ho3, ho5, setA, iA]))
  refine ⟨by decide, by decide, ?_⟩
  simp -implicitDefEqProofs only [go_sem, ho, ho2, ho3, ho5]
  refine FRZG 37 ⟨1, [[iA m1]]⟩ rfl (by simp [Ob.leafy, AV.leaf, iA]) ?_
  simp -implicitDefEqProofs only [go_sem]
  refine FRZ 39 ⟨1, [[iA m2]]⟩ rfl (by simp [Ob.leafy, AV.leaf, iA]) ?_
  simp -implicitDefEqProofs only [go_sem]
  refine .pure _ (show Spec0 Try.prog 26 [setA a, setA b, intsL [m1], intsL [m2]] _ from c26 a b [m1] [m2] (by simp) (by simp) (by omega) (by omega) (by omega) fa.r40 fb.r40) rfl fun r hq _ => ?_
  obtain ⟨x, e, rfl, hx⟩ := hq
  obtain ⟨rfl, nx, kx, fx, bx1, bx2, tx⟩ := (JoR.of fa fb (by rfl) (by decide) (by decide) (by decide) (by decide) hx).fine (nolong ha2 hb2)
  have lx := fx.len
  (simp -implicitDefEqProofs only [go_sem, iA, setA]; repeat (refine GO ?_; simp -implicitDefEqProofs only [go_sem, iA, setA]))
  refine .pure _ (spec0_nls (c26 a b [] [] (by simp) (by simp) (by omega) (by omega) (by omega) fa.r40 fb.r40) (l' := [setA a, setA b, .nl, .nl]) ⟨.inl rfl, .inl rfl, .inr ⟨rfl, 1, rfl⟩, .inr ⟨rfl, 1, rfl⟩, trivial⟩) rfl fun r hq _ => ?_
  obtain ⟨al, e, rfl, hal⟩ := hq
  obtain ⟨rfl, n2, k2, fal, b1, b2, tal⟩ := (JoR.of fa fb (by rfl) (by decide) (by decide) (by decide) (by decide) hal).fine (nolong ha2 hb2)
  have lal := fal.len
  have hcount : al.length = a.length * b.length := by
    have := made_count (good_made.1 fal.good).1 (pairL_distinct (cols := []) (others := []) ma mb ha2) (join_nz ma mb) fun r => by rw [tal, tot_join]
    rw [this, List.length_map, pairL_all]
  have w2 : IntKind.i64.wrap (2 + (m2 : Int)) = 2 + m2 := by rw [wrap_i64] <;> omega
  (simp -implicitDefEqProofs only [go_sem, iA, setA, w2]; repeat (refine GO ?_; simp -implicitDefEqProofs only [go_sem, iA, setA, w2]))
  refine .pure _ (show Spec0 Try.prog 51 [setA al, .ag (Pr.c ⟨3, m1, 2 + m2, ⟨0, 0, ByteArray.empty⟩⟩)] _ from Spec1.setE (c51 al ⟨3, m1, 2 + m2, ⟨0, 0, ByteArray.empty⟩⟩ (by omega) fal.r40)) rfl fun r hq _ => ?_
  obtain ⟨y, e, rfl, hy⟩ := hq
  obtain ⟨rfl, rfl⟩ := filt_ok fal.good hy
  have fy := fal.filt (holdsP ⟨3, m1, 2 + m2, ⟨0, 0, ByteArray.empty⟩⟩)
  have ly := fy.len
  (simp -implicitDefEqProofs only [go_sem, iA, setA]; repeat (refine GO ?_; simp -implicitDefEqProofs only [go_sem, iA, setA]))
  refine .pure _ (show Spec0 Try.prog 51 [setA _, .ag (Pr.c ⟨6, m1, 0, ⟨0, 0, ByteArray.empty⟩⟩)] _ from Spec1.setE (c51 _ ⟨6, m1, 0, ⟨0, 0, ByteArray.empty⟩⟩ (by omega) fy.r40)) rfl fun r hq _ => ?_
  obtain ⟨z, e, rfl, hz⟩ := hq
  obtain ⟨rfl, hzz⟩ := filt_ok fy.good hz
  rw [List.filter_filter] at hzz
  clear hz
  have fz := fal.filt (fun r => holdsP ⟨3, m1, 2 + m2, ⟨0, 0, ByteArray.empty⟩⟩ r && holdsP ⟨6, m1, 0, ⟨0, 0, ByteArray.empty⟩⟩ r)
  have tz := fun r => tot_filter_linF r (fun r => holdsP ⟨3, m1, 2 + m2, ⟨0, 0, ByteArray.empty⟩⟩ r && holdsP ⟨6, m1, 0, ⟨0, 0, ByteArray.empty⟩⟩ r) al
  have hz : z = al.filter fun t => holdsP ⟨3, m1, 2 + m2, ⟨0, 0, ByteArray.empty⟩⟩ t.row && holdsP ⟨6, m1, 0, ⟨0, 0, ByteArray.empty⟩⟩ t.row := by
    rw [hzz]; exact List.filter_congr fun t _ => Bool.and_comm _ _
  rw [← hz] at fz tz
  obtain rfl : x = z := fx.eq fz fun r => by
    rw [tz, linF_tot _ (fun r => (tal r).trans (tot_join _ _ _ _ _).symm), tx, ← tot_join, tot_linF, linF_join, linF_join]
    refine dsum_congr fun u hu v hv => ?_
    rw [eq_holds (ha2 u hu) (hb2 v hv) ho1 ho4]
    have : meetP u.row v.row [] [] = true := rfl
    rw [if_pos this]
    by_cases h : (holdsP ⟨3, m1, 2 + m2, ⟨0, 0, ByteArray.empty⟩⟩ (u.row ++ v.row) && holdsP ⟨6, m1, 0, ⟨0, 0, ByteArray.empty⟩⟩ (u.row ++ v.row)) = true
    · rw [if_pos h, if_pos h]
    · rw [if_neg h, if_neg h, Int.mul_zero]
  (simp -implicitDefEqProofs only [go_sem, iA, setA]; repeat (refine GO ?_; simp -implicitDefEqProofs only [go_sem, iA, setA]))
  repeat ((first | (refine VIF.tt ?_ ?_; (· first | rfl | (simp; done) | (simp; omega))) | (refine VIF.ff ?_ ?_; (· first | rfl | (simp; done) | (simp; omega)))); (simp -implicitDefEqProofs only [go_sem]; repeat (refine GO ?_; simp -implicitDefEqProofs only [go_sem])))
  refine .pure _ (s18 x x (by omega) (by omega) fx.r62) rfl fun r hq _ => ?_
  obtain ⟨e2, rfl, h2⟩ := hq
  have h2 := h2.2 rfl
  subst h2
  have w3 : IntKind.i64.wrap ((a.length : Int) * b.length) = ((a.length * b.length : Nat) : Int) := by rw [Int.natCast_mul, wrap_i64] <;> rw [← Int.natCast_mul] <;> omega
  (simp -implicitDefEqProofs only [go_sem, bA, setA, w3, hcount]; repeat (refine GO ?_; simp -implicitDefEqProofs only [go_sem, bA, setA, w3, hcount]))
  repeat ((first | (refine VIF.tt ?_ ?_; (· first | rfl | (simp; done) | (simp; omega))) | (refine VIF.ff ?_ ?_; (· first | rfl | (simp; done) | (simp; omega)))); (simp -implicitDefEqProofs only [go_sem, w3, hcount]; repeat (refine GO ?_; simp -implicitDefEqProofs only [go_sem, w3, hcount])))
  refine .pure _ (s16 al (by omega) fal.r62) rfl fun r hq _ => ?_
  obtain ⟨e3, rfl, _, h3⟩ := hq
  have h3 := h3.2 fal.good
  subst h3
  (simp -implicitDefEqProofs only [go_sem, iA]; repeat (refine GO ?_; simp -implicitDefEqProofs only [go_sem, iA]))
  repeat ((first | (refine VIF.tt ?_ ?_; (· first | rfl | (simp; done) | (simp; omega))) | (refine VIF.ff ?_ ?_; (· first | rfl | (simp; done) | (simp; omega)))); (simp -implicitDefEqProofs only [go_sem]; repeat (refine GO ?_; simp -implicitDefEqProofs only [go_sem])))
  refine .pure _ c29 rfl fun r hq _ => ?_
  subst hq
  (simp -implicitDefEqProofs only [go_sem, bA]; repeat (refine GO ?_; simp -implicitDefEqProofs only [go_sem, bA]))
end Yt
