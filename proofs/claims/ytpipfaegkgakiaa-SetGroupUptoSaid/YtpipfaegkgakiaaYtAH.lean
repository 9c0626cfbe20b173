/- The law SetGroup, its walk. What is proved: contracts of the program's functions over abstract values, or plain facts on which these lean; the conditions stand in each theorem. -/
import Derived.Test.YtpipfaegkgakiaaYtAG
set_option linter.all false
/-! The law SetGroup, its walk. -/
namespace Yt
open Go Go.Vc Go.Proofs
set_option maxRecDepth 10000
set_option maxHeartbeats 8000000
set_option linter.unusedSimpArgs false
set_option linter.unusedVariables false
theorem so_leafs (z : List It) : leafs2 (z.map It.c) := by
  have := so_leafy z
  rw [so, leafy_do] at this; exact this
theorem s8 (l0 l1 l2 : List It) (hl : ∀ l ∈ [l0, l1, l2], l.length < 4611686018427387904) (hr : ∀ l ∈ [l0, l1, l2], ∀ t ∈ l, t.row.length < 4611686018427387904) :
    Spec0 Try.prog 8 [setA l0, setA l1, setA l2] (· = bA true) := by
  refine spec0_of_vc tabOk elems ord8 Try.func8 rfl (rl := [.tmp 6]) rfl (by kernel_rfl) rfl ?_
  (simp -implicitDefEqProofs only [go_sem, setA]; repeat (refine GO ?_; simp -implicitDefEqProofs only [go_sem, setA]))
  refine .lendTo (s10 [l0, l1, l2] (by simp) hl hr) ?_ (by rintro _ rfl; rfl) fun q hq => ?_
  · (simp -implicitDefEqProofs only [go_sem, setsA, setA]; repeat (refine GO ?_; simp -implicitDefEqProofs only [go_sem, setsA, setA]))
    rfl
  subst hq
  (simp -implicitDefEqProofs only [go_sem, bA]; repeat (refine GO ?_; simp -implicitDefEqProofs only [go_sem, bA]))
  refine VIF.split (fun hb => ?_) (fun hb => ?_)
  · (simp -implicitDefEqProofs only [go_sem, bA]; repeat (refine GO ?_; simp -implicitDefEqProofs only [go_sem, bA]))
  have hb : heavyS l0 = false ∧ heavyS l1 = false ∧ heavyS l2 = false := by simpa [List.any_cons] using hb
  obtain ⟨hl0, hr0⟩ := not_heavyS hb.1
  obtain ⟨hl1, hr1⟩ := not_heavyS hb.2.1
  obtain ⟨hl2, hr2⟩ := not_heavyS hb.2.2
  (simp -implicitDefEqProofs only [go_sem]; repeat (refine GO ?_; simp -implicitDefEqProofs only [go_sem]))
  refine .make 27 _ (s24 l0 (by omega) (fun t ht => by have := hr0 t ht; omega)) rfl (by simp) rfl fun q ob hq _ => ?_
  obtain ⟨a, rfl, rfl, ta⟩ := hq
  (simp -implicitDefEqProofs only [go_sem]; repeat (refine GO ?_; simp -implicitDefEqProofs only [go_sem]))
  refine .make 29 _ (s24 l1 (by omega) (fun t ht => by have := hr1 t ht; omega)) rfl (by simp) rfl fun q ob hq _ => ?_
  obtain ⟨b, rfl, rfl, tb⟩ := hq
  (simp -implicitDefEqProofs only [go_sem]; repeat (refine GO ?_; simp -implicitDefEqProofs only [go_sem]))
  refine .make 31 _ (s24 l2 (by omega) (fun t ht => by have := hr2 t ht; omega)) rfl (by simp) rfl fun q ob hq _ => ?_
  obtain ⟨c, rfl, rfl, tc⟩ := hq
  have sa := ta.sm hr0
  have sb := tb.sm hr1
  have sc := tc.sm hr2
  have aw := ta.small
  have rw40 : ∀ {z : List It} {k : Nat}, Sm z k → ∀ t ∈ z, t.row.length < 1073741824 := fun h t ht => by have := (h.rows t ht).2; omega
  have rw62 : ∀ {z : List It} {k : Nat}, Sm z k → ∀ t ∈ z, t.row.length < 4611686018427387904 := fun h t ht => by have := (h.rows t ht).2; omega
  have la1 := sa.len
  have lb1 := sb.len
  have lc1 := sc.len
  have tk : ∀ z : List It, List.take z.length (List.map It.c z) = List.map It.c z := fun z => List.take_of_length_le (by simp)
  simp -implicitDefEqProofs only [go_sem, so]
  refine TO [] [(0, setA a), (1, setA b), (2, setA c), (33, setA a), (34, setA b)] [] [] rfl ?_ ?_
  · (simp -implicitDefEqProofs only [go_sem, setA]; repeat (refine GO ?_; simp -implicitDefEqProofs only [go_sem, setA]))
    exact ⟨id, ⟨by decide, _, rfl, so_leafy a, rfl, tk a⟩, ⟨by decide, _, rfl, so_leafy b, rfl, tk b⟩, ⟨by decide, _, rfl, so_leafy c, rfl, tk c⟩, ⟨by decide, _, rfl, so_leafy a, rfl, tk a⟩, ⟨by decide, _, rfl, so_leafy b, rfl, tk b⟩⟩
  (simp -implicitDefEqProofs only [go_sem, setA]; repeat (refine GO ?_; simp -implicitDefEqProofs only [go_sem, setA]))
  refine .make 35 _ (s23 a b (by omega) (rw40 sa) (rw40 sb)) rfl (by simp) rfl fun q ob hq _ => ?_
  obtain ⟨x, err, rfl, rfl, hm⟩ := hq
  obtain ⟨rfl, sx, tx⟩ := sa.add sb (by omega) hm
  have lx := sx.len
  simp -implicitDefEqProofs only [go_sem, iA, so]
  refine TO [] [(0, setA a), (1, setA b), (2, setA c), (7, setA x), (8, iA 0), (39, setA b), (40, setA a)] [] [] rfl ?_ ?_
  · (simp -implicitDefEqProofs only [go_sem, setA, iA]; repeat (refine GO ?_; simp -implicitDefEqProofs only [go_sem, setA, iA]))
    exact ⟨id, by decide, _, rfl, so_leafy x, rfl, tk x⟩
  (simp -implicitDefEqProofs only [go_sem, setA, iA]; repeat (refine GO ?_; simp -implicitDefEqProofs only [go_sem, setA, iA]))
  refine .make 41 _ (s23 b a (by omega) (rw40 sb) (rw40 sa)) rfl (by simp) rfl fun q ob hq _ => ?_
  obtain ⟨y, err, rfl, rfl, hm⟩ := hq
  obtain ⟨rfl, sy, ty⟩ := sb.add sa (by omega) hm
  have hxy : x = y := made_eq sx.made sy.made fun r => by rw [tx, ty]; omega
  subst hxy
  simp -implicitDefEqProofs only [go_sem, iA, so]
  refine TO [] [(0, setA a), (1, setA b), (2, setA c), (7, setA x), (8, iA 0), (9, setA x), (10, iA 0), (45, setA a)] [] [] rfl ?_ ?_
  · (simp -implicitDefEqProofs only [go_sem, setA, iA]; repeat (refine GO ?_; simp -implicitDefEqProofs only [go_sem, setA, iA]))
    exact ⟨id, by decide, _, rfl, so_leafy x, rfl, tk x⟩
  (simp -implicitDefEqProofs only [go_sem, setA, iA]; repeat (refine GO ?_; simp -implicitDefEqProofs only [go_sem, setA, iA]))
  refine .make 46 _ (s31 a (by omega) (rw40 sa)) rfl (by simp) rfl fun q ob hq _ => ?_
  obtain ⟨n, err, rfl, rfl, hn⟩ := hq
  obtain ⟨rfl, rfl⟩ : n = a.map negI ∧ err = 0 := by
    rcases hn with ⟨h, _⟩ | ⟨_, h1, h2⟩
    · exact absurd sa.good h
    · exact ⟨h1, h2⟩
  have sn := sa.neg
  have hnn := neg_neg a
  have tn := tot_neg a
  have hna := abs_neg a
  have hnl : (a.map negI).length = a.length := List.length_map _
  generalize a.map negI = n at *
  simp -implicitDefEqProofs only [go_sem, iA, so]
  refine TO [] [(0, setA a), (1, setA b), (2, setA c), (7, setA x), (8, iA 0), (9, setA x), (10, iA 0), (11, setA n), (12, iA 0), (50, setA a), (51, setA n)] [] [] rfl ?_ ?_
  · (simp -implicitDefEqProofs only [go_sem, setA, iA]; repeat (refine GO ?_; simp -implicitDefEqProofs only [go_sem, setA, iA]))
    exact ⟨id, ⟨by decide, _, rfl, so_leafy n, rfl, tk n⟩, ⟨by decide, _, rfl, so_leafy n, rfl, tk n⟩⟩
  (simp -implicitDefEqProofs only [go_sem, setA, iA]; repeat (refine GO ?_; simp -implicitDefEqProofs only [go_sem, setA, iA]))
  refine .make 52 _ (s23 a n (by omega) (rw40 sa) (rw40 sn)) rfl (by simp) rfl fun q ob hq _ => ?_
  obtain ⟨z, err, rfl, rfl, hm⟩ := hq
  obtain ⟨rfl, sz, tz⟩ := sa.add sn (by omega) hm
  obtain rfl : z = [] := made_eq sz.made ⟨.nil, by simp⟩ fun r => by rw [tz, tn]; simp [tot]; omega
  simp -implicitDefEqProofs only [go_sem, iA, so]
  refine TO [] [(0, setA a), (1, setA b), (2, setA c), (7, setA x), (8, iA 0), (9, setA x), (10, iA 0), (11, setA n), (12, iA 0), (13, setA []), (14, iA 0), (56, setA n)] [] [] rfl ?_ ?_
  · (simp -implicitDefEqProofs only [go_sem, setA, iA]; repeat (refine GO ?_; simp -implicitDefEqProofs only [go_sem, setA, iA]))
    exact ⟨id, by decide, _, rfl, so_leafy [], rfl, tk []⟩
  (simp -implicitDefEqProofs only [go_sem, setA, iA]; repeat (refine GO ?_; simp -implicitDefEqProofs only [go_sem, setA, iA]))
  refine .make 57 _ (s31 n (by omega) (rw40 sn)) rfl (by simp) rfl fun q ob hq _ => ?_
  obtain ⟨m, err, rfl, rfl, hm⟩ := hq
  obtain ⟨hma, rfl⟩ : a = m ∧ err = 0 := by
    rcases hm with ⟨h, _⟩ | ⟨_, h1, h2⟩
    · exact absurd sn.good h
    · exact ⟨(h1.trans hnn).symm, h2⟩
  subst hma
  (simp -implicitDefEqProofs only [go_sem, iA, so]; repeat (refine GO ?_; simp -implicitDefEqProofs only [go_sem, iA, so]))
  refine VIF.split (fun h => absurd h (by decide)) (fun _ => ?_)
  (simp -implicitDefEqProofs only [go_sem]; repeat (refine GO ?_; simp -implicitDefEqProofs only [go_sem]))
  refine VIF.split (fun h => absurd h (by decide)) (fun _ => ?_)
  (simp -implicitDefEqProofs only [go_sem]; repeat (refine GO ?_; simp -implicitDefEqProofs only [go_sem]))
  refine VIF.split (fun h => absurd h (by decide)) (fun _ => ?_)
  (simp -implicitDefEqProofs only [go_sem]; repeat (refine GO ?_; simp -implicitDefEqProofs only [go_sem]))
  refine VIF.split (fun h => absurd h (by decide)) (fun _ => ?_)
  (simp -implicitDefEqProofs only [go_sem]; repeat (refine GO ?_; simp -implicitDefEqProofs only [go_sem]))
  refine VIF.split (fun h => absurd h (by decide)) (fun _ => ?_)
  (simp -implicitDefEqProofs only [go_sem]; repeat (refine GO ?_; simp -implicitDefEqProofs only [go_sem]))
  refine .pure _ (s18 x x (by omega) (by omega) (rw62 sx)) rfl fun q hq _ => ?_
  obtain ⟨e1, rfl, h1⟩ := hq
  have h1 := h1.2 rfl
  subst h1
  (simp -implicitDefEqProofs only [go_sem, bA]; repeat (refine GO ?_; simp -implicitDefEqProofs only [go_sem, bA]))
  refine VIF.split (fun h => absurd h (by decide)) (fun _ => ?_)
  (simp -implicitDefEqProofs only [go_sem]; repeat (refine GO ?_; simp -implicitDefEqProofs only [go_sem]))
  refine .lendTo (s18 a a (by omega) (by omega) (rw62 sa)) ?_ (by rintro _ ⟨e, rfl, _⟩; rfl) fun q hq => ?_
  · (simp -implicitDefEqProofs only [go_sem, setA, so]; repeat (refine GO ?_; simp -implicitDefEqProofs only [go_sem, setA, so]))
    exact ⟨by rw [tk], so_leafs a⟩
  obtain ⟨e2, rfl, h2⟩ := hq
  have h2 := h2.2 rfl
  subst h2
  (simp -implicitDefEqProofs only [go_sem, bA]; repeat (refine GO ?_; simp -implicitDefEqProofs only [go_sem, bA]))
  refine .pure _ (s16 x (by omega) (rw62 sx)) rfl fun q hq _ => ?_
  obtain ⟨e3, rfl, _, h3⟩ := hq
  have h3 := h3.2 sx.good
  subst h3
  (simp -implicitDefEqProofs only [go_sem, iA]; repeat (refine GO ?_; simp -implicitDefEqProofs only [go_sem, iA]))
  refine VIF.split (fun h => absurd h (by decide)) (fun _ => ?_)
  simp -implicitDefEqProofs only [go_sem]
  refine GO ?_
  (simp -implicitDefEqProofs only [go_sem, setA]; repeat (refine GO ?_; simp -implicitDefEqProofs only [go_sem, setA]))
  refine .make 103 _ (s23 x c (by omega) (rw40 sx) (rw40 sc)) rfl (by simp) rfl fun q ob hq _ => ?_
  obtain ⟨p, err, rfl, rfl, hm⟩ := hq
  obtain ⟨rfl, sp, tp⟩ := sx.add sc (by omega) hm
  have lp := sp.len
  simp -implicitDefEqProofs only [go_sem, iA, so]
  refine TO [] [(0, setA a), (1, setA b), (2, setA c), (7, setA x), (8, iA 0), (11, setA n), (17, setA p), (107, setA b), (108, setA c)] [] [] rfl ?_ ?_
  · (simp -implicitDefEqProofs only [go_sem, setA, iA]; repeat (refine GO ?_; simp -implicitDefEqProofs only [go_sem, setA, iA]))
    exact ⟨id, by decide, _, rfl, so_leafy p, rfl, tk p⟩
  (simp -implicitDefEqProofs only [go_sem, setA, iA]; repeat (refine GO ?_; simp -implicitDefEqProofs only [go_sem, setA, iA]))
  refine .make 109 _ (s23 b c (by omega) (rw40 sb) (rw40 sc)) rfl (by simp) rfl fun q ob hq _ => ?_
  obtain ⟨v, err, rfl, rfl, hm⟩ := hq
  obtain ⟨rfl, sv, tv⟩ := sb.add sc (by omega) hm
  have lv := sv.len
  simp -implicitDefEqProofs only [go_sem, iA, so]
  refine TO [] [(0, setA a), (1, setA b), (2, setA c), (7, setA x), (8, iA 0), (10, iA 0), (11, setA n), (17, setA p), (113, setA a), (114, setA v)] [] [] rfl ?_ ?_
  · (simp -implicitDefEqProofs only [go_sem, setA, iA]; repeat (refine GO ?_; simp -implicitDefEqProofs only [go_sem, setA, iA]))
    exact ⟨id, by decide, _, rfl, so_leafy v, rfl, tk v⟩
  (simp -implicitDefEqProofs only [go_sem, setA, iA]; repeat (refine GO ?_; simp -implicitDefEqProofs only [go_sem, setA, iA]))
  refine .make 115 _ (s23 a v (by omega) (rw40 sa) (rw40 sv)) rfl (by simp) rfl fun q ob hq _ => ?_
  obtain ⟨w, err, rfl, rfl, hm⟩ := hq
  obtain ⟨rfl, sw, tw⟩ := sa.add sv (by omega) hm
  have hpw : p = w := made_eq sp.made sw.made fun r => by rw [tp, tx, tw, tv]; omega
  subst hpw
  (simp -implicitDefEqProofs only [go_sem, iA, so]; repeat (refine GO ?_; simp -implicitDefEqProofs only [go_sem, iA, so]))
  refine VIF.split (fun h => absurd h (by decide)) (fun _ => ?_)
  (simp -implicitDefEqProofs only [go_sem]; repeat (refine GO ?_; simp -implicitDefEqProofs only [go_sem]))
  refine VIF.split (fun h => absurd h (by decide)) (fun _ => ?_)
  (simp -implicitDefEqProofs only [go_sem]; repeat (refine GO ?_; simp -implicitDefEqProofs only [go_sem]))
  refine VIF.split (fun h => absurd h (by decide)) (fun _ => ?_)
  (simp -implicitDefEqProofs only [go_sem]; repeat (refine GO ?_; simp -implicitDefEqProofs only [go_sem]))
  refine .lendTo (s18 p p (by omega) (by omega) (rw62 sp)) ?_ (by rintro _ ⟨e, rfl, _⟩; rfl) fun q hq => ?_
  · (simp -implicitDefEqProofs only [go_sem, setA, so]; repeat (refine GO ?_; simp -implicitDefEqProofs only [go_sem, setA, so]))
    exact ⟨by rw [tk], so_leafs p⟩
  obtain ⟨e4, rfl, h4⟩ := hq
  have h4 := h4.2 rfl
  subst h4
  (simp -implicitDefEqProofs only [go_sem, bA]; repeat (refine GO ?_; simp -implicitDefEqProofs only [go_sem, bA]))
  refine LOOP.mk (ι := { k : Nat // k ≤ a.length }) (fun q => mkS [(0, setA a), (1, setA b), (7, setA x), (11, setA n), (20, iA q.1)] [] []) (fun q => a.length - q.1) ⟨0, Nat.zero_le _⟩ [] rfl rfl ?_ (fun q => ?_)
  · (simp -implicitDefEqProofs only [go_sem, setA, iA]; repeat (refine GO ?_; simp -implicitDefEqProofs only [go_sem, setA, iA]))
    exact ⟨id, rfl⟩
  · obtain ⟨k, hk⟩ := q
    (simp -implicitDefEqProofs only [go_sem, setA, iA]; repeat (refine GO ?_; simp -implicitDefEqProofs only [go_sem, setA, iA]))
    refine VIF.split (fun h5 => ?_) (fun h5 => ?_)
    · have h5 : k < a.length := by simpa using h5
      have w1 := wrap_add1 (show k < 4611686018427387904 by omega)
      have hak := tot_made sa.made (List.getElem_mem h5)
      have hbk := sb.tot a[k].row
      have haw := aw _ (List.getElem_mem h5)
      have hwx : wt a[k].row x = a[k].w + wt a[k].row b := by rw [wt_tot sx.made, wt_tot sb.made, tx, hak]
      have hwn : wt a[k].row n = -a[k].w := by rw [wt_tot sn.made, tn, hak]
      have hwb : wt a[k].row b = tot a[k].row b := wt_tot sb.made _
      have w2 : IntKind.i64.wrap (a[k].w + wt a[k].row b) = a[k].w + wt a[k].row b := by rw [hwb, wrap_i64] <;> omega
      have w3 : IntKind.i64.wrap (0 - a[k].w) = -a[k].w := by rw [wrap_i64] <;> omega
      (simp -implicitDefEqProofs only [go_sem]; repeat (refine GO ?_; simp -implicitDefEqProofs only [go_sem]))
      iterate 3
        refine EL.map h5 ?_
        (simp -implicitDefEqProofs only [go_sem, It.c, iA, w2]; repeat (refine GO ?_; simp -implicitDefEqProofs only [go_sem, It.c, iA, w2]))
      refine .pure _ (s15 x a[k].row (rw62 sx) (by omega)) rfl fun q hq _ => ?_
      subst hq
      rw [hwx]
      (simp -implicitDefEqProofs only [go_sem, iA, w2]; repeat (refine GO ?_; simp -implicitDefEqProofs only [go_sem, iA, w2]))
      refine .pure _ (s15 b a[k].row (rw62 sb) (by omega)) rfl fun q hq _ => ?_
      subst hq
      (simp -implicitDefEqProofs only [go_sem, iA, w2]; repeat (refine GO ?_; simp -implicitDefEqProofs only [go_sem, iA, w2]))
      refine VIF.split (fun h => absurd h (by decide)) (fun _ => ?_)
      (simp -implicitDefEqProofs only [go_sem]; repeat (refine GO ?_; simp -implicitDefEqProofs only [go_sem]))
      iterate 2
        refine EL.map h5 ?_
        (simp -implicitDefEqProofs only [go_sem, It.c, iA, w3]; repeat (refine GO ?_; simp -implicitDefEqProofs only [go_sem, It.c, iA, w3]))
      refine .pure _ (s15 n a[k].row (rw62 sn) (by omega)) rfl fun q hq _ => ?_
      subst hq
      rw [hwn]
      (simp -implicitDefEqProofs only [go_sem, iA, w3]; repeat (refine GO ?_; simp -implicitDefEqProofs only [go_sem, iA, w3]))
      refine VIF.split (fun h => absurd h (by decide)) (fun _ => ?_)
      (simp -implicitDefEqProofs only [go_sem, w1]; repeat (refine GO ?_; simp -implicitDefEqProofs only [go_sem, w1]))
      refine BACK.mk ⟨k + 1, by omega⟩ [] rfl rfl (by show a.length - (k + 1) < a.length - k; omega) ?_
      (simp -implicitDefEqProofs only [go_sem, setA, iA, w1]; repeat (refine GO ?_; simp -implicitDefEqProofs only [go_sem, setA, iA, w1]))
      exact id
    · (simp -implicitDefEqProofs only [go_sem]; repeat (refine GO ?_; simp -implicitDefEqProofs only [go_sem]))
      have hab := abs_made x (a ++ b) sx.made fun r => by rw [tx, tot_append]
      have ha := absS_append a b
      have bd : ∀ {z : List It} {k : Nat}, Sm z k → k ≤ 2 → 0 ≤ absS z ∧ absS z ≤ 85536000 := fun {z k} h hk => by
        refine ⟨absS_pos z, ?_⟩
        have h1 := abs_bound (z := z) (k := 712800) (by decide) fun t ht => by
          have h2 := h.tot t.row
          rw [tot_made h.made ht] at h2
          omega
        have := h.len
        omega
      have bx := bd sx (by omega)
      have ba := bd sa (by omega)
      have bb := bd sb (by omega)
      have bn := bd sn (by omega)
      have sz : ∀ {z : List It} {k : Nat} {q : Int}, Sm z k → k ≤ 2 → (Good z → q = min (absS z) topM) → q = absS z := fun {z k q} h hk hq => by
        have h1 := bd h hk
        rw [hq h.good]; simp only [topM]; omega
      refine .pure _ (s21 x (by omega) (rw62 sx)) rfl fun q hq _ => ?_
      obtain ⟨m1, rfl, hm1, _⟩ := hq
      obtain rfl := sz sx (by omega) hm1
      (simp -implicitDefEqProofs only [go_sem, iA]; repeat (refine GO ?_; simp -implicitDefEqProofs only [go_sem, iA]))
      refine .pure _ (s21 a (by omega) (rw62 sa)) rfl fun q hq _ => ?_
      obtain ⟨m2, rfl, hm2, _⟩ := hq
      obtain rfl := sz sa (by omega) hm2
      (simp -implicitDefEqProofs only [go_sem, iA]; repeat (refine GO ?_; simp -implicitDefEqProofs only [go_sem, iA]))
      refine .pure _ (s21 b (by omega) (rw62 sb)) rfl fun q hq _ => ?_
      obtain ⟨m3, rfl, hm3, _⟩ := hq
      obtain rfl := sz sb (by omega) hm3
      have w4 : IntKind.i64.wrap (absS a + absS b) = absS a + absS b := by rw [wrap_i64] <;> omega
      (simp -implicitDefEqProofs only [go_sem, iA, w4]; repeat (refine GO ?_; simp -implicitDefEqProofs only [go_sem, iA, w4]))
      refine VIF.split (fun _ => ?_) (fun h6 => by simp at h6; omega)
      (simp -implicitDefEqProofs only [go_sem]; repeat (refine GO ?_; simp -implicitDefEqProofs only [go_sem]))
      refine .pure _ (s21 n (by omega) (rw62 sn)) rfl fun q hq _ => ?_
      obtain ⟨m4, rfl, hm4, _⟩ := hq
      obtain rfl := sz sn (by omega) hm4
      rw [hna]
      (simp -implicitDefEqProofs only [go_sem, iA]; repeat (refine GO ?_; simp -implicitDefEqProofs only [go_sem, iA]))
      refine .pure _ (s21 a (by omega) (rw62 sa)) rfl fun q hq _ => ?_
      obtain ⟨m5, rfl, hm5, _⟩ := hq
      obtain rfl := sz sa (by omega) hm5
      (simp -implicitDefEqProofs only [go_sem, iA]; repeat (refine GO ?_; simp -implicitDefEqProofs only [go_sem, iA]))
      refine VIF.split (fun _ => ?_) (fun h => absurd h (by decide))
      (simp -implicitDefEqProofs only [go_sem]; repeat (refine GO ?_; simp -implicitDefEqProofs only [go_sem]))
      refine .pure _ s12 rfl fun q hq _ => ?_
      subst hq
      (simp -implicitDefEqProofs only [go_sem, bA]; repeat (refine GO ?_; simp -implicitDefEqProofs only [go_sem, bA]))
end Yt
