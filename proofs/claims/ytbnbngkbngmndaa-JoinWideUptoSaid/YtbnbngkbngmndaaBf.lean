/- Contracts of the program's functions over abstract values and states, plain facts on which these lean, and the framework of these values over the model: The law JoinRows. From the statement's arguments to those of the walks. The page's join. The law JoinWide. The conditions stand in each theorem. -/
import Derived.Test.YtbnbngkbngmndaaBe
import Derived.Test.YtbnbngkbngmndaaBb
import Derived.JoinedCond
import Derived.WalkKit
import Derived.ProofKit
import Derived.Test.YtbnbngkbngmndaaRows
set_option linter.all false
namespace Yt
open Go Go.Vc Go.Proofs
set_option maxRecDepth 10000
set_option maxHeartbeats 16000000
set_option linter.unusedSimpArgs false
set_option linter.unusedVariables false
theorem tot_distinct {L : List It} (hL : L.Pairwise fun a b => a.row ≠ b.row) : ∀ t ∈ L, tot t.row L = t.w := by
  induction L with
  | nil => simp
  | cons u L ih =>
    obtain ⟨h1, h2⟩ := List.pairwise_cons.1 hL
    intro t ht
    cases ht with
    | head =>
      have := lin_cmpR.self u.row
      have h3 : tot u.row L = 0 := tot_none fun v hv e => h1 v hv (lin_cmpR.eq _ _ e).symm
      simp [tot, this, h3]
    | tail _ ht =>
      have h3 : ¬ cmpR u.row t.row = 0 := fun e => h1 t ht (lin_cmpR.eq _ _ e)
      simp only [tot, h3, if_false, ih h2 t ht]; omega
/-- Do they meet there, as the law asks? -/
def metC (a b : List V) (p : Int × Int) : Bool := decide (0 ≤ p.1) && decide (p.1 < a.length) && decide (0 ≤ p.2) && decide (p.2 < b.length) && !decide ((getV a p.1).k = 1) && eqV (getV a p.1) (getV b p.2)
theorem metC_eq (a b : List V) (cols others : List Int) : (cols.zip others).all (metC a b) = meetP a b cols others := by
  simp only [meetP]
  congr 1
  funext p
  have key : ∀ x y : V, (!decide (x.k = 1) && !decide (y.k = 1) && decide (cmpV x y = 0)) = (!decide (x.k = 1) && eqV x y) := fun x y => by
    by_cases h : cmpV x y = 0
    · have := lin_cmpV.eq _ _ h
      subst this
      rw [eqV_iff.2 rfl]
      cases decide (x.k = 1) <;> simp [h]
    · have h2 : eqV x y = false := by
        cases he : eqV x y with
        | false => rfl
        | true => have := eqV_iff.1 he; subst this; exact absurd (lin_cmpV.self _) h
      simp [h, h2]
  have := key (getV a p.1) (getV b p.2)
  simp only [metC, inC, Bool.and_assoc] at this ⊢
  rw [this]
theorem take_zip_succ {cols others : List Int} {c : Nat} (h1 : c < cols.length) (h2 : c < others.length) (f : Int × Int → Bool) : ((cols.zip others).take (c + 1)).all f = (((cols.zip others).take c).all f && f (cols[c], others[c])) := by
  rw [List.take_succ_eq_append_getElem (by simp; omega), List.all_append]; simp
theorem s52z (a : List V) (hl : a.length ≤ 1073741824) : Spec1 Try.prog 45 [rowA a] (fun r o => r = .rf 0 0 a.length ∧ o = ro3 a) := s52 a hl
theorem c6 (l0 l1 : List It) (cols others : List Int) (hl : ∀ l ∈ [l0, l1], l.length < 4611686018427387904) (hr : ∀ l ∈ [l0, l1], ∀ t ∈ l, t.row.length < 4611686018427387904) (hc : cols.length < 1073741824) (hd : others.length < 1073741824) :
    Spec0 Try.prog 6 [setA l0, setA l1, intsL cols, intsL others] (· = bA true) := by
  refine spec0_of_vc tabOk elems ord6 Try.func6 rfl (rl := [.tmp 8]) rfl (by kernel_rfl) rfl ?_
  (simp -implicitDefEqProofs only [go_sem, setA, intsL]; repeat (refine GO ?_; simp -implicitDefEqProofs only [go_sem, setA, intsL]))
  refine .lendTo (s10 [l0, l1] (by simp) hl hr) ?_ (by rintro _ rfl; rfl) fun r hq => ?_
  · (simp -implicitDefEqProofs only [go_sem, setsA, setA]; repeat (refine GO ?_; simp -implicitDefEqProofs only [go_sem, setsA, setA]))
    rfl
  subst hq
  (simp -implicitDefEqProofs only [go_sem, bA]; repeat (refine GO ?_; simp -implicitDefEqProofs only [go_sem, bA]))
  refine VIF.split (fun hb => ?_) (fun hb => ?_)
  · (simp -implicitDefEqProofs only [go_sem, bA]; repeat (refine GO ?_; simp -implicitDefEqProofs only [go_sem, bA]))
  have hb : heavyS l0 = false ∧ heavyS l1 = false := by simpa [List.any_cons] using hb
  obtain ⟨hl0, hr0⟩ := not_heavyS hb.1
  obtain ⟨hl1, hr1⟩ := not_heavyS hb.2
  (simp -implicitDefEqProofs only [go_sem]; repeat (refine GO ?_; simp -implicitDefEqProofs only [go_sem]))
  refine VIF.split (fun h => ?_) (fun h => ?_)
  · (simp -implicitDefEqProofs only [go_sem, bA]; repeat (refine GO ?_; simp -implicitDefEqProofs only [go_sem, bA]))
  (simp -implicitDefEqProofs only [go_sem]; repeat (refine GO ?_; simp -implicitDefEqProofs only [go_sem]))
  refine VIF.split (fun h => ?_) (fun h => ?_)
  · (simp -implicitDefEqProofs only [go_sem, bA]; repeat (refine GO ?_; simp -implicitDefEqProofs only [go_sem, bA]))
  have hll : cols.length = others.length := by simp at h; omega
  simp -implicitDefEqProofs only [go_sem]
  refine TO [] [(0, setA l0), (1, setA l1), (2, intsL cols), (3, intsL others)] [] [] rfl ?_ ?_
  · (simp -implicitDefEqProofs only [go_sem, setA, intsL]; repeat (refine GO ?_; simp -implicitDefEqProofs only [go_sem, setA, intsL]))
    exact id
  (simp -implicitDefEqProofs only [go_sem, setA, intsL]; repeat (refine GO ?_; simp -implicitDefEqProofs only [go_sem, setA, intsL]))
  refine .pure _ (c42 l0 (by omega) (fun t ht => by have := hr0 t ht; omega)) rfl fun r hq _ => ?_
  obtain ⟨a, rfl, fa⟩ := hq
  (simp -implicitDefEqProofs only [go_sem, setA]; repeat (refine GO ?_; simp -implicitDefEqProofs only [go_sem, setA]))
  refine .pure _ (c42 l1 (by omega) (fun t ht => by have := hr1 t ht; omega)) rfl fun r hq _ => ?_
  obtain ⟨b, rfl, fb⟩ := hq
  have la := fa.len
  have lb := fb.len
  have ma := (good_made.1 fa.good).1
  have mb := (good_made.1 fb.good).1
  have hab : a.length * b.length ≤ 625 := Nat.mul_le_mul la lb
  (simp -implicitDefEqProofs only [go_sem, setA, intsL]; repeat (refine GO ?_; simp -implicitDefEqProofs only [go_sem, setA, intsL]))
  refine .pure _ (c26 a b cols others hc hd (by omega) (by omega) (by omega) fa.r40 fb.r40) rfl fun r hq _ => ?_
  obtain ⟨z, e, rfl, hz⟩ := hq
  have hz := JoR.of fa fb hll (by decide) (by decide) (by decide) (by decide) hz
  rcases hz with ⟨rfl, rfl, _⟩ | ⟨rfl, _, nz, kz, fz, bz1, bz2, tz⟩
  · (simp -implicitDefEqProofs only [go_sem, iA, setA]; repeat (refine GO ?_; simp -implicitDefEqProofs only [go_sem, iA, setA]))
    repeat ((first | (refine VIF.tt ?_ ?_; (· first | rfl | (simp; done) | (simp; omega))) | (refine VIF.ff ?_ ?_; (· first | rfl | (simp; done) | (simp; omega)))); (simp -implicitDefEqProofs only [go_sem]; repeat (refine GO ?_; simp -implicitDefEqProofs only [go_sem])))
    refine .pure _ c29 rfl fun r hq _ => ?_
    subst hq
    (simp -implicitDefEqProofs only [go_sem, bA]; repeat (refine GO ?_; simp -implicitDefEqProofs only [go_sem, bA]))
  have lz := fz.len
  (simp -implicitDefEqProofs only [go_sem, iA]; repeat (refine GO ?_; simp -implicitDefEqProofs only [go_sem, iA]))
  repeat ((first | (refine VIF.tt ?_ ?_; (· first | rfl | (simp; done) | (simp; omega))) | (refine VIF.ff ?_ ?_; (· first | rfl | (simp; done) | (simp; omega)))); (simp -implicitDefEqProofs only [go_sem]; repeat (refine GO ?_; simp -implicitDefEqProofs only [go_sem])))
  refine LOOP.mk (ι := { i : Nat // i ≤ a.length ∧ ∀ j (h : j < a.length) (h0 : 0 < a.length), j < i → a[j].row.length = a[0].row.length }) (fun p => mkS [(0, setA a), (1, setA b), (2, intsL cols), (3, intsL others), (9, setA z), (11, iA p.1)] [] []) (fun p => a.length - p.1) ⟨0, Nat.zero_le _, fun j _ _ h => absurd h (Nat.not_lt_zero _)⟩ [] rfl rfl ?_ (fun p => ?_)
  · (simp -implicitDefEqProofs only [go_sem, setA, intsL, iA]; repeat (refine GO ?_; simp -implicitDefEqProofs only [go_sem, setA, intsL, iA]))
    exact ⟨id, rfl⟩
  · obtain ⟨i, hi, hk⟩ := p
    (simp -implicitDefEqProofs only [go_sem, setA, intsL, iA]; repeat (refine GO ?_; simp -implicitDefEqProofs only [go_sem, setA, intsL, iA]))
    refine VIF.split (fun h1 => ?_) (fun h1 => ?_)
    · have h1 : i < a.length := by simpa using h1
      have h0 : 0 < a.length := by omega
      have w1 := wrap_add1 (show i < 4611686018427387904 by omega)
      (simp -implicitDefEqProofs only [go_sem]; repeat (refine GO ?_; simp -implicitDefEqProofs only [go_sem]))
      refine EL.map h1 ?_
      (simp -implicitDefEqProofs only [go_sem, It.c, rowA]; repeat (refine GO ?_; simp -implicitDefEqProofs only [go_sem, It.c, rowA]))
      refine ⟨by decide, EL.map h0 ?_⟩
      (simp -implicitDefEqProofs only [go_sem, It.c, rowA]; repeat (refine GO ?_; simp -implicitDefEqProofs only [go_sem, It.c, rowA]))
      refine VIF.split (fun h2 => ?_) (fun h2 => ?_)
      · (simp -implicitDefEqProofs only [go_sem]; repeat (refine GO ?_; simp -implicitDefEqProofs only [go_sem]))
        refine .pure _ c29 rfl fun r hq _ => ?_
        subst hq
        (simp -implicitDefEqProofs only [go_sem, bA]; repeat (refine GO ?_; simp -implicitDefEqProofs only [go_sem, bA]))
      have h2 : a[i].row.length = a[0].row.length := by simp at h2; omega
      (simp -implicitDefEqProofs only [go_sem, w1]; repeat (refine GO ?_; simp -implicitDefEqProofs only [go_sem, w1]))
      refine BACK.mk ⟨i + 1, by omega, fun j hj hj0 hji => ?_⟩ [] rfl rfl (by show a.length - (i + 1) < a.length - i; omega) ?_
      · by_cases e : j = i
        · subst e; exact h2
        · exact hk j hj hj0 (by omega)
      · (simp -implicitDefEqProofs only [go_sem, setA, intsL, iA]; repeat (refine GO ?_; simp -implicitDefEqProofs only [go_sem, setA, intsL, iA]))
        exact id
    · have h1 : i = a.length := by simp at h1; omega
      subst h1
      obtain ⟨k0, hk0⟩ : ∃ k0, ∀ t ∈ a, t.row.length = k0 := by
        by_cases h0 : 0 < a.length
        · refine ⟨a[0].row.length, fun t ht => ?_⟩
          obtain ⟨j, hj, rfl⟩ := List.mem_iff_getElem.1 ht
          exact hk j hj h0 hj
        · have : a = [] := List.eq_nil_of_length_eq_zero (by omega)
          subst this; exact ⟨0, by simp⟩
      have hdis := pairL_distinct (cols := cols) (others := others) ma mb hk0
      have hcount : z.length = (pairL a b cols others).length := by
        have := made_count (good_made.1 fz.good).1 hdis (join_nz ma mb) fun r => by rw [tz, tot_join]
        rw [this, List.length_map]
      have hwt : ∀ (x y : It), x ∈ a → y ∈ b → wt (x.row ++ y.row) z = if meetP x.row y.row cols others = true then x.w * y.w else 0 := fun x y hx hy => by
        rw [wt_tot (good_made.1 fz.good).1, tz, ← tot_join]
        split
        · rename_i hm
          exact tot_distinct hdis (joinI (x, y)) (List.mem_map.2 ⟨(x, y), by
            simp only [pairL, List.mem_flatMap, List.mem_map, List.mem_filter]
            exact ⟨x, hx, y, ⟨hy, hm⟩, rfl⟩, rfl⟩)
        · rename_i hm
          refine tot_none fun t ht e => hm ?_
          obtain ⟨p, hp, rfl⟩ := List.mem_map.1 ht
          obtain ⟨g1, g2, g3⟩ := pairL_mem hp
          have e : p.1.row ++ p.2.row = x.row ++ y.row := lin_cmpR.eq _ _ e
          have e1 : p.1.row = x.row := List.append_inj_left e (by rw [hk0 _ g1, hk0 _ hx])
          have e2 : p.2.row = y.row := List.append_inj_right e (by rw [hk0 _ g1, hk0 _ hx])
          rw [e1, e2] at g3; exact g3
      (simp -implicitDefEqProofs only [go_sem]; repeat (refine GO ?_; simp -implicitDefEqProofs only [go_sem]))
      refine LOOP.mk (ι := { i : Nat // i ≤ a.length }) (fun p => mkS [(0, setA a), (1, setA b), (2, intsL cols), (3, intsL others), (9, setA z), (12, iA (pairL (a.take p.1) b cols others).length), (13, iA p.1)] [] []) (fun p => a.length - p.1) ⟨0, Nat.zero_le _⟩ [] rfl rfl ?_ (fun p => ?_)
      · (simp -implicitDefEqProofs only [go_sem, setA, intsL, iA]; repeat (refine GO ?_; simp -implicitDefEqProofs only [go_sem, setA, intsL, iA]))
        exact ⟨id, rfl, rfl⟩
      · obtain ⟨i, hi⟩ := p
        (simp -implicitDefEqProofs only [go_sem, setA, intsL, iA]; repeat (refine GO ?_; simp -implicitDefEqProofs only [go_sem, setA, intsL, iA]))
        refine VIF.split (fun h1 => ?_) (fun h1 => ?_)
        · have h1 : i < a.length := by simpa using h1
          have hma := List.getElem_mem h1
          have w1 := wrap_add1 (show i < 4611686018427387904 by omega)
          have e0 : pairL (a.take i) b cols others ++ pairL [a[i]] (b.take 0) cols others = pairL (a.take i) b cols others := by simp [pairL]
          (simp -implicitDefEqProofs only [go_sem]; repeat (refine GO ?_; simp -implicitDefEqProofs only [go_sem]))
          refine LOOP.mk (ι := { k : Nat // k ≤ b.length }) (fun p => mkS [(0, setA a), (1, setA b), (2, intsL cols), (3, intsL others), (9, setA z), (12, iA (pairL (a.take i) b cols others ++ pairL [a[i]] (b.take p.1) cols others).length), (13, iA i), (14, iA p.1)] [] []) (fun p => b.length - p.1) ⟨0, Nat.zero_le _⟩ [] rfl rfl ?_ (fun p => ?_)
          · simp only [e0]
            (simp -implicitDefEqProofs only [go_sem, setA, intsL, iA]; repeat (refine GO ?_; simp -implicitDefEqProofs only [go_sem, setA, intsL, iA]))
            exact ⟨id, rfl⟩
          · obtain ⟨k, hk⟩ := p
            have hbd := pair_bd (cols := cols) (others := others) h1 hk
            simp only
            generalize hN : (pairL (a.take i) b cols others ++ pairL [a[i]] (b.take k) cols others).length = N at *
            (simp -implicitDefEqProofs only [go_sem, setA, intsL, iA]; repeat (refine GO ?_; simp -implicitDefEqProofs only [go_sem, setA, intsL, iA]))
            refine VIF.split (fun h2 => ?_) (fun h2 => ?_)
            · have h2 : k < b.length := by simpa using h2
              have hmb := List.getElem_mem h2
              have w2 := wrap_add1 (show k < 4611686018427387904 by omega)
              have w3 := wrap_add1 (show N < 4611686018427387904 by omega)
              have eN : (pairL (a.take i) b cols others ++ pairL [a[i]] (b.take (k + 1)) cols others).length = N + (if meetP a[i].row b[k].row cols others = true then 1 else 0) := by
                rw [List.take_succ_eq_append_getElem h2, pairL_one, ← List.append_assoc, List.length_append, hN]
                congr 1
                by_cases hm : meetP a[i].row b[k].row cols others = true
                · simp [pairL, hm]
                · simp [pairL, hm]
              (simp -implicitDefEqProofs only [go_sem]; repeat (refine GO ?_; simp -implicitDefEqProofs only [go_sem]))
              refine LOOP.mk (ι := { c : Nat // c ≤ cols.length }) (fun p => mkS [(0, setA a), (1, setA b), (2, intsL cols), (3, intsL others), (9, setA z), (12, iA N), (13, iA i), (14, iA k), (15, bA (((cols.zip others).take p.1).all (metC a[i].row b[k].row))), (16, iA p.1)] [] []) (fun p => cols.length - p.1) ⟨0, Nat.zero_le _⟩ [] rfl rfl ?_ (fun p => ?_)
              · (simp -implicitDefEqProofs only [go_sem, setA, intsL, iA, bA]; repeat (refine GO ?_; simp -implicitDefEqProofs only [go_sem, setA, intsL, iA, bA]))
                exact ⟨id, rfl, rfl⟩
              · obtain ⟨c, hcl⟩ := p
                (simp -implicitDefEqProofs only [go_sem, setA, intsL, iA, bA]; repeat (refine GO ?_; simp -implicitDefEqProofs only [go_sem, setA, intsL, iA, bA]))
                refine VIF.split (fun h3 => ?_) (fun h3 => ?_)
                · have h3 : c < cols.length := by simpa using h3
                  have h4 : c < others.length := by omega
                  have w4 := wrap_add1 (show c < 4611686018427387904 by omega)
                  have hall := take_zip_succ h3 h4 (metC a[i].row b[k].row)
                  (simp -implicitDefEqProofs only [go_sem]; repeat (refine GO ?_; simp -implicitDefEqProofs only [go_sem]))
                  refine EL.map h3 ?_
                  (simp -implicitDefEqProofs only [go_sem]; repeat (refine GO ?_; simp -implicitDefEqProofs only [go_sem]))
                  refine EL.map h4 ?_
                  (simp -implicitDefEqProofs only [go_sem]; repeat (refine GO ?_; simp -implicitDefEqProofs only [go_sem]))
                  cases hB : ((cols.zip others).take c).all (metC a[i].row b[k].row) with
                  | false =>
                    refine VIF.ff rfl ?_
                    have hall2 : ((cols.zip others).take (c + 1)).all (metC a[i].row b[k].row) = false := by
                      rw [hall, hB]; rfl
                    (simp -implicitDefEqProofs only [go_sem, w4]; repeat (refine GO ?_; simp -implicitDefEqProofs only [go_sem, w4]))
                    refine BACK.mk ⟨c + 1, by omega⟩ [] rfl rfl (by show cols.length - (c + 1) < cols.length - c; omega) ?_
                    simp only [hall2]
                    (simp -implicitDefEqProofs only [go_sem, setA, intsL, iA, bA, w4]; repeat (refine GO ?_; simp -implicitDefEqProofs only [go_sem, setA, intsL, iA, bA, w4]))
                    exact id
                  | true =>
                    rw [hB, Bool.true_and] at hall
                    refine VIF.tt rfl ?_
                    (simp -implicitDefEqProofs only [go_sem]; repeat (refine GO ?_; simp -implicitDefEqProofs only [go_sem]))
                    refine VIF.split (fun g1 => ?_) (fun g1 => ?_)
                    rotate_left
                    · have hall2 : ((cols.zip others).take (c + 1)).all (metC a[i].row b[k].row) = false := by
                        rw [hall]; simp only [metC]; simp [g1]
                      (simp -implicitDefEqProofs only [go_sem, w4]; repeat (refine GO ?_; simp -implicitDefEqProofs only [go_sem, w4]))
                      refine BACK.mk ⟨c + 1, by omega⟩ [] rfl rfl (by show cols.length - (c + 1) < cols.length - c; omega) ?_
                      simp only [hall2]
                      (simp -implicitDefEqProofs only [go_sem, setA, intsL, iA, bA, w4]; repeat (refine GO ?_; simp -implicitDefEqProofs only [go_sem, setA, intsL, iA, bA, w4]))
                      exact id
                    (simp -implicitDefEqProofs only [go_sem]; repeat (refine GO ?_; simp -implicitDefEqProofs only [go_sem]))
                    refine EL.map h1 ?_
                    (simp -implicitDefEqProofs only [go_sem, It.c, rowA]; repeat (refine GO ?_; simp -implicitDefEqProofs only [go_sem, It.c, rowA]))
                    refine VIF.split (fun g2 => ?_) (fun g2 => ?_)
                    rotate_left
                    · have hall2 : ((cols.zip others).take (c + 1)).all (metC a[i].row b[k].row) = false := by
                        rw [hall]; simp only [metC]; simp [g2]
                      (simp -implicitDefEqProofs only [go_sem, w4]; repeat (refine GO ?_; simp -implicitDefEqProofs only [go_sem, w4]))
                      refine BACK.mk ⟨c + 1, by omega⟩ [] rfl rfl (by show cols.length - (c + 1) < cols.length - c; omega) ?_
                      simp only [hall2]
                      (simp -implicitDefEqProofs only [go_sem, setA, intsL, iA, bA, w4]; repeat (refine GO ?_; simp -implicitDefEqProofs only [go_sem, setA, intsL, iA, bA, w4]))
                      exact id
                    (simp -implicitDefEqProofs only [go_sem]; repeat (refine GO ?_; simp -implicitDefEqProofs only [go_sem]))
                    refine VIF.split (fun g3 => ?_) (fun g3 => ?_)
                    rotate_left
                    · have hall2 : ((cols.zip others).take (c + 1)).all (metC a[i].row b[k].row) = false := by
                        rw [hall]; simp only [metC]; simp [g3]
                      (simp -implicitDefEqProofs only [go_sem, w4]; repeat (refine GO ?_; simp -implicitDefEqProofs only [go_sem, w4]))
                      refine BACK.mk ⟨c + 1, by omega⟩ [] rfl rfl (by show cols.length - (c + 1) < cols.length - c; omega) ?_
                      simp only [hall2]
                      (simp -implicitDefEqProofs only [go_sem, setA, intsL, iA, bA, w4]; repeat (refine GO ?_; simp -implicitDefEqProofs only [go_sem, setA, intsL, iA, bA, w4]))
                      exact id
                    (simp -implicitDefEqProofs only [go_sem]; repeat (refine GO ?_; simp -implicitDefEqProofs only [go_sem]))
                    refine EL.map h2 ?_
                    (simp -implicitDefEqProofs only [go_sem, It.c, rowA]; repeat (refine GO ?_; simp -implicitDefEqProofs only [go_sem, It.c, rowA]))
                    refine VIF.split (fun g4 => ?_) (fun g4 => ?_)
                    rotate_left
                    · have hall2 : ((cols.zip others).take (c + 1)).all (metC a[i].row b[k].row) = false := by
                        rw [hall]; simp only [metC]; simp [g4]
                      (simp -implicitDefEqProofs only [go_sem, w4]; repeat (refine GO ?_; simp -implicitDefEqProofs only [go_sem, w4]))
                      refine BACK.mk ⟨c + 1, by omega⟩ [] rfl rfl (by show cols.length - (c + 1) < cols.length - c; omega) ?_
                      simp only [hall2]
                      (simp -implicitDefEqProofs only [go_sem, setA, intsL, iA, bA, w4]; repeat (refine GO ?_; simp -implicitDefEqProofs only [go_sem, setA, intsL, iA, bA, w4]))
                      exact id
                    have k1 : cols[c].toNat < a[i].row.length := by simp at g1 g2; omega
                    have k2 : others[c].toNat < b[k].row.length := by simp at g3 g4; omega
                    have hg1 : getV a[i].row cols[c] = a[i].row[cols[c].toNat] := by simp [getV, k1]
                    have hg2 : getV b[k].row others[c] = b[k].row[others[c].toNat] := by simp [getV, k2]
                    have q1 : 0 ≤ cols[c] := by simpa using g1
                    have q3 : 0 ≤ others[c] := by simpa using g3
                    (simp -implicitDefEqProofs only [go_sem]; repeat (refine GO ?_; simp -implicitDefEqProofs only [go_sem]))
                    refine EL.map h1 ?_
                    (simp -implicitDefEqProofs only [go_sem, It.c, rowA]; repeat (refine GO ?_; simp -implicitDefEqProofs only [go_sem, It.c, rowA]))
                    refine ⟨q1, EL.map k1 ?_⟩
                    (simp -implicitDefEqProofs only [go_sem, V.c]; repeat (refine GO ?_; simp -implicitDefEqProofs only [go_sem, V.c]))
                    refine VIF.split (fun g5 => ?_) (fun g5 => ?_)
                    rotate_left
                    · have hall2 : ((cols.zip others).take (c + 1)).all (metC a[i].row b[k].row) = false := by
                        have g5 : a[i].row[cols[c].toNat].k = 1 := by simpa using g5
                        rw [hall]; simp only [metC, hg1]; simp [g5]
                      (simp -implicitDefEqProofs only [go_sem, w4]; repeat (refine GO ?_; simp -implicitDefEqProofs only [go_sem, w4]))
                      refine BACK.mk ⟨c + 1, by omega⟩ [] rfl rfl (by show cols.length - (c + 1) < cols.length - c; omega) ?_
                      simp only [hall2]
                      (simp -implicitDefEqProofs only [go_sem, setA, intsL, iA, bA, w4]; repeat (refine GO ?_; simp -implicitDefEqProofs only [go_sem, setA, intsL, iA, bA, w4]))
                      exact id
                    (simp -implicitDefEqProofs only [go_sem]; repeat (refine GO ?_; simp -implicitDefEqProofs only [go_sem]))
                    refine EL.map h1 ?_
                    (simp -implicitDefEqProofs only [go_sem, It.c, rowA]; repeat (refine GO ?_; simp -implicitDefEqProofs only [go_sem, It.c, rowA]))
                    refine ⟨q1, EL.map k1 ?_⟩
                    (simp -implicitDefEqProofs only [go_sem, V.c]; repeat (refine GO ?_; simp -implicitDefEqProofs only [go_sem, V.c]))
                    refine EL.map h2 ?_
                    (simp -implicitDefEqProofs only [go_sem, It.c, rowA]; repeat (refine GO ?_; simp -implicitDefEqProofs only [go_sem, It.c, rowA]))
                    refine ⟨q3, EL.map k2 ?_⟩
                    (simp -implicitDefEqProofs only [go_sem, V.c]; repeat (refine GO ?_; simp -implicitDefEqProofs only [go_sem, V.c]))
                    refine .pure _ (s46 a[i].row[cols[c].toNat] b[k].row[others[c].toNat]) rfl fun r hq _ => ?_
                    subst hq
                    (simp -implicitDefEqProofs only [go_sem, bA]; repeat (refine GO ?_; simp -implicitDefEqProofs only [go_sem, bA]))
                    have hall2 : ((cols.zip others).take (c + 1)).all (metC a[i].row b[k].row) = eqV a[i].row[cols[c].toNat] b[k].row[others[c].toNat] := by
                      have g5 : a[i].row[cols[c].toNat].k ≠ 1 := by simpa using g5
                      have g2 : cols[c] < (a[i].row.length : Int) := by simpa using g2
                      have g4 : others[c] < (b[k].row.length : Int) := by simpa using g4
                      rw [hall]; simp only [metC, hg1, hg2]; simp [g5, q1, q3, g2, g4]
                    (simp -implicitDefEqProofs only [go_sem, w4]; repeat (refine GO ?_; simp -implicitDefEqProofs only [go_sem, w4]))
                    refine BACK.mk ⟨c + 1, by omega⟩ [] rfl rfl (by show cols.length - (c + 1) < cols.length - c; omega) ?_
                    simp only [hall2]
                    (simp -implicitDefEqProofs only [go_sem, setA, intsL, iA, bA, w4]; repeat (refine GO ?_; simp -implicitDefEqProofs only [go_sem, setA, intsL, iA, bA, w4]))
                    exact id
                · have h3 : c = cols.length := by simp at h3; omega
                  subst h3
                  have eM : ((cols.zip others).take cols.length).all (metC a[i].row b[k].row) = meetP a[i].row b[k].row cols others := by
                    rw [List.take_of_length_le (by simp; omega), metC_eq]
                  rw [eM]
                  have hw := hwt _ _ hma hmb
                  (simp -implicitDefEqProofs only [go_sem]; repeat (refine GO ?_; simp -implicitDefEqProofs only [go_sem]))
                  refine VIF.split (fun h5 => ?_) (fun h5 => ?_)
                  · rw [if_pos h5] at hw eN
                    have bw1 := fa.w _ hma
                    have bw2 := fb.w _ hmb
                    have wm : IntKind.i64.wrap (a[i].w * b[k].w) = a[i].w * b[k].w := by
                      have := mul_small bw1 bw2
                      rw [wrap_i64] <;> omega
                    (simp -implicitDefEqProofs only [go_sem, w3]; repeat (refine GO ?_; simp -implicitDefEqProofs only [go_sem, w3]))
                    refine EL.map h1 ?_
                    (simp -implicitDefEqProofs only [go_sem, It.c, iA]; repeat (refine GO ?_; simp -implicitDefEqProofs only [go_sem, It.c, iA]))
                    refine EL.map h2 ?_
                    (simp -implicitDefEqProofs only [go_sem, It.c, iA, wm]; repeat (refine GO ?_; simp -implicitDefEqProofs only [go_sem, It.c, iA, wm]))
                    refine EL.map h1 ?_
                    (simp -implicitDefEqProofs only [go_sem, It.c]; repeat (refine GO ?_; simp -implicitDefEqProofs only [go_sem, It.c]))
                    refine EL.map h2 ?_
                    (simp -implicitDefEqProofs only [go_sem, It.c]; repeat (refine GO ?_; simp -implicitDefEqProofs only [go_sem, It.c]))
                    refine .make 185 _ (s52 a[i].row (by have := fa.r40 _ hma; omega)) rfl (by simp) rfl fun r o hq _ => ?_
                    obtain ⟨rfl, rfl⟩ := hq
                    (simp -implicitDefEqProofs only [go_sem, rowA, ro3]; repeat (refine GO ?_; simp -implicitDefEqProofs only [go_sem, rowA, ro3]))
                    refine ⟨by have := fa.rows _ hma; have := fb.rows _ hmb; omega, ?_⟩
                    refine .lendTo (s15 z (a[i].row ++ b[k].row) fz.r62 (by have := fa.rows _ hma; have := fb.rows _ hmb; simp; omega)) ?_ (by rintro _ rfl; rfl) fun r hq => ?_
                    · (simp -implicitDefEqProofs only [go_sem, setA, rowA]; repeat (refine GO ?_; simp -implicitDefEqProofs only [go_sem, setA, rowA]))
                      have hlf := ro3_leafy (a[i].row ++ b[k].row)
                      rw [ro3, leafy_do, List.map_append] at hlf
                      exact ⟨by rw [List.map_append, List.take_of_length_le (by simp)], hlf⟩
                    subst hq
                    (simp -implicitDefEqProofs only [go_sem, iA, hw]; repeat (refine GO ?_; simp -implicitDefEqProofs only [go_sem, iA, hw]))
                    (first | (refine VIF.tt ?_ ?_; (· first | rfl | (simp; done) | (simp; omega))) | (refine VIF.ff ?_ ?_; (· first | rfl | (simp; done) | (simp; omega))))
                    (simp -implicitDefEqProofs only [go_sem, w2]; repeat (refine GO ?_; simp -implicitDefEqProofs only [go_sem, w2]))
                    refine BACK.mk ⟨k + 1, by omega⟩ [] rfl rfl (by show b.length - (k + 1) < b.length - k; omega) ?_
                    simp only [eN]
                    (simp -implicitDefEqProofs only [go_sem, setA, intsL, iA, w2]; repeat (refine GO ?_; simp -implicitDefEqProofs only [go_sem, setA, intsL, iA, w2]))
                    exact id
                  · rw [if_neg (by simp [h5])] at hw eN
                    rw [Nat.add_zero] at eN
                    (simp -implicitDefEqProofs only [go_sem]; repeat (refine GO ?_; simp -implicitDefEqProofs only [go_sem]))
                    refine EL.map h1 ?_
                    (simp -implicitDefEqProofs only [go_sem, It.c]; repeat (refine GO ?_; simp -implicitDefEqProofs only [go_sem, It.c]))
                    refine EL.map h2 ?_
                    (simp -implicitDefEqProofs only [go_sem, It.c]; repeat (refine GO ?_; simp -implicitDefEqProofs only [go_sem, It.c]))
                    refine .make 185 _ (s52 a[i].row (by have := fa.r40 _ hma; omega)) rfl (by simp) rfl fun r o hq _ => ?_
                    obtain ⟨rfl, rfl⟩ := hq
                    (simp -implicitDefEqProofs only [go_sem, rowA, ro3]; repeat (refine GO ?_; simp -implicitDefEqProofs only [go_sem, rowA, ro3]))
                    refine ⟨by have := fa.rows _ hma; have := fb.rows _ hmb; omega, ?_⟩
                    refine .lendTo (s15 z (a[i].row ++ b[k].row) fz.r62 (by have := fa.rows _ hma; have := fb.rows _ hmb; simp; omega)) ?_ (by rintro _ rfl; rfl) fun r hq => ?_
                    · (simp -implicitDefEqProofs only [go_sem, setA, rowA]; repeat (refine GO ?_; simp -implicitDefEqProofs only [go_sem, setA, rowA]))
                      have hlf := ro3_leafy (a[i].row ++ b[k].row)
                      rw [ro3, leafy_do, List.map_append] at hlf
                      exact ⟨by rw [List.map_append, List.take_of_length_le (by simp)], hlf⟩
                    subst hq
                    (simp -implicitDefEqProofs only [go_sem, iA, hw]; repeat (refine GO ?_; simp -implicitDefEqProofs only [go_sem, iA, hw]))
                    (first | (refine VIF.tt ?_ ?_; (· first | rfl | (simp; done) | (simp; omega))) | (refine VIF.ff ?_ ?_; (· first | rfl | (simp; done) | (simp; omega))))
                    (simp -implicitDefEqProofs only [go_sem, w2]; repeat (refine GO ?_; simp -implicitDefEqProofs only [go_sem, w2]))
                    refine BACK.mk ⟨k + 1, by omega⟩ [] rfl rfl (by show b.length - (k + 1) < b.length - k; omega) ?_
                    simp only [eN]
                    (simp -implicitDefEqProofs only [go_sem, setA, intsL, iA, w2]; repeat (refine GO ?_; simp -implicitDefEqProofs only [go_sem, setA, intsL, iA, w2]))
                    exact id
            · have h2 : k = b.length := by simp at h2; omega
              subst h2
              have eL : N = (pairL (a.take (i + 1)) b cols others).length := by rw [← hN, List.take_length, List.take_succ_eq_append_getElem h1, pairL_append]
              subst eL
              (simp -implicitDefEqProofs only [go_sem, w1]; repeat (refine GO ?_; simp -implicitDefEqProofs only [go_sem, w1]))
              refine BACK.mk ⟨i + 1, by omega⟩ [] rfl rfl (by show a.length - (i + 1) < a.length - i; omega) ?_
              (simp -implicitDefEqProofs only [go_sem, setA, intsL, iA]; repeat (refine GO ?_; simp -implicitDefEqProofs only [go_sem, setA, intsL, iA]))
              exact id
        · have h1 : i = a.length := by simp at h1; omega
          subst h1
          (simp -implicitDefEqProofs only [go_sem, List.take_length, hcount]; repeat (refine GO ?_; simp -implicitDefEqProofs only [go_sem, List.take_length, hcount]))
          repeat ((first | (refine VIF.tt ?_ ?_; (· first | rfl | (simp; done) | (simp; omega))) | (refine VIF.ff ?_ ?_; (· first | rfl | (simp; done) | (simp; omega)))); (simp -implicitDefEqProofs only [go_sem]; repeat (refine GO ?_; simp -implicitDefEqProofs only [go_sem])))
          refine .pure _ c29 rfl fun r hq _ => ?_
          subst hq
          (simp -implicitDefEqProofs only [go_sem, bA]; repeat (refine GO ?_; simp -implicitDefEqProofs only [go_sem, bA]))
end Yt
namespace Yt
open Go Go.Vc Go.Proofs Go.Proofs.Ytbnbngkbngmndaa
set_option linter.unusedSimpArgs false
set_option linter.unusedVariables false
mutual
theorem bulk_le {H : Type} {B : Nat} : ∀ d : DataW H, Rows.uptoBulk d ≤ B → bulkLe B d
  | .lit l, h => by
    cases l with
    | string bs => simp only [Rows.uptoBulk] at h; simp only [bulkLe]; omega
    | _ => simp only [bulkLe]
  | .nil, _ => by simp only [bulkLe]
  | .ptr d, _ => by simp only [bulkLe]
  | .slice elems spare, h => by
    simp only [Rows.uptoBulk] at h
    have h2 := bulks_len elems
    simp only [bulkLe]
    exact ⟨by omega, bulks_le elems (by omega)⟩
  | .agg ds, h => by
    simp only [Rows.uptoBulk] at h
    simp only [bulkLe]
    exact bulks_le ds (by omega)
  | .iface _ _, _ => by simp only [bulkLe]
  | .map _, _ => by simp only [bulkLe]
  | .held _, _ => by simp only [bulkLe]
theorem bulks_le {H : Type} {B : Nat} : ∀ ds : List (DataW H), Rows.uptoBulkAll ds ≤ B → bulkLe.bulkLes B ds
  | [], _ => trivial
  | d :: r, h => by
    simp only [Rows.uptoBulkAll] at h
    exact ⟨bulk_le d (by omega), bulks_le r (by omega)⟩
theorem bulk_pos {H : Type} : ∀ d : DataW H, 1 ≤ Rows.uptoBulk d
  | .lit l => by cases l <;> simp [Rows.uptoBulk]
  | .nil => by simp [Rows.uptoBulk]
  | .ptr d => by simp [Rows.uptoBulk]
  | .slice elems spare => by simp [Rows.uptoBulk]
  | .agg ds => by simp [Rows.uptoBulk]
  | .iface _ _ => by simp [Rows.uptoBulk]
  | .map _ => by simp [Rows.uptoBulk]
  | .held _ => by simp [Rows.uptoBulk]
theorem bulks_len {H : Type} : ∀ ds : List (DataW H), ds.length ≤ Rows.uptoBulkAll ds
  | [] => by simp
  | d :: r => by
    have := bulk_pos d
    have := bulks_len r
    simp only [Rows.uptoBulkAll, List.length_cons]; omega
end
theorem bound {H : Type} {l : List (DataW H)} (hk : Rows.uptoSmall H l = true) : bulkLe.bulkLes 1048576 l := bulks_le l (of_decide_eq_true hk)
theorem kids : Kids Try.prog (· < Try.prog.types.size) := kids_rows (by kernel_rfl) (by kernel_rfl)
def szOk (P : Program) : Bool := (List.range P.types.size).all fun t => match P.underlying t with | some (.slice e) => decide (0 < P.cellsOf e) | _ => true
theorem szOk_to {P : Program} (h : szOk P = true) {t e : TypeId} (ht : t < P.types.size) (hu : P.underlying t = some (.slice e)) : 0 < P.cellsOf e := by
  have := List.all_eq_true.1 h t (by simpa using ht)
  rw [hu] at this
  simpa using this
theorem sizes {t e : TypeId} (ht : t < Try.prog.types.size) (hu : Try.prog.underlying t = some (.slice e)) : 0 < Try.prog.cellsOf e := szOk_to (by kernel_rfl) ht hu
def i64 (n : Int) : Prop := -9223372036854775808 ≤ n ∧ n ≤ 9223372036854775807
theorem i64_of {n : Int} (h : (Lit.int .i64 n).wf = true) : i64 n := by
  simp [Lit.wf, IntKind.min, IntKind.max, IntKind.signed, IntKind.bits] at h
  exact h
def V.fit (v : V) : Prop := i64 v.k ∧ i64 v.i ∧ v.s.size ≤ 1048576
def It.fit (t : It) : Prop := t.row.length ≤ 1048576 ∧ i64 t.w
theorem cellsV : Try.prog.cellsOf 25 = 3 := by kernel_rfl
theorem cellsI : Try.prog.cellsOf 27 = 2 := by kernel_rfl
theorem cells1 : Try.prog.cellsOf 3 = 1 := by kernel_rfl
theorem cellsR : Try.prog.cellsOf 23 = 1 := by kernel_rfl
theorem cellsZ : Try.prog.cellsOf 28 = 1 := by kernel_rfl
theorem shVal {avs : List AV} (h : Sh Try.prog 1048576 25 avs) : ∃ v : V, avs = v.c ∧ v.fit := by
  obtain ⟨xs, rfl, hl, hf⟩ := sh_struct Try.underlying25 h
  match xs, hl with
  | [a, b, c], _ =>
    obtain ⟨k, rfl, hk⟩ := sh_int Try.underlying3 (hf 0 _ a rfl rfl)
    obtain ⟨i, rfl, hi⟩ := sh_int Try.underlying3 (hf 1 _ b rfl rfl)
    obtain ⟨s, rfl, hs⟩ := sh_str Try.underlying9 (hf 2 _ c rfl rfl)
    exact ⟨⟨k, i, s⟩, rfl, i64_of hk, i64_of hi, hs⟩
theorem shRow {avs : List AV} (h : Sh Try.prog 1048576 23 avs) : ∃ r : List V, avs = [rowA r] ∧ r.length ≤ 1048576 := by
  obtain ⟨es, rfl, hl, he⟩ := sh_slice Try.underlying23 h
  obtain ⟨l, rfl, _⟩ := map_choose fun x hx => shVal (he x hx)
  rw [cellsV]
  exact ⟨l, rfl, by simpa using hl⟩
theorem shItem {avs : List AV} (h : Sh Try.prog 1048576 27 avs) : ∃ t : It, avs = t.c ∧ t.fit := by
  obtain ⟨xs, rfl, hl, hf⟩ := sh_struct Try.underlying27 h
  match xs, hl with
  | [a, b], _ =>
    obtain ⟨r, rfl, hr⟩ := shRow (hf 0 _ a rfl rfl)
    obtain ⟨w, rfl, hw⟩ := sh_int Try.underlying3 (hf 1 _ b rfl rfl)
    exact ⟨⟨r, w⟩, rfl, hr, i64_of hw⟩
theorem shSet {avs : List AV} (h : Sh Try.prog 1048576 28 avs) : ∃ l : List It, avs = [setA l] ∧ l.length ≤ 1048576 ∧ ∀ t ∈ l, t.fit := by
  obtain ⟨es, rfl, hl, he⟩ := sh_slice Try.underlying28 h
  obtain ⟨l, rfl, h2⟩ := map_choose fun x hx => shItem (he x hx)
  rw [cellsI]
  exact ⟨l, rfl, by simpa using hl, h2⟩
theorem shSets {avs : List AV} (h : Sh Try.prog 1048576 50 avs) : ∃ l : List (List It), avs = [setsA l] ∧ l.length ≤ 1048576 ∧ ∀ z ∈ l, z.length ≤ 1048576 ∧ ∀ t ∈ z, t.fit := by
  obtain ⟨es, rfl, hl, he⟩ := sh_slice Try.underlying50 h
  obtain ⟨l, rfl, h2⟩ := map_choose (f := fun r => [setA r]) fun x hx => shSet (he x hx)
  rw [cellsZ]
  exact ⟨l, rfl, by simpa using hl, h2⟩
theorem cellsB : Try.prog.cellsOf 4 = 1 := by kernel_rfl
theorem shBools {avs : List AV} (h : Sh Try.prog 1048576 42 avs) : ∃ l : List Bool, avs = [.im 1 (l.map fun b => [bA b])] ∧ l.length ≤ 1048576 := by
  obtain ⟨es, rfl, hl, he⟩ := sh_slice Try.underlying42 h
  obtain ⟨l, rfl, h2⟩ := map_choose (f := fun b => [bA b]) (p := fun _ => True) fun x hx => by
    obtain ⟨n, rfl⟩ := sh_bool Try.underlying4 (he x hx)
    exact ⟨n, rfl, trivial⟩
  rw [cellsB]
  exact ⟨l, rfl, by simpa using hl⟩
theorem shInts {avs : List AV} (h : Sh Try.prog 1048576 32 avs) : ∃ l : List Int, avs = [intsL l] ∧ l.length ≤ 1048576 ∧ ∀ x ∈ l, i64 x := by
  obtain ⟨es, rfl, hl, he⟩ := sh_slice Try.underlying32 h
  obtain ⟨l, rfl, h2⟩ := map_choose (f := fun n => [iA n]) (p := i64) fun x hx => by
    obtain ⟨n, rfl, hn⟩ := sh_int Try.underlying3 (he x hx)
    exact ⟨n, rfl, i64_of hn⟩
  rw [cells1]
  exact ⟨l, rfl, by simpa using hl, h2⟩
theorem shPred {avs : List AV} (h : Sh Try.prog 1048576 55 avs) : ∃ p : Pr, avs = p.c ∧ p.val.fit ∧ i64 p.kind ∧ i64 p.col ∧ i64 p.other := by
  obtain ⟨xs, rfl, hl, hf⟩ := sh_struct Try.underlying55 h
  match xs, hl with
  | [a, b, c, d], _ =>
    obtain ⟨k, rfl, hk⟩ := sh_int Try.underlying3 (hf 0 _ a rfl rfl)
    obtain ⟨i, rfl, hi⟩ := sh_int Try.underlying3 (hf 1 _ b rfl rfl)
    obtain ⟨o, rfl, ho⟩ := sh_int Try.underlying3 (hf 2 _ c rfl rfl)
    obtain ⟨v, rfl, hv⟩ := shVal (hf 3 _ d rfl rfl)
    exact ⟨⟨k, i, o, v⟩, rfl, hv, i64_of hk, i64_of hi, i64_of ho⟩
theorem own : ownKnob Try.prog.godebug = none := by kernel_rfl
def signs : List Char := [Char.ofNat 104, Char.ofNat 97, Char.ofNat 114, Char.ofNat 110, Char.ofNat 101, Char.ofNat 115, Char.ofNat 115, Char.ofNat 32, Char.ofNat 55, Char.ofNat 97, Char.ofNat 99, Char.ofNat 53, Char.ofNat 53, Char.ofNat 101, Char.ofNat 99, Char.ofNat 99, Char.ofNat 52, Char.ofNat 56, Char.ofNat 55, Char.ofNat 54, Char.ofNat 48, Char.ofNat 52, Char.ofNat 56, Char.ofNat 56, Char.ofNat 97, Char.ofNat 54, Char.ofNat 55, Char.ofNat 57, Char.ofNat 100, Char.ofNat 49, Char.ofNat 99, Char.ofNat 56, Char.ofNat 101, Char.ofNat 97, Char.ofNat 56, Char.ofNat 55, Char.ofNat 56, Char.ofNat 54, Char.ofNat 98, Char.ofNat 101, Char.ofNat 100, Char.ofNat 52, Char.ofNat 56, Char.ofNat 56, Char.ofNat 100, Char.ofNat 100, Char.ofNat 48, Char.ofNat 100, Char.ofNat 54, Char.ofNat 51, Char.ofNat 99, Char.ofNat 51, Char.ofNat 53, Char.ofNat 48, Char.ofNat 57, Char.ofNat 102, Char.ofNat 54, Char.ofNat 55, Char.ofNat 48, Char.ofNat 51, Char.ofNat 102, Char.ofNat 55, Char.ofNat 101, Char.ofNat 55, Char.ofNat 98, Char.ofNat 53, Char.ofNat 102, Char.ofNat 52, Char.ofNat 53, Char.ofNat 99, Char.ofNat 100, Char.ofNat 100, Char.ofNat 32, Char.ofNat 99, Char.ofNat 117, Char.ofNat 116, Char.ofNat 32, Char.ofNat 97, Char.ofNat 116, Char.ofNat 32, Char.ofNat 114, Char.ofNat 97, Char.ofNat 100, Char.ofNat 100, Char.ofNat 108, Char.ofNat 101, Char.ofNat 47, Char.ofNat 114, Char.ofNat 97, Char.ofNat 100, Char.ofNat 100, Char.ofNat 108, Char.ofNat 101, Char.ofNat 108, Char.ofNat 97, Char.ofNat 119, Char.ofNat 49, Char.ofNat 55, Char.ofNat 46, Char.ofNat 74, Char.ofNat 111, Char.ofNat 105, Char.ofNat 110, Char.ofNat 87, Char.ofNat 105, Char.ofNat 100, Char.ofNat 101, Char.ofNat 32, Char.ofNat 114, Char.ofNat 97, Char.ofNat 100, Char.ofNat 100, Char.ofNat 108, Char.ofNat 101, Char.ofNat 47, Char.ofNat 114, Char.ofNat 97, Char.ofNat 100, Char.ofNat 100, Char.ofNat 108, Char.ofNat 101, Char.ofNat 108, Char.ofNat 97, Char.ofNat 119, Char.ofNat 49, Char.ofNat 56, Char.ofNat 46, Char.ofNat 68, Char.ofNat 105, Char.ofNat 115, Char.ofNat 116, Char.ofNat 69, Char.ofNat 120, Char.ofNat 97, Char.ofNat 99, Char.ofNat 116, Char.ofNat 32, Char.ofNat 114, Char.ofNat 97, Char.ofNat 100, Char.ofNat 100, Char.ofNat 108, Char.ofNat 101, Char.ofNat 47, Char.ofNat 114, Char.ofNat 97, Char.ofNat 100, Char.ofNat 100, Char.ofNat 108, Char.ofNat 101, Char.ofNat 108, Char.ofNat 97, Char.ofNat 119, Char.ofNat 49, Char.ofNat 56, Char.ofNat 46, Char.ofNat 68, Char.ofNat 105, Char.ofNat 115, Char.ofNat 116, Char.ofNat 83, Char.ofNat 116, Char.ofNat 101, Char.ofNat 112, Char.ofNat 115, Char.ofNat 32, Char.ofNat 114, Char.ofNat 97, Char.ofNat 100, Char.ofNat 100, Char.ofNat 108, Char.ofNat 101, Char.ofNat 47, Char.ofNat 114, Char.ofNat 97, Char.ofNat 100, Char.ofNat 100, Char.ofNat 108, Char.ofNat 101, Char.ofNat 108, Char.ofNat 97, Char.ofNat 119, Char.ofNat 49, Char.ofNat 55, Char.ofNat 46, Char.ofNat 74, Char.ofNat 111, Char.ofNat 105, Char.ofNat 110, Char.ofNat 82, Char.ofNat 111, Char.ofNat 119, Char.ofNat 115, Char.ofNat 32, Char.ofNat 114, Char.ofNat 97, Char.ofNat 100, Char.ofNat 100, Char.ofNat 108, Char.ofNat 101, Char.ofNat 47, Char.ofNat 114, Char.ofNat 97, Char.ofNat 100, Char.ofNat 100, Char.ofNat 108, Char.ofNat 101, Char.ofNat 108, Char.ofNat 97, Char.ofNat 119, Char.ofNat 49, Char.ofNat 56, Char.ofNat 46, Char.ofNat 68, Char.ofNat 105, Char.ofNat 115, Char.ofNat 116, Char.ofNat 65, Char.ofNat 100, Char.ofNat 100, Char.ofNat 115, Char.ofNat 32, Char.ofNat 114, Char.ofNat 97, Char.ofNat 100, Char.ofNat 100, Char.ofNat 108, Char.ofNat 101, Char.ofNat 47, Char.ofNat 114, Char.ofNat 97, Char.ofNat 100, Char.ofNat 100, Char.ofNat 108, Char.ofNat 101, Char.ofNat 108, Char.ofNat 97, Char.ofNat 119, Char.ofNat 49, Char.ofNat 55, Char.ofNat 46, Char.ofNat 74, Char.ofNat 111, Char.ofNat 105, Char.ofNat 110, Char.ofNat 83, Char.ofNat 119, Char.ofNat 97, Char.ofNat 112, Char.ofNat 115, Char.ofNat 32, Char.ofNat 114, Char.ofNat 97, Char.ofNat 100, Char.ofNat 100, Char.ofNat 108, Char.ofNat 101, Char.ofNat 47, Char.ofNat 114, Char.ofNat 97, Char.ofNat 100, Char.ofNat 100, Char.ofNat 108, Char.ofNat 101, Char.ofNat 108, Char.ofNat 97, Char.ofNat 119, Char.ofNat 49, Char.ofNat 56, Char.ofNat 46, Char.ofNat 68, Char.ofNat 105, Char.ofNat 115, Char.ofNat 116, Char.ofNat 70, Char.ofNat 105, Char.ofNat 108, Char.ofNat 116, Char.ofNat 101, Char.ofNat 114, Char.ofNat 115, Char.ofNat 32, Char.ofNat 114, Char.ofNat 97, Char.ofNat 100, Char.ofNat 100, Char.ofNat 108, Char.ofNat 101, Char.ofNat 47, Char.ofNat 114, Char.ofNat 97, Char.ofNat 100, Char.ofNat 100, Char.ofNat 108, Char.ofNat 101, Char.ofNat 108, Char.ofNat 97, Char.ofNat 119, Char.ofNat 49, Char.ofNat 54, Char.ofNat 46, Char.ofNat 76, Char.ofNat 105, Char.ofNat 110, Char.ofNat 84, Char.ofNat 119, Char.ofNat 105, Char.ofNat 99, Char.ofNat 101, Char.ofNat 32, Char.ofNat 114, Char.ofNat 97, Char.ofNat 100, Char.ofNat 100, Char.ofNat 108, Char.ofNat 101, Char.ofNat 47, Char.ofNat 114, Char.ofNat 97, Char.ofNat 100, Char.ofNat 100, Char.ofNat 108, Char.ofNat 101, Char.ofNat 108, Char.ofNat 97, Char.ofNat 119, Char.ofNat 49, Char.ofNat 54, Char.ofNat 46, Char.ofNat 76, Char.ofNat 105, Char.ofNat 110, Char.ofNat 87, Char.ofNat 114, Char.ofNat 97, Char.ofNat 112, Char.ofNat 115, Char.ofNat 32, Char.ofNat 114, Char.ofNat 97, Char.ofNat 100, Char.ofNat 100, Char.ofNat 108, Char.ofNat 101, Char.ofNat 47, Char.ofNat 114, Char.ofNat 97, Char.ofNat 100, Char.ofNat 100, Char.ofNat 108, Char.ofNat 101, Char.ofNat 108, Char.ofNat 97, Char.ofNat 119, Char.ofNat 49, Char.ofNat 54, Char.ofNat 46, Char.ofNat 76, Char.ofNat 105, Char.ofNat 110, Char.ofNat 69, Char.ofNat 120, Char.ofNat 97, Char.ofNat 99, Char.ofNat 116, Char.ofNat 32, Char.ofNat 114, Char.ofNat 97, Char.ofNat 100, Char.ofNat 100, Char.ofNat 108, Char.ofNat 101, Char.ofNat 47, Char.ofNat 114, Char.ofNat 97, Char.ofNat 100, Char.ofNat 100, Char.ofNat 108, Char.ofNat 101, Char.ofNat 108, Char.ofNat 97, Char.ofNat 119, Char.ofNat 49, Char.ofNat 54, Char.ofNat 46, Char.ofNat 76, Char.ofNat 105, Char.ofNat 110, Char.ofNat 83, Char.ofNat 117, Char.ofNat 109, Char.ofNat 115, Char.ofNat 32, Char.ofNat 114, Char.ofNat 97, Char.ofNat 100, Char.ofNat 100, Char.ofNat 108, Char.ofNat 101, Char.ofNat 47, Char.ofNat 114, Char.ofNat 97, Char.ofNat 100, Char.ofNat 100, Char.ofNat 108, Char.ofNat 101, Char.ofNat 108, Char.ofNat 97, Char.ofNat 119, Char.ofNat 49, Char.ofNat 54, Char.ofNat 46, Char.ofNat 76, Char.ofNat 105, Char.ofNat 110, Char.ofNat 79, Char.ofNat 102, Char.ofNat 102, Char.ofNat 32, Char.ofNat 114, Char.ofNat 97, Char.ofNat 100, Char.ofNat 100, Char.ofNat 108, Char.ofNat 101, Char.ofNat 47, Char.ofNat 114, Char.ofNat 97, Char.ofNat 100, Char.ofNat 100, Char.ofNat 108, Char.ofNat 101, Char.ofNat 108, Char.ofNat 97, Char.ofNat 119, Char.ofNat 49, Char.ofNat 54, Char.ofNat 46, Char.ofNat 76, Char.ofNat 105, Char.ofNat 110, Char.ofNat 82, Char.ofNat 111, Char.ofNat 119, Char.ofNat 115, Char.ofNat 32, Char.ofNat 114, Char.ofNat 97, Char.ofNat 100, Char.ofNat 100, Char.ofNat 108, Char.ofNat 101, Char.ofNat 47, Char.ofNat 114, Char.ofNat 97, Char.ofNat 100, Char.ofNat 100, Char.ofNat 108, Char.ofNat 101, Char.ofNat 108, Char.ofNat 97, Char.ofNat 119, Char.ofNat 49, Char.ofNat 55, Char.ofNat 46, Char.ofNat 74, Char.ofNat 111, Char.ofNat 105, Char.ofNat 110, Char.ofNat 70, Char.ofNat 105, Char.ofNat 108, Char.ofNat 116, Char.ofNat 101, Char.ofNat 114, Char.ofNat 115, Char.ofNat 32, Char.ofNat 114, Char.ofNat 97, Char.ofNat 100, Char.ofNat 100, Char.ofNat 108, Char.ofNat 101, Char.ofNat 47, Char.ofNat 114, Char.ofNat 97, Char.ofNat 100, Char.ofNat 100, Char.ofNat 108, Char.ofNat 101, Char.ofNat 108, Char.ofNat 97, Char.ofNat 119, Char.ofNat 49, Char.ofNat 55, Char.ofNat 46, Char.ofNat 74, Char.ofNat 111, Char.ofNat 105, Char.ofNat 110, Char.ofNat 69, Char.ofNat 120, Char.ofNat 97, Char.ofNat 99, Char.ofNat 116, Char.ofNat 32, Char.ofNat 114, Char.ofNat 97, Char.ofNat 100, Char.ofNat 100, Char.ofNat 108, Char.ofNat 101, Char.ofNat 47, Char.ofNat 114, Char.ofNat 97, Char.ofNat 100, Char.ofNat 100, Char.ofNat 108, Char.ofNat 101, Char.ofNat 108, Char.ofNat 97, Char.ofNat 119, Char.ofNat 49, Char.ofNat 55, Char.ofNat 46, Char.ofNat 74, Char.ofNat 111, Char.ofNat 105, Char.ofNat 110, Char.ofNat 80, Char.ofNat 97, Char.ofNat 114, Char.ofNat 116, Char.ofNat 115, Char.ofNat 32, Char.ofNat 114, Char.ofNat 97, Char.ofNat 100, Char.ofNat 100, Char.ofNat 108, Char.ofNat 101, Char.ofNat 47, Char.ofNat 114, Char.ofNat 97, Char.ofNat 100, Char.ofNat 100, Char.ofNat 108, Char.ofNat 101, Char.ofNat 108, Char.ofNat 97, Char.ofNat 119, Char.ofNat 49, Char.ofNat 57, Char.ofNat 46, Char.ofNat 65, Char.ofNat 103, Char.ofNat 103, Char.ofNat 84, Char.ofNat 101, Char.ofNat 108, Char.ofNat 108, Char.ofNat 115, Char.ofNat 32, Char.ofNat 114, Char.ofNat 97, Char.ofNat 100, Char.ofNat 100, Char.ofNat 108, Char.ofNat 101, Char.ofNat 47, Char.ofNat 114, Char.ofNat 97, Char.ofNat 100, Char.ofNat 100, Char.ofNat 108, Char.ofNat 101, Char.ofNat 108, Char.ofNat 97, Char.ofNat 119, Char.ofNat 49, Char.ofNat 57, Char.ofNat 46, Char.ofNat 65, Char.ofNat 103, Char.ofNat 103, Char.ofNat 84, Char.ofNat 111, Char.ofNat 116, Char.ofNat 97, Char.ofNat 108, Char.ofNat 32, Char.ofNat 114, Char.ofNat 97, Char.ofNat 100, Char.ofNat 100, Char.ofNat 108, Char.ofNat 101, Char.ofNat 47, Char.ofNat 114, Char.ofNat 97, Char.ofNat 100, Char.ofNat 100, Char.ofNat 108, Char.ofNat 101, Char.ofNat 108, Char.ofNat 97, Char.ofNat 119, Char.ofNat 49, Char.ofNat 57, Char.ofNat 46, Char.ofNat 65, Char.ofNat 103, Char.ofNat 103, Char.ofNat 79, Char.ofNat 118, Char.ofNat 101, Char.ofNat 114, Char.ofNat 32, Char.ofNat 114, Char.ofNat 97, Char.ofNat 100, Char.ofNat 100, Char.ofNat 108, Char.ofNat 101, Char.ofNat 47, Char.ofNat 114, Char.ofNat 97, Char.ofNat 100, Char.ofNat 100, Char.ofNat 108, Char.ofNat 101, Char.ofNat 108, Char.ofNat 97, Char.ofNat 119, Char.ofNat 49, Char.ofNat 57, Char.ofNat 46, Char.ofNat 65, Char.ofNat 103, Char.ofNat 103, Char.ofNat 83, Char.ofNat 111, Char.ofNat 109, Char.ofNat 101, Char.ofNat 32, Char.ofNat 114, Char.ofNat 97, Char.ofNat 100, Char.ofNat 100, Char.ofNat 108, Char.ofNat 101, Char.ofNat 47, Char.ofNat 114, Char.ofNat 97, Char.ofNat 100, Char.ofNat 100, Char.ofNat 108, Char.ofNat 101, Char.ofNat 108, Char.ofNat 97, Char.ofNat 119, Char.ofNat 49, Char.ofNat 57, Char.ofNat 46, Char.ofNat 65, Char.ofNat 103, Char.ofNat 103, Char.ofNat 75, Char.ofNat 101, Char.ofNat 121, Char.ofNat 115, Char.ofNat 32, Char.ofNat 114, Char.ofNat 97, Char.ofNat 100, Char.ofNat 100, Char.ofNat 108, Char.ofNat 101, Char.ofNat 47, Char.ofNat 114, Char.ofNat 97, Char.ofNat 100, Char.ofNat 100, Char.ofNat 108, Char.ofNat 101, Char.ofNat 108, Char.ofNat 97, Char.ofNat 119, Char.ofNat 49, Char.ofNat 57, Char.ofNat 46, Char.ofNat 65, Char.ofNat 103, Char.ofNat 103, Char.ofNat 69, Char.ofNat 120, Char.ofNat 97, Char.ofNat 99, Char.ofNat 116, Char.ofNat 32, Char.ofNat 114, Char.ofNat 97, Char.ofNat 100, Char.ofNat 100, Char.ofNat 108, Char.ofNat 101, Char.ofNat 47, Char.ofNat 114, Char.ofNat 97, Char.ofNat 100, Char.ofNat 100, Char.ofNat 108, Char.ofNat 101, Char.ofNat 108, Char.ofNat 97, Char.ofNat 119, Char.ofNat 49, Char.ofNat 57, Char.ofNat 46, Char.ofNat 65, Char.ofNat 103, Char.ofNat 103, Char.ofNat 65, Char.ofNat 100, Char.ofNat 100, Char.ofNat 115]
theorem words_eq : headIs Try.prog ([Char.ofNat 99, Char.ofNat 117, Char.ofNat 116] :: [[Char.ofNat 97, Char.ofNat 116], [Char.ofNat 114, Char.ofNat 97, Char.ofNat 100, Char.ofNat 100, Char.ofNat 108, Char.ofNat 101, Char.ofNat 47, Char.ofNat 114, Char.ofNat 97, Char.ofNat 100, Char.ofNat 100, Char.ofNat 108, Char.ofNat 101, Char.ofNat 108, Char.ofNat 97, Char.ofNat 119, Char.ofNat 49, Char.ofNat 55, Char.ofNat 46, Char.ofNat 74, Char.ofNat 111, Char.ofNat 105, Char.ofNat 110, Char.ofNat 87, Char.ofNat 105, Char.ofNat 100, Char.ofNat 101], [Char.ofNat 114, Char.ofNat 97, Char.ofNat 100, Char.ofNat 100, Char.ofNat 108, Char.ofNat 101, Char.ofNat 47, Char.ofNat 114, Char.ofNat 97, Char.ofNat 100, Char.ofNat 100, Char.ofNat 108, Char.ofNat 101, Char.ofNat 108, Char.ofNat 97, Char.ofNat 119, Char.ofNat 49, Char.ofNat 56, Char.ofNat 46, Char.ofNat 68, Char.ofNat 105, Char.ofNat 115, Char.ofNat 116, Char.ofNat 69, Char.ofNat 120, Char.ofNat 97, Char.ofNat 99, Char.ofNat 116], [Char.ofNat 114, Char.ofNat 97, Char.ofNat 100, Char.ofNat 100, Char.ofNat 108, Char.ofNat 101, Char.ofNat 47, Char.ofNat 114, Char.ofNat 97, Char.ofNat 100, Char.ofNat 100, Char.ofNat 108, Char.ofNat 101, Char.ofNat 108, Char.ofNat 97, Char.ofNat 119, Char.ofNat 49, Char.ofNat 56, Char.ofNat 46, Char.ofNat 68, Char.ofNat 105, Char.ofNat 115, Char.ofNat 116, Char.ofNat 83, Char.ofNat 116, Char.ofNat 101, Char.ofNat 112, Char.ofNat 115], [Char.ofNat 114, Char.ofNat 97, Char.ofNat 100, Char.ofNat 100, Char.ofNat 108, Char.ofNat 101, Char.ofNat 47, Char.ofNat 114, Char.ofNat 97, Char.ofNat 100, Char.ofNat 100, Char.ofNat 108, Char.ofNat 101, Char.ofNat 108, Char.ofNat 97, Char.ofNat 119, Char.ofNat 49, Char.ofNat 55, Char.ofNat 46, Char.ofNat 74, Char.ofNat 111, Char.ofNat 105, Char.ofNat 110, Char.ofNat 82, Char.ofNat 111, Char.ofNat 119, Char.ofNat 115], [Char.ofNat 114, Char.ofNat 97, Char.ofNat 100, Char.ofNat 100, Char.ofNat 108, Char.ofNat 101, Char.ofNat 47, Char.ofNat 114, Char.ofNat 97, Char.ofNat 100, Char.ofNat 100, Char.ofNat 108, Char.ofNat 101, Char.ofNat 108, Char.ofNat 97, Char.ofNat 119, Char.ofNat 49, Char.ofNat 56, Char.ofNat 46, Char.ofNat 68, Char.ofNat 105, Char.ofNat 115, Char.ofNat 116, Char.ofNat 65, Char.ofNat 100, Char.ofNat 100, Char.ofNat 115], [Char.ofNat 114, Char.ofNat 97, Char.ofNat 100, Char.ofNat 100, Char.ofNat 108, Char.ofNat 101, Char.ofNat 47, Char.ofNat 114, Char.ofNat 97, Char.ofNat 100, Char.ofNat 100, Char.ofNat 108, Char.ofNat 101, Char.ofNat 108, Char.ofNat 97, Char.ofNat 119, Char.ofNat 49, Char.ofNat 55, Char.ofNat 46, Char.ofNat 74, Char.ofNat 111, Char.ofNat 105, Char.ofNat 110, Char.ofNat 83, Char.ofNat 119, Char.ofNat 97, Char.ofNat 112, Char.ofNat 115], [Char.ofNat 114, Char.ofNat 97, Char.ofNat 100, Char.ofNat 100, Char.ofNat 108, Char.ofNat 101, Char.ofNat 47, Char.ofNat 114, Char.ofNat 97, Char.ofNat 100, Char.ofNat 100, Char.ofNat 108, Char.ofNat 101, Char.ofNat 108, Char.ofNat 97, Char.ofNat 119, Char.ofNat 49, Char.ofNat 56, Char.ofNat 46, Char.ofNat 68, Char.ofNat 105, Char.ofNat 115, Char.ofNat 116, Char.ofNat 70, Char.ofNat 105, Char.ofNat 108, Char.ofNat 116, Char.ofNat 101, Char.ofNat 114, Char.ofNat 115], [Char.ofNat 114, Char.ofNat 97, Char.ofNat 100, Char.ofNat 100, Char.ofNat 108, Char.ofNat 101, Char.ofNat 47, Char.ofNat 114, Char.ofNat 97, Char.ofNat 100, Char.ofNat 100, Char.ofNat 108, Char.ofNat 101, Char.ofNat 108, Char.ofNat 97, Char.ofNat 119, Char.ofNat 49, Char.ofNat 54, Char.ofNat 46, Char.ofNat 76, Char.ofNat 105, Char.ofNat 110, Char.ofNat 84, Char.ofNat 119, Char.ofNat 105, Char.ofNat 99, Char.ofNat 101], [Char.ofNat 114, Char.ofNat 97, Char.ofNat 100, Char.ofNat 100, Char.ofNat 108, Char.ofNat 101, Char.ofNat 47, Char.ofNat 114, Char.ofNat 97, Char.ofNat 100, Char.ofNat 100, Char.ofNat 108, Char.ofNat 101, Char.ofNat 108, Char.ofNat 97, Char.ofNat 119, Char.ofNat 49, Char.ofNat 54, Char.ofNat 46, Char.ofNat 76, Char.ofNat 105, Char.ofNat 110, Char.ofNat 87, Char.ofNat 114, Char.ofNat 97, Char.ofNat 112, Char.ofNat 115], [Char.ofNat 114, Char.ofNat 97, Char.ofNat 100, Char.ofNat 100, Char.ofNat 108, Char.ofNat 101, Char.ofNat 47, Char.ofNat 114, Char.ofNat 97, Char.ofNat 100, Char.ofNat 100, Char.ofNat 108, Char.ofNat 101, Char.ofNat 108, Char.ofNat 97, Char.ofNat 119, Char.ofNat 49, Char.ofNat 54, Char.ofNat 46, Char.ofNat 76, Char.ofNat 105, Char.ofNat 110, Char.ofNat 69, Char.ofNat 120, Char.ofNat 97, Char.ofNat 99, Char.ofNat 116], [Char.ofNat 114, Char.ofNat 97, Char.ofNat 100, Char.ofNat 100, Char.ofNat 108, Char.ofNat 101, Char.ofNat 47, Char.ofNat 114, Char.ofNat 97, Char.ofNat 100, Char.ofNat 100, Char.ofNat 108, Char.ofNat 101, Char.ofNat 108, Char.ofNat 97, Char.ofNat 119, Char.ofNat 49, Char.ofNat 54, Char.ofNat 46, Char.ofNat 76, Char.ofNat 105, Char.ofNat 110, Char.ofNat 83, Char.ofNat 117, Char.ofNat 109, Char.ofNat 115], [Char.ofNat 114, Char.ofNat 97, Char.ofNat 100, Char.ofNat 100, Char.ofNat 108, Char.ofNat 101, Char.ofNat 47, Char.ofNat 114, Char.ofNat 97, Char.ofNat 100, Char.ofNat 100, Char.ofNat 108, Char.ofNat 101, Char.ofNat 108, Char.ofNat 97, Char.ofNat 119, Char.ofNat 49, Char.ofNat 54, Char.ofNat 46, Char.ofNat 76, Char.ofNat 105, Char.ofNat 110, Char.ofNat 79, Char.ofNat 102, Char.ofNat 102], [Char.ofNat 114, Char.ofNat 97, Char.ofNat 100, Char.ofNat 100, Char.ofNat 108, Char.ofNat 101, Char.ofNat 47, Char.ofNat 114, Char.ofNat 97, Char.ofNat 100, Char.ofNat 100, Char.ofNat 108, Char.ofNat 101, Char.ofNat 108, Char.ofNat 97, Char.ofNat 119, Char.ofNat 49, Char.ofNat 54, Char.ofNat 46, Char.ofNat 76, Char.ofNat 105, Char.ofNat 110, Char.ofNat 82, Char.ofNat 111, Char.ofNat 119, Char.ofNat 115], [Char.ofNat 114, Char.ofNat 97, Char.ofNat 100, Char.ofNat 100, Char.ofNat 108, Char.ofNat 101, Char.ofNat 47, Char.ofNat 114, Char.ofNat 97, Char.ofNat 100, Char.ofNat 100, Char.ofNat 108, Char.ofNat 101, Char.ofNat 108, Char.ofNat 97, Char.ofNat 119, Char.ofNat 49, Char.ofNat 55, Char.ofNat 46, Char.ofNat 74, Char.ofNat 111, Char.ofNat 105, Char.ofNat 110, Char.ofNat 70, Char.ofNat 105, Char.ofNat 108, Char.ofNat 116, Char.ofNat 101, Char.ofNat 114, Char.ofNat 115], [Char.ofNat 114, Char.ofNat 97, Char.ofNat 100, Char.ofNat 100, Char.ofNat 108, Char.ofNat 101, Char.ofNat 47, Char.ofNat 114, Char.ofNat 97, Char.ofNat 100, Char.ofNat 100, Char.ofNat 108, Char.ofNat 101, Char.ofNat 108, Char.ofNat 97, Char.ofNat 119, Char.ofNat 49, Char.ofNat 55, Char.ofNat 46, Char.ofNat 74, Char.ofNat 111, Char.ofNat 105, Char.ofNat 110, Char.ofNat 69, Char.ofNat 120, Char.ofNat 97, Char.ofNat 99, Char.ofNat 116], [Char.ofNat 114, Char.ofNat 97, Char.ofNat 100, Char.ofNat 100, Char.ofNat 108, Char.ofNat 101, Char.ofNat 47, Char.ofNat 114, Char.ofNat 97, Char.ofNat 100, Char.ofNat 100, Char.ofNat 108, Char.ofNat 101, Char.ofNat 108, Char.ofNat 97, Char.ofNat 119, Char.ofNat 49, Char.ofNat 55, Char.ofNat 46, Char.ofNat 74, Char.ofNat 111, Char.ofNat 105, Char.ofNat 110, Char.ofNat 80, Char.ofNat 97, Char.ofNat 114, Char.ofNat 116, Char.ofNat 115], [Char.ofNat 114, Char.ofNat 97, Char.ofNat 100, Char.ofNat 100, Char.ofNat 108, Char.ofNat 101, Char.ofNat 47, Char.ofNat 114, Char.ofNat 97, Char.ofNat 100, Char.ofNat 100, Char.ofNat 108, Char.ofNat 101, Char.ofNat 108, Char.ofNat 97, Char.ofNat 119, Char.ofNat 49, Char.ofNat 57, Char.ofNat 46, Char.ofNat 65, Char.ofNat 103, Char.ofNat 103, Char.ofNat 84, Char.ofNat 101, Char.ofNat 108, Char.ofNat 108, Char.ofNat 115], [Char.ofNat 114, Char.ofNat 97, Char.ofNat 100, Char.ofNat 100, Char.ofNat 108, Char.ofNat 101, Char.ofNat 47, Char.ofNat 114, Char.ofNat 97, Char.ofNat 100, Char.ofNat 100, Char.ofNat 108, Char.ofNat 101, Char.ofNat 108, Char.ofNat 97, Char.ofNat 119, Char.ofNat 49, Char.ofNat 57, Char.ofNat 46, Char.ofNat 65, Char.ofNat 103, Char.ofNat 103, Char.ofNat 84, Char.ofNat 111, Char.ofNat 116, Char.ofNat 97, Char.ofNat 108], [Char.ofNat 114, Char.ofNat 97, Char.ofNat 100, Char.ofNat 100, Char.ofNat 108, Char.ofNat 101, Char.ofNat 47, Char.ofNat 114, Char.ofNat 97, Char.ofNat 100, Char.ofNat 100, Char.ofNat 108, Char.ofNat 101, Char.ofNat 108, Char.ofNat 97, Char.ofNat 119, Char.ofNat 49, Char.ofNat 57, Char.ofNat 46, Char.ofNat 65, Char.ofNat 103, Char.ofNat 103, Char.ofNat 79, Char.ofNat 118, Char.ofNat 101, Char.ofNat 114], [Char.ofNat 114, Char.ofNat 97, Char.ofNat 100, Char.ofNat 100, Char.ofNat 108, Char.ofNat 101, Char.ofNat 47, Char.ofNat 114, Char.ofNat 97, Char.ofNat 100, Char.ofNat 100, Char.ofNat 108, Char.ofNat 101, Char.ofNat 108, Char.ofNat 97, Char.ofNat 119, Char.ofNat 49, Char.ofNat 57, Char.ofNat 46, Char.ofNat 65, Char.ofNat 103, Char.ofNat 103, Char.ofNat 83, Char.ofNat 111, Char.ofNat 109, Char.ofNat 101], [Char.ofNat 114, Char.ofNat 97, Char.ofNat 100, Char.ofNat 100, Char.ofNat 108, Char.ofNat 101, Char.ofNat 47, Char.ofNat 114, Char.ofNat 97, Char.ofNat 100, Char.ofNat 100, Char.ofNat 108, Char.ofNat 101, Char.ofNat 108, Char.ofNat 97, Char.ofNat 119, Char.ofNat 49, Char.ofNat 57, Char.ofNat 46, Char.ofNat 65, Char.ofNat 103, Char.ofNat 103, Char.ofNat 75, Char.ofNat 101, Char.ofNat 121, Char.ofNat 115], [Char.ofNat 114, Char.ofNat 97, Char.ofNat 100, Char.ofNat 100, Char.ofNat 108, Char.ofNat 101, Char.ofNat 47, Char.ofNat 114, Char.ofNat 97, Char.ofNat 100, Char.ofNat 100, Char.ofNat 108, Char.ofNat 101, Char.ofNat 108, Char.ofNat 97, Char.ofNat 119, Char.ofNat 49, Char.ofNat 57, Char.ofNat 46, Char.ofNat 65, Char.ofNat 103, Char.ofNat 103, Char.ofNat 69, Char.ofNat 120, Char.ofNat 97, Char.ofNat 99, Char.ofNat 116], [Char.ofNat 114, Char.ofNat 97, Char.ofNat 100, Char.ofNat 100, Char.ofNat 108, Char.ofNat 101, Char.ofNat 47, Char.ofNat 114, Char.ofNat 97, Char.ofNat 100, Char.ofNat 100, Char.ofNat 108, Char.ofNat 101, Char.ofNat 108, Char.ofNat 97, Char.ofNat 119, Char.ofNat 49, Char.ofNat 57, Char.ofNat 46, Char.ofNat 65, Char.ofNat 103, Char.ofNat 103, Char.ofNat 65, Char.ofNat 100, Char.ofNat 100, Char.ofNat 115]]) := head_of (l := signs) (by kernel_rfl) (by kernel_rfl)
theorem laid : laidOutB Try.prog = true := by kernel_rfl
theorem rowed : mapsRowed Try.prog = true := by kernel_rfl
theorem heard : Try.prog.stopsHeard = true := by kernel_rfl
theorem plain : Try.prog.plainKeys = true := by kernel_rfl
theorem doorRows : Try.prog.doorRows = [] := by kernel_rfl
theorem laysLater : Try.prog.laysLater = false := by kernel_rfl
theorem bearsReflect : Try.prog.bearsReflect = false := by kernel_rfl
theorem cutMade : Try.prog.make = some .cut := make_of words_eq (by kernel_rfl) (by kernel_rfl)
theorem cutLifts : Try.prog.liftsFinal = false := lifts_of words_eq (by kernel_rfl) (by kernel_rfl) (by kernel_rfl)
theorem cutEnter : Try.prog.mayEnter = true := enter_of words_eq (by kernel_rfl) (by kernel_rfl) (by kernel_rfl) (by kernel_rfl) doorRows laysLater bearsReflect
end Yt
namespace Yt
open Go Go.Vc Go.Proofs
set_option maxRecDepth 10000
set_option maxHeartbeats 16000000
set_option linter.unusedSimpArgs false
set_option linter.unusedVariables false
theorem c124 (n : Int) (h : -9223372036854775807 ≤ n ∧ n ≤ 9223372036854775807) : Spec0 Try.prog 124 [iA n] (· = iA n.natAbs) := by
  refine spec0_of_vc tabOk elems ord124 Try.func124 rfl (rl := [.tmp 2]) rfl (by kernel_rfl) rfl ?_
  have w1 : IntKind.i64.wrap (0 - n) = -n := by rw [wrap_i64] <;> omega
  (simp -implicitDefEqProofs only [go_sem, iA, w1]; repeat (refine GO ?_; simp -implicitDefEqProofs only [go_sem, iA, w1]))
  have e : max n (-n) = n.natAbs := by omega
  rw [e]
def prodOk (a b k : Int) : Bool := inB (a * b) (-k) k
theorem c78 (a b k : Int) (ha : -4611686018427387904 ≤ a ∧ a ≤ 4611686018427387904) (hb : -4611686018427387904 ≤ b ∧ b ≤ 4611686018427387904) (hk : 0 ≤ k ∧ k ≤ 4611686018427387904) :
    Spec0 Try.prog 78 [iA a, iA b, iA k] (· = .tu [iA (if prodOk a b k = true then a * b else 0), bA (prodOk a b k)]) := by
  have z : ∀ c d : Int, c = 0 ∨ d = 0 → AV.tu [.pr (.int .i64 0), .pr (.bool true)] = .tu [iA (if prodOk c d k = true then c * d else 0), bA (prodOk c d k)] := fun c d h => by
    have h0 : c * d = 0 := by rcases h with rfl | rfl <;> simp
    have : prodOk c d k = true := by simp [prodOk, inB, h0]; omega
    rw [this, h0]; rfl
  refine spec0_of_vc tabOk elems ord78 Try.func78 rfl (rl := [.tmp 6, .tmp 7]) rfl (by kernel_rfl) rfl ?_
  (simp -implicitDefEqProofs only [go_sem, iA]; repeat (refine GO ?_; simp -implicitDefEqProofs only [go_sem, iA]))
  refine VIF.split (fun h => ?_) (fun h => ?_)
  · (simp -implicitDefEqProofs only [go_sem]; repeat (refine GO ?_; simp -implicitDefEqProofs only [go_sem]))
    exact ⟨rfl, z a b (.inl (by simpa using h))⟩
  have h1 : a ≠ 0 := by simpa using h
  (simp -implicitDefEqProofs only [go_sem]; repeat (refine GO ?_; simp -implicitDefEqProofs only [go_sem]))
  refine VIF.split (fun h => ?_) (fun h => ?_)
  · (simp -implicitDefEqProofs only [go_sem]; repeat (refine GO ?_; simp -implicitDefEqProofs only [go_sem]))
    exact ⟨rfl, z a b (.inr (by simpa using h))⟩
  have h2 : b ≠ 0 := by simpa using h
  (simp -implicitDefEqProofs only [go_sem]; repeat (refine GO ?_; simp -implicitDefEqProofs only [go_sem]))
  refine .pure _ (c124 a (by omega)) rfl fun r hq _ => ?_
  subst hq
  (simp -implicitDefEqProofs only [go_sem, iA]; repeat (refine GO ?_; simp -implicitDefEqProofs only [go_sem, iA]))
  refine .pure _ (c124 b (by omega)) rfl fun r hq _ => ?_
  subst hq
  have hb0 : 0 < (b.natAbs : Int) := by omega
  have ed : k.tdiv (b.natAbs : Int) = k / b.natAbs := Int.tdiv_eq_ediv_of_nonneg hk.1
  have wq : IntKind.i64.wrap (k / (b.natAbs : Int)) = k / b.natAbs := by
    have h3 := Int.ediv_nonneg hk.1 (Int.le_of_lt hb0)
    have h4 := Int.ediv_le_self (b.natAbs : Int) hk.1
    rw [wrap_i64] <;> omega
  have key : (k / (b.natAbs : Int) < (a.natAbs : Int)) ↔ prodOk a b k = false := by
    have h3 := Int.le_ediv_iff_mul_le (a := (a.natAbs : Int)) (b := k) hb0
    have h4 := natAbs_mul_le a b k.toNat
    have h5 : ((k.toNat : Nat) : Int) = k := by omega
    rw [h5] at h4
    simp only [prodOk, inB, ← Bool.decide_and, decide_eq_false_iff_not]
    rw [← h4, ← h3]; omega
  (simp -implicitDefEqProofs only [go_sem, iA, ed, wq]; repeat (refine GO ?_; simp -implicitDefEqProofs only [go_sem, iA, ed, wq]))
  refine ⟨by omega, ?_⟩
  (simp -implicitDefEqProofs only [go_sem, iA, ed, wq]; repeat (refine GO ?_; simp -implicitDefEqProofs only [go_sem, iA, ed, wq]))
  refine VIF.split (fun h => ?_) (fun h => ?_)
  · have h : prodOk a b k = false := key.1 (by simpa using h)
    (simp -implicitDefEqProofs only [go_sem]; repeat (refine GO ?_; simp -implicitDefEqProofs only [go_sem]))
    rw [h]; exact ⟨rfl, rfl⟩
  · have h : prodOk a b k = true := by
      cases hp : prodOk a b k with
      | true => rfl
      | false => exact absurd (key.2 hp) (by simpa using h)
    have hw : IntKind.i64.wrap (a * b) = a * b := by
      simp [prodOk, inB] at h; rw [wrap_i64] <;> omega
    (simp -implicitDefEqProofs only [go_sem, hw]; repeat (refine GO ?_; simp -implicitDefEqProofs only [go_sem, hw]))
    rw [h]; exact ⟨rfl, rfl⟩
theorem c77 (a b : List V) (cols others : List Int) (hl : cols.length = others.length) (ha : a.length < 4611686018427387904) (hb : b.length < 4611686018427387904) (hc : cols.length < 4611686018427387904) :
    Spec0 Try.prog 77 [rowA a, rowA b, intsL cols, intsL others] (· = bA (meetP a b cols others)) := by
  refine spec0_of_vc tabOk elems ord77 Try.func77 rfl (rl := [.tmp 8]) rfl (by kernel_rfl) rfl ?_
  (simp -implicitDefEqProofs only [go_sem, rowA, intsL]; repeat (refine GO ?_; simp -implicitDefEqProofs only [go_sem, rowA, intsL]))
  have fin : ∀ (i : Nat) (h : i < cols.length) (h2 : i < others.length), (inC cols[i] a.length && inC others[i] b.length && !decide ((getV a cols[i]).k = 1) && !decide ((getV b others[i]).k = 1) && decide (cmpV (getV a cols[i]) (getV b others[i]) = 0)) = false →
      meetP a b cols others = false := fun i h h2 e => by
    simp only [meetP]
    rw [List.all_eq_false]
    exact ⟨(cols[i], others[i]), List.mem_iff_getElem.2 ⟨i, by simp; omega, by simp⟩, by rw [e]; simp⟩
  refine LOOP.mk (ι := { i : Nat // i ≤ cols.length ∧ ∀ j (h : j < cols.length) (h2 : j < others.length), j < i → (inC cols[j] a.length && inC others[j] b.length && !decide ((getV a cols[j]).k = 1) && !decide ((getV b others[j]).k = 1) && decide (cmpV (getV a cols[j]) (getV b others[j]) = 0)) = true })
    (fun q => mkS [(0, rowA a), (1, rowA b), (2, intsL cols), (3, intsL others), (9, iA q.1)] [] []) (fun q => cols.length - q.1) ⟨0, Nat.zero_le _, fun j _ _ h => absurd h (Nat.not_lt_zero _)⟩ [] rfl rfl ?_ (fun q => ?_)
  · (simp -implicitDefEqProofs only [go_sem, rowA, intsL, iA]; repeat (refine GO ?_; simp -implicitDefEqProofs only [go_sem, rowA, intsL, iA]))
    exact ⟨id, rfl⟩
  · obtain ⟨i, hi, hz⟩ := q
    (simp -implicitDefEqProofs only [go_sem, rowA, intsL, iA]; repeat (refine GO ?_; simp -implicitDefEqProofs only [go_sem, rowA, intsL, iA]))
    refine VIF.split (fun h => ?_) (fun h => ?_)
    · have h : i < cols.length := by simpa using h
      have h2 : i < others.length := by omega
      have w1 := wrap_add1 (show i < 4611686018427387904 by omega)
      have wa : IntKind.i64.wrap ((a.length : Int) - 1) = a.length - 1 := by rw [wrap_i64] <;> omega
      have wb : IntKind.i64.wrap ((b.length : Int) - 1) = b.length - 1 := by rw [wrap_i64] <;> omega
      have bad : (inC cols[i] a.length && inC others[i] b.length && !decide ((getV a cols[i]).k = 1) && !decide ((getV b others[i]).k = 1) && decide (cmpV (getV a cols[i]) (getV b others[i]) = 0)) = false →
          AV.pr (Value.bool false) = bA (meetP a b cols others) := fun e => by rw [fin i h h2 e]; rfl
      (simp -implicitDefEqProofs only [go_sem]; repeat (refine GO ?_; simp -implicitDefEqProofs only [go_sem]))
      refine EL.map h ?_
      (simp -implicitDefEqProofs only [go_sem, iA, wa]; repeat (refine GO ?_; simp -implicitDefEqProofs only [go_sem, iA, wa]))
      refine .pure _ (s53 cols[i] 0 (a.length - 1)) rfl fun r hq _ => ?_
      subst hq
      (simp -implicitDefEqProofs only [go_sem, bA]; repeat (refine GO ?_; simp -implicitDefEqProofs only [go_sem, bA]))
      refine VIF.split (fun g1 => ?_) (fun g1 => ?_)
      · (simp -implicitDefEqProofs only [go_sem]; repeat (refine GO ?_; simp -implicitDefEqProofs only [go_sem]))
        exact bad (by simp [inB] at g1; simp [inC]; intros; omega)
      have g1 : 0 ≤ cols[i] ∧ cols[i] ≤ a.length - 1 := by simpa [inB] using g1
      (simp -implicitDefEqProofs only [go_sem]; repeat (refine GO ?_; simp -implicitDefEqProofs only [go_sem]))
      refine EL.map h2 ?_
      (simp -implicitDefEqProofs only [go_sem, iA, wb]; repeat (refine GO ?_; simp -implicitDefEqProofs only [go_sem, iA, wb]))
      refine .pure _ (s53 others[i] 0 (b.length - 1)) rfl fun r hq _ => ?_
      subst hq
      (simp -implicitDefEqProofs only [go_sem, bA]; repeat (refine GO ?_; simp -implicitDefEqProofs only [go_sem, bA]))
      refine VIF.split (fun g2 => ?_) (fun g2 => ?_)
      · (simp -implicitDefEqProofs only [go_sem]; repeat (refine GO ?_; simp -implicitDefEqProofs only [go_sem]))
        exact bad (by simp [inB] at g2; simp [inC]; intros; omega)
      have g2 : 0 ≤ others[i] ∧ others[i] ≤ b.length - 1 := by simpa [inB] using g2
      have k1 : cols[i].toNat < a.length := by omega
      have k2 : others[i].toNat < b.length := by omega
      have hg1 : getV a cols[i] = a[cols[i].toNat] := by simp [getV, k1]
      have hg2 : getV b others[i] = b[others[i].toNat] := by simp [getV, k2]
      rw [hg1, hg2] at bad
      have i1 : inC cols[i] a.length = true := by simp [inC]; omega
      have i2 : inC others[i] b.length = true := by simp [inC]; omega
      (simp -implicitDefEqProofs only [go_sem]; repeat (refine GO ?_; simp -implicitDefEqProofs only [go_sem]))
      refine EL.map h ?_
      (simp -implicitDefEqProofs only [go_sem, iA]; repeat (refine GO ?_; simp -implicitDefEqProofs only [go_sem, iA]))
      refine ⟨by omega, EL.map k1 ?_⟩
      (simp -implicitDefEqProofs only [go_sem, V.c]; repeat (refine GO ?_; simp -implicitDefEqProofs only [go_sem, V.c]))
      refine VIF.split (fun g5 => ?_) (fun g5 => ?_)
      · (simp -implicitDefEqProofs only [go_sem]; repeat (refine GO ?_; simp -implicitDefEqProofs only [go_sem]))
        exact bad (by simp [g5])
      have g5 : decide (a[cols[i].toNat].k = 1) = false := by simpa using g5
      (simp -implicitDefEqProofs only [go_sem]; repeat (refine GO ?_; simp -implicitDefEqProofs only [go_sem]))
      refine EL.map h2 ?_
      (simp -implicitDefEqProofs only [go_sem, iA]; repeat (refine GO ?_; simp -implicitDefEqProofs only [go_sem, iA]))
      refine ⟨by omega, EL.map k2 ?_⟩
      (simp -implicitDefEqProofs only [go_sem, V.c]; repeat (refine GO ?_; simp -implicitDefEqProofs only [go_sem, V.c]))
      refine VIF.split (fun g6 => ?_) (fun g6 => ?_)
      · (simp -implicitDefEqProofs only [go_sem]; repeat (refine GO ?_; simp -implicitDefEqProofs only [go_sem]))
        exact bad (by simp [g6])
      have g6 : decide (b[others[i].toNat].k = 1) = false := by simpa using g6
      (simp -implicitDefEqProofs only [go_sem]; repeat (refine GO ?_; simp -implicitDefEqProofs only [go_sem]))
      refine EL.map h ?_
      (simp -implicitDefEqProofs only [go_sem, iA]; repeat (refine GO ?_; simp -implicitDefEqProofs only [go_sem, iA]))
      refine ⟨by omega, EL.map k1 ?_⟩
      (simp -implicitDefEqProofs only [go_sem, V.c]; repeat (refine GO ?_; simp -implicitDefEqProofs only [go_sem, V.c]))
      refine EL.map h2 ?_
      (simp -implicitDefEqProofs only [go_sem, iA]; repeat (refine GO ?_; simp -implicitDefEqProofs only [go_sem, iA]))
      refine ⟨by omega, EL.map k2 ?_⟩
      (simp -implicitDefEqProofs only [go_sem, V.c]; repeat (refine GO ?_; simp -implicitDefEqProofs only [go_sem, V.c]))
      refine .pure _ (s66 a[cols[i].toNat] b[others[i].toNat]) rfl fun r hq _ => ?_
      subst hq
      (simp -implicitDefEqProofs only [go_sem, iA]; repeat (refine GO ?_; simp -implicitDefEqProofs only [go_sem, iA]))
      refine VIF.split (fun g7 => ?_) (fun g7 => ?_)
      · have g7 : cmpV a[cols[i].toNat] b[others[i].toNat] ≠ 0 := by simpa using g7
        (simp -implicitDefEqProofs only [go_sem]; repeat (refine GO ?_; simp -implicitDefEqProofs only [go_sem]))
        exact bad (by simp [g7])
      have g7 : cmpV a[cols[i].toNat] b[others[i].toNat] = 0 := by simpa using g7
      (simp -implicitDefEqProofs only [go_sem, w1]; repeat (refine GO ?_; simp -implicitDefEqProofs only [go_sem, w1]))
      refine BACK.mk ⟨i + 1, by omega, fun j hj hj2 hji => ?_⟩ [] rfl rfl (by show cols.length - (i + 1) < cols.length - i; omega) ?_
      · by_cases e2 : j = i
        · subst e2
          rw [i1, i2, hg1, hg2, g5, g6, g7]; rfl
        · exact hz j hj hj2 (by omega)
      · (simp -implicitDefEqProofs only [go_sem, rowA, intsL, iA]; repeat (refine GO ?_; simp -implicitDefEqProofs only [go_sem, rowA, intsL, iA]))
        exact id
    · have h : i = cols.length := by simp at h; omega
      subst h
      (simp -implicitDefEqProofs only [go_sem]; repeat (refine GO ?_; simp -implicitDefEqProofs only [go_sem]))
      have e : meetP a b cols others = true := by
        simp only [meetP]
        rw [List.all_eq_true]
        intro p hp
        obtain ⟨j, hj, rfl⟩ := List.mem_iff_getElem.1 hp
        simp only [List.length_zip] at hj
        simpa using hz j (by omega) (by omega) (by omega)
      rw [e]; rfl
/-- What the page's join is, or why not (of sets that are right). -/
def RJoin (a b : List It) (cols others : List Int) (out : List It) (err : Int) : Prop :=
  ((pairL a b cols others).any longP = true ∧ out = [] ∧ err = 2) ∨
  ((pairL a b cols others).any longP = false ∧ (∃ p ∈ pairL a b cols others, okW (p.1.w * p.2.w) = false) ∧ out = [] ∧ err = 11) ∨
  ((pairL a b cols others).any longP = false ∧ (∀ p ∈ pairL a b cols others, okW (p.1.w * p.2.w) = true) ∧ MakeR ((pairL a b cols others).map joinI) out err)
def joinZ (p : It × It) : It := ⟨p.1.row ++ p.2.row, if prodOk p.1.w p.2.w 72057594037927936 = true then p.1.w * p.2.w else 0⟩
theorem prodOk_okW (a b : Int) : prodOk a b 72057594037927936 = okW (a * b) := rfl
/-- Where the page's join stands. -/
structure PJ (L : List (It × It)) : Prop where
  short : L.any longP = false
def overP (p : It × It) : Bool := !okW (p.1.w * p.2.w)
theorem c27 (a b : List It) (cols others : List Int) (hl : cols.length = others.length) (hc : cols.length < 1073741824) (hab : a.length * b.length ≤ 1048576) (hal : a.length ≤ 1048576) (hbl : b.length ≤ 1048576) (ha : ∀ t ∈ a, t.row.length < 1073741824) (hb : ∀ t ∈ b, t.row.length < 1073741824)
    (wa : ∀ t ∈ a, -72057594037927936 ≤ t.w ∧ t.w ≤ 72057594037927936) (wb : ∀ t ∈ b, -72057594037927936 ≤ t.w ∧ t.w ≤ 72057594037927936) :
    Spec0 Try.prog 27 [setA a, setA b, intsL cols, intsL others] (fun r => ∃ (out : List It) (err : Int), r = .tu [setA out, iA err] ∧ RJoin a b cols others out err) := by
  refine spec0_of_vc tabOk elems ord27 Try.func27 rfl (rl := [.tmp 8, .tmp 9]) rfl (by kernel_rfl) rfl ?_
  have bad : ∀ (e : Int) (s : St), 0 ∉ s.used → s.regs 8 = .nl → s.regs 9 = .pr (.int .i64 e) → RJoin a b cols others [] e → GOES (fun st => hRes T st [.tmp 8, .tmp 9] fun v => v.noId = true ∧ ∃ (out : List It) (err : Int), v = .tu [setA out, iA err] ∧ RJoin a b cols others out err) s := by
    intro e s hu h8 h9 hj
    refine TO [] [(8, setA []), (9, iA e)] [] [] rfl ?_ ?_
    · (simp -implicitDefEqProofs only [go_sem, setA, iA, h8, h9]; repeat (refine GO ?_; simp -implicitDefEqProofs only [go_sem, setA, iA, h8, h9]))
      exact ⟨fun h => absurd h hu, rfl⟩
    (simp -implicitDefEqProofs only [go_sem]; repeat (refine GO ?_; simp -implicitDefEqProofs only [go_sem]))
    exact ⟨rfl, [], e, rfl, hj⟩
  have hLl := pairL_len a b cols others
  (simp -implicitDefEqProofs only [go_sem, setA, intsL]; repeat (refine GO ?_; simp -implicitDefEqProofs only [go_sem, setA, intsL]))
  refine LOOP.mk (ι := { i : Nat // i ≤ a.length ∧ (pairL (a.take i) b cols others).any longP = false }) (fun p => mkS [(0, setA a), (1, setA b), (2, intsL cols), (3, intsL others), (10, .rf 1000 0 (pairL (a.take p.1) b cols others).length), (11, bA ((pairL (a.take p.1) b cols others).any overP)), (12, iA p.1)]
    [(1000, so ((pairL (a.take p.1) b cols others).map joinZ))] [1000]) (fun p => a.length - p.1) ⟨0, Nat.zero_le _, rfl⟩ [(1000, none)] rfl rfl ?_ (fun p => ?_)
  · (simp -implicitDefEqProofs only [go_sem, setA, intsL, iA, bA, so]; repeat (refine GO ?_; simp -implicitDefEqProofs only [go_sem, setA, intsL, iA, bA, so]))
    simp [pairL]
  · obtain ⟨i, hi, hsh⟩ := p
    (simp -implicitDefEqProofs only [go_sem, setA, intsL, iA, bA, so]; repeat (refine GO ?_; simp -implicitDefEqProofs only [go_sem, setA, intsL, iA, bA, so]))
    refine VIF.split (fun h1 => ?_) (fun h1 => ?_)
    · have h1 : i < a.length := by simpa using h1
      have hma := List.getElem_mem h1
      have w1 := wrap_add1 (show i < 4611686018427387904 by omega)
      have e0 : pairL (a.take i) b cols others ++ pairL [a[i]] (b.take 0) cols others = pairL (a.take i) b cols others := by simp [pairL]
      have hall : ∀ (j : Nat), pairL a b cols others = (pairL (a.take i) b cols others ++ pairL [a[i]] (b.take j) cols others) ++ (pairL [a[i]] (b.drop j) cols others ++ pairL (a.drop (i + 1)) b cols others) := fun j => by
        rw [List.append_assoc, ← List.append_assoc (pairL [a[i]] (b.take j) cols others), ← pairL_one, List.take_append_drop, ← pairL_append, ← pairL_append]
        congr 1
        rw [List.singleton_append, List.getElem_cons_drop, List.take_append_drop]
      (simp -implicitDefEqProofs only [go_sem]; repeat (refine GO ?_; simp -implicitDefEqProofs only [go_sem]))
      refine LOOP.mk (ι := { p : Nat × List (It × It) // p.1 ≤ b.length ∧ pairL (a.take i) b cols others ++ pairL [a[i]] (b.take p.1) cols others = p.2 ∧ p.2.any longP = false }) (fun p => mkS [(0, setA a), (1, setA b), (2, intsL cols), (3, intsL others), (10, .rf 1000 0 p.1.2.length), (11, bA (p.1.2.any overP)), (12, iA i), (13, iA p.1.1)]
        [(1000, so (p.1.2.map joinZ))] [1000]) (fun p => b.length - p.1.1) ⟨(0, pairL (a.take i) b cols others), Nat.zero_le _, e0, hsh⟩ [(1000, some 1000)] rfl rfl ?_ (fun p => ?_)
      · (simp -implicitDefEqProofs only [go_sem, setA, intsL, iA, bA, so]; repeat (refine GO ?_; simp -implicitDefEqProofs only [go_sem, setA, intsL, iA, bA, so]))
        exact ⟨id, rfl, .same (so ((pairL (a.take i) b cols others).map joinZ)) _ _ (so_leafy _) rfl⟩
      · obtain ⟨⟨j, L⟩, hj, hL, hsh2⟩ := p
        simp only at hj hL hsh2
        have hbd := pair_bd (cols := cols) (others := others) h1 hj
        rw [hL] at hbd
        (simp -implicitDefEqProofs only [go_sem, setA, intsL, iA, bA, so]; repeat (refine GO ?_; simp -implicitDefEqProofs only [go_sem, setA, intsL, iA, bA, so]))
        refine VIF.split (fun h2 => ?_) (fun h2 => ?_)
        · have h2 : j < b.length := by simpa using h2
          have hmb := List.getElem_mem h2
          have w2 := wrap_add1 (show j < 4611686018427387904 by omega)
          have eN : pairL (a.take i) b cols others ++ pairL [a[i]] (b.take (j + 1)) cols others = L ++ pairL [a[i]] [b[j]] cols others := by
            rw [List.take_succ_eq_append_getElem h2, pairL_one, ← List.append_assoc, hL]
          (simp -implicitDefEqProofs only [go_sem]; repeat (refine GO ?_; simp -implicitDefEqProofs only [go_sem]))
          refine EL.map h1 ?_
          (simp -implicitDefEqProofs only [go_sem, It.c]; repeat (refine GO ?_; simp -implicitDefEqProofs only [go_sem, It.c]))
          refine EL.map h2 ?_
          (simp -implicitDefEqProofs only [go_sem, It.c]; repeat (refine GO ?_; simp -implicitDefEqProofs only [go_sem, It.c]))
          refine .pure _ (c77 a[i].row b[j].row cols others hl (by have := ha _ hma; omega) (by have := hb _ hmb; omega) (by omega)) rfl fun r hq _ => ?_
          subst hq
          (simp -implicitDefEqProofs only [go_sem, bA]; repeat (refine GO ?_; simp -implicitDefEqProofs only [go_sem, bA]))
          refine VIF.split (fun h3 => ?_) (fun h3 => ?_)
          · have h3 : meetP a[i].row b[j].row cols others = false := by simpa using h3
            have eM : pairL [a[i]] [b[j]] cols others = [] := by simp [pairL, h3]
            rw [eM, List.append_nil] at eN
            (simp -implicitDefEqProofs only [go_sem, w2]; repeat (refine GO ?_; simp -implicitDefEqProofs only [go_sem, w2]))
            refine BACK.mk ⟨(j + 1, L), by simp only; omega, eN, hsh2⟩ [(1000, some 1000)] rfl rfl (by show b.length - (j + 1) < b.length - j; omega) ?_
            (simp -implicitDefEqProofs only [go_sem, setA, intsL, iA, bA, so]; repeat (refine GO ?_; simp -implicitDefEqProofs only [go_sem, setA, intsL, iA, bA, so]))
            exact ⟨id, .same (so (L.map joinZ)) _ _ (so_leafy _) rfl⟩
          · have h3 : meetP a[i].row b[j].row cols others = true := by simpa using h3
            have eM : pairL [a[i]] [b[j]] cols others = [(a[i], b[j])] := by simp [pairL, h3]
            rw [eM] at eN
            have hmem : (a[i], b[j]) ∈ pairL a b cols others := by
              rw [hall (j + 1), eN]; simp
            have hw : IntKind.i64.wrap ((a[i].row.length : Int) + b[j].row.length) = ((a[i].row.length + b[j].row.length : Nat) : Int) := by
              have := ha _ hma; have := hb _ hmb; rw [wrap_i64] <;> omega
            (simp -implicitDefEqProofs only [go_sem]; repeat (refine GO ?_; simp -implicitDefEqProofs only [go_sem]))
            refine EL.map h1 ?_
            (simp -implicitDefEqProofs only [go_sem, It.c, rowA]; repeat (refine GO ?_; simp -implicitDefEqProofs only [go_sem, It.c, rowA]))
            refine EL.map h2 ?_
            (simp -implicitDefEqProofs only [go_sem, It.c, rowA, hw]; repeat (refine GO ?_; simp -implicitDefEqProofs only [go_sem, It.c, rowA, hw]))
            refine VIF.split (fun h4 => ?_) (fun h4 => ?_)
            · simp -implicitDefEqProofs only [go_sem]
              refine bad 2 _ (by simp) rfl rfl (.inl ⟨List.any_eq_true.2 ⟨_, hmem, ?_⟩, rfl, rfl⟩)
              simp at h4
              simp [longP]; omega
            have h4 : a[i].row.length + b[j].row.length ≤ 12 := by simp at h4; omega
            have hsh3 : (L ++ [(a[i], b[j])]).any longP = false := by
              rw [List.any_append, hsh2]; simp [longP]; omega
            (simp -implicitDefEqProofs only [go_sem]; repeat (refine GO ?_; simp -implicitDefEqProofs only [go_sem]))
            refine EL.map h1 ?_
            (simp -implicitDefEqProofs only [go_sem, It.c, iA]; repeat (refine GO ?_; simp -implicitDefEqProofs only [go_sem, It.c, iA]))
            refine EL.map h2 ?_
            (simp -implicitDefEqProofs only [go_sem, It.c, iA]; repeat (refine GO ?_; simp -implicitDefEqProofs only [go_sem, It.c, iA]))
            have b1 := wa _ hma
            have b2 := wb _ hmb
            refine .pure _ (show Spec0 Try.prog 78 [.pr (.int .i64 a[i].w), .pr (.int .i64 b[j].w), .pr (.int .i64 72057594037927936)] _ from c78 a[i].w b[j].w 72057594037927936 (by omega) (by omega) (by decide)) rfl fun r hq _ => ?_
            subst hq
            rw [prodOk_okW]
            have e1 : List.map It.c (L.map joinZ) ++ [[rowA (joinZ (a[i], b[j])).row, iA (joinZ (a[i], b[j])).w]] = List.map It.c ((L ++ [(a[i], b[j])]).map joinZ) := by
              rw [List.map_append, List.map_append]; rfl
            have hany : (L ++ [(a[i], b[j])]).any overP = (L.any overP || !okW (a[i].w * b[j].w)) := by simp [overP]
            (simp -implicitDefEqProofs only [go_sem, iA, bA]; repeat (refine GO ?_; simp -implicitDefEqProofs only [go_sem, iA, bA]))
            refine VIF.split (fun h5 => ?_) (fun h5 => ?_)
            · rw [h5, Bool.true_or] at hany
              simp -implicitDefEqProofs only [go_sem]
              refine EL.map h1 ?_
              simp -implicitDefEqProofs only [go_sem, It.c]
              refine EL.map h2 ?_
              simp -implicitDefEqProofs only [go_sem, It.c]
              refine .make 81 _ (s52 a[i].row (by have := ha _ hma; omega)) rfl (by simp) rfl fun r o hq _ => ?_
              obtain ⟨rfl, rfl⟩ := hq
              (simp -implicitDefEqProofs only [go_sem, rowA, ro3, w2]; repeat (refine GO ?_; simp -implicitDefEqProofs only [go_sem, rowA, ro3, w2]))
              refine ⟨by omega, by omega, ?_⟩
              refine BACK.mk ⟨(j + 1, L ++ [(a[i], b[j])]), by simp only; omega, eN, hsh3⟩ [(1000, some 91)] rfl rfl (by show b.length - (j + 1) < b.length - j; omega) ?_
              (simp -implicitDefEqProofs only [go_sem, setA, intsL, iA, bA, so, w2, hany]; repeat (refine GO ?_; simp -implicitDefEqProofs only [go_sem, setA, intsL, iA, bA, so, w2, hany]))
              have hlf := ro3_leafy (a[i].row ++ b[j].row)
              refine ⟨id, by simp, ?_⟩
              rw [List.map_append, List.map_append, List.map_cons, List.map_nil, List.map_cons, List.map_nil, List.take_of_length_le (l := List.map It.c (List.map joinZ L)) (by simp)]
              refine Es_snoc (l := List.map It.c (List.map joinZ L)) (fun x hx a ha => so_leafy (L.map joinZ) x hx a ha) ?_
              (simp -implicitDefEqProofs only [go_sem, It.c, joinZ, rowA, iA]; repeat (refine GO ?_; simp -implicitDefEqProofs only [go_sem, It.c, joinZ, rowA, iA]))
              refine ⟨⟨by decide, _, rfl, ?_, rfl, ?_⟩, rfl⟩
              · rw [← List.map_append]; exact hlf
              · rw [← List.map_append]; exact List.take_of_length_le (by simp)
            · rw [h5, Bool.false_or] at hany
              simp -implicitDefEqProofs only [go_sem]
              refine EL.map h1 ?_
              simp -implicitDefEqProofs only [go_sem, It.c]
              refine EL.map h2 ?_
              simp -implicitDefEqProofs only [go_sem, It.c]
              refine .make 81 _ (s52 a[i].row (by have := ha _ hma; omega)) rfl (by simp) rfl fun r o hq _ => ?_
              obtain ⟨rfl, rfl⟩ := hq
              (simp -implicitDefEqProofs only [go_sem, rowA, ro3, w2]; repeat (refine GO ?_; simp -implicitDefEqProofs only [go_sem, rowA, ro3, w2]))
              refine ⟨by omega, by omega, ?_⟩
              refine BACK.mk ⟨(j + 1, L ++ [(a[i], b[j])]), by simp only; omega, eN, hsh3⟩ [(1000, some 91)] rfl rfl (by show b.length - (j + 1) < b.length - j; omega) ?_
              (simp -implicitDefEqProofs only [go_sem, setA, intsL, iA, bA, so, w2, hany]; repeat (refine GO ?_; simp -implicitDefEqProofs only [go_sem, setA, intsL, iA, bA, so, w2, hany]))
              have hlf := ro3_leafy (a[i].row ++ b[j].row)
              refine ⟨id, by simp, ?_⟩
              rw [List.map_append, List.map_append, List.map_cons, List.map_nil, List.map_cons, List.map_nil, List.take_of_length_le (l := List.map It.c (List.map joinZ L)) (by simp)]
              refine Es_snoc (l := List.map It.c (List.map joinZ L)) (fun x hx a ha => so_leafy (L.map joinZ) x hx a ha) ?_
              (simp -implicitDefEqProofs only [go_sem, It.c, joinZ, rowA, iA]; repeat (refine GO ?_; simp -implicitDefEqProofs only [go_sem, It.c, joinZ, rowA, iA]))
              refine ⟨⟨by decide, _, rfl, ?_, rfl, ?_⟩, rfl⟩
              · rw [← List.map_append]; exact hlf
              · rw [← List.map_append]; exact List.take_of_length_le (by simp)
        · have h2 : j = b.length := by simp at h2; omega
          subst h2
          have eL : L = pairL (a.take (i + 1)) b cols others := by rw [← hL, List.take_length, List.take_succ_eq_append_getElem h1, pairL_append]
          subst eL
          (simp -implicitDefEqProofs only [go_sem, w1]; repeat (refine GO ?_; simp -implicitDefEqProofs only [go_sem, w1]))
          refine BACK.mk ⟨i + 1, by omega, hsh2⟩ [(1000, some 1000)] rfl rfl (by show a.length - (i + 1) < a.length - i; omega) ?_
          (simp -implicitDefEqProofs only [go_sem, setA, intsL, iA, bA, so]; repeat (refine GO ?_; simp -implicitDefEqProofs only [go_sem, setA, intsL, iA, bA, so]))
          exact ⟨id, .same (so ((pairL (a.take (i + 1)) b cols others).map joinZ)) _ _ (so_leafy _) rfl⟩
    · have h1 : i = a.length := by simp at h1; omega
      subst h1
      rw [List.take_length] at hsh
      have hbad : ∀ p ∈ pairL a b cols others, overP p = true → okW (p.1.w * p.2.w) = false := fun p _ h => by simpa [overP] using h
      generalize hL : pairL a b cols others = L at *
      (simp -implicitDefEqProofs only [go_sem, List.take_length, hL]; repeat (refine GO ?_; simp -implicitDefEqProofs only [go_sem, List.take_length, hL]))
      refine VIF.split (fun h2 => ?_) (fun h2 => ?_)
      · simp -implicitDefEqProofs only [go_sem]
        obtain ⟨p, hp, h3⟩ := List.any_eq_true.1 h2
        exact bad 11 _ (by simp) rfl rfl (.inr (.inl ⟨by rw [hL]; exact hsh, by rw [hL]; exact ⟨p, hp, hbad p hp h3⟩, rfl, rfl⟩))
      · have hok : ∀ p ∈ L, okW (p.1.w * p.2.w) = true := fun p hp => by
          rw [List.any_eq_false] at h2
          simpa [overP] using h2 p hp
        have hm : L.map joinZ = L.map joinI := List.map_congr_left fun p hp => by
          simp only [joinZ, joinI, prodOk_okW, hok p hp, if_true]
        rw [hm]
        have hsl : ∀ p ∈ L, p.1.row.length + p.2.row.length ≤ 12 := fun p hp => by
          rw [List.any_eq_false] at hsh
          have := hsh p hp
          simp [longP] at this; omega
        simp -implicitDefEqProofs only [go_sem]
        refine GO ?_
        simp -implicitDefEqProofs only [go_sem]
        refine TO [] [(93, setA (L.map joinI))] [] [] rfl ?_ ?_
        · (simp -implicitDefEqProofs only [go_sem, setA]; repeat (refine GO ?_; simp -implicitDefEqProofs only [go_sem, setA]))
          exact ⟨id, by decide, _, rfl, so_leafy (L.map joinI), rfl, List.take_of_length_le (by simp)⟩
        (simp -implicitDefEqProofs only [go_sem, setA]; repeat (refine GO ?_; simp -implicitDefEqProofs only [go_sem, setA]))
        refine .pure _ (Spec1.setE (s26 (L.map joinI) (by simp; omega) (fun t ht => by
          obtain ⟨p, hp, rfl⟩ := List.mem_map.1 ht
          have := hsl p hp
          simp [joinI]; omega))) rfl fun q hq _ => ?_
        obtain ⟨out, err, rfl, hmk⟩ := hq
        (simp -implicitDefEqProofs only [go_sem, iA, setA]; repeat (refine GO ?_; simp -implicitDefEqProofs only [go_sem, iA, setA]))
        exact ⟨rfl, out, err, rfl, .inr (.inr ⟨by rw [hL]; exact hsh, by rw [hL]; exact hok, by rw [hL]; exact hmk⟩)⟩
end Yt
namespace Yt
open Go Go.Vc Go.Proofs
set_option maxRecDepth 10000
set_option maxHeartbeats 8000000
set_option linter.unusedSimpArgs false
set_option linter.unusedVariables false
def wone : V := ⟨3, 1, ByteArray.empty⟩
def wzero : V := ⟨0, 0, ByteArray.empty⟩
def wdV (n i : Nat) : List V := List.replicate i wone ++ List.replicate (n - i) wzero
theorem wdV_len {n i : Nat} (h : i ≤ n) : (wdV n i).length = n := by simp [wdV]; omega
theorem wdV_set {n i : Nat} (h : i < n) : (wdV n i).set i wone = wdV n (i + 1) := by
  simp only [wdV]
  rw [List.set_append_right _ _ (by simp), List.length_replicate, Nat.sub_self, show n - i = (n - (i + 1)) + 1 by omega, List.replicate_succ, List.set_cons_zero, List.replicate_succ', List.append_assoc]; rfl
theorem wdV_full (n : Nat) : wdV n n = List.replicate n wone := by simp [wdV]
theorem wdV_zero (n : Nat) : ro3 (wdV n 0) = ⟨3, List.replicate n [iA 0, iA 0, .pr (.string ⟨#[]⟩)]⟩ := by
  simp [ro3, wdV]; right; rfl
theorem wdK : ∀ k : Nat, k < 20 → IntKind.i64.wrap (1 * 2 ^ min k 64) = ((2 ^ k : Nat) : Int) ∧ okW (1099511627776 * ((2 ^ k : Nat) : Int)) = decide (k ≤ 16) := by decide
theorem wdK2 : ∀ k : Nat, k < 20 → okW ((2 ^ k : Nat) : Int) = true ∧ ((2 ^ k : Nat) : Int) ≠ 0 := by decide
theorem wdK3 : ∀ k : Nat, k < 20 → 0 < 2 ^ k ∧ 2 ^ k < 1048576 := by decide
theorem wdK4 : ∀ k : Nat, k ≤ 16 → IntKind.i64.wrap (1 * 2 ^ min (40 + k) 64) = 1099511627776 * ((2 ^ k : Nat) : Int) := by decide
theorem wdV_okR {n : Nat} (h : n ≤ 12) : okR (wdV n n) = 0 := by
  rw [wdV_full]
  simp [okR, Nat.not_lt.2 h, List.all_replicate]
  intro _; rfl
theorem wdV_good {n : Nat} {w : Int} (h : n ≤ 12) (h1 : okW w = true) (h2 : w ≠ 0) : Good [⟨wdV n n, w⟩] :=
  good_made.2 ⟨⟨List.pairwise_singleton _ _, by simp [h1, h2]⟩, fun t ht => by simp at ht; subst ht; exact wdV_okR h⟩
theorem wdV_pair {n m : Nat} {v w : Int} (h : 1 ≤ n) (h1 : 1 ≤ m) : pairL [⟨wdV n n, v⟩] [⟨wdV m m, w⟩] [0] [0] = [(⟨wdV n n, v⟩, ⟨wdV m m, w⟩)] := by
  have e : ∀ {k : Nat}, 1 ≤ k → getV (wdV k k) 0 = wone ∧ inC 0 (wdV k k).length = true := fun {k} hk => by
    rw [wdV_len (Nat.le_refl k), wdV_full]
    obtain ⟨k, rfl⟩ := Nat.exists_eq_add_of_le' hk
    exact ⟨by simp [getV, List.replicate_succ], by simp [inC]⟩
  simp [pairL, meetP, e h, e h1, wone]
  exact lin_cmpV.self _
theorem wdV_cases {i j k : Nat} {K e e' : Int} {x y : List It} (hi : 1 ≤ i ∧ i ≤ 12) (hj : 1 ≤ j ∧ j ≤ 12) (hk : k < 20) (hK : K = ((2 ^ k : Nat) : Int))
    (hx : JoinR [⟨wdV i i, 1099511627776⟩] [⟨wdV j j, K⟩] [0] [0] x e) (hy : RJoin [⟨wdV i i, 1099511627776⟩] [⟨wdV j j, K⟩] [0] [0] y e') :
    (12 < i + j ∧ x = [] ∧ e = 2 ∧ y = [] ∧ e' = 2) ∨ (i + j ≤ 12 ∧ 16 < k ∧ x = [] ∧ e = 11 ∧ y = [] ∧ e' = 11) ∨ (i + j ≤ 12 ∧ k ≤ 16 ∧ e = 0 ∧ e' = 0 ∧ x = y ∧ ∃ r, x = [⟨r, 1099511627776 * K⟩] ∧ r.length ≤ 12) := by
  have hp : pairL [⟨wdV i i, 1099511627776⟩] [⟨wdV j j, K⟩] [0] [0] = [(⟨wdV i i, 1099511627776⟩, ⟨wdV j j, K⟩)] := wdV_pair hi.1 hj.1
  have hli := wdV_len (Nat.le_refl i)
  have hlj := wdV_len (Nat.le_refl j)
  have hlong : (pairL [⟨wdV i i, 1099511627776⟩] [⟨wdV j j, K⟩] [0] [0]).any longP = decide (12 < i + j) := by
    rw [hp]; simp [longP, hli, hlj]
  rw [hp] at hlong
  have gA : Good [⟨wdV i i, 1099511627776⟩] := wdV_good hi.2 (by decide) (by decide)
  have gB : Good [⟨wdV j j, K⟩] := by rw [hK]; exact wdV_good hj.2 (wdK2 k hk).1 (wdK2 k hk).2
  have e4 := (wdK k hk).2
  rw [← hK] at e4
  simp only [JoinR, RJoin, hp, hlong, List.mem_singleton, forall_eq, exists_eq_left, e4, gA, gB, true_and, and_true, not_true, false_and, false_or, List.length_singleton, ne_eq, List.map_cons, List.map_nil, decide_eq_true_eq, decide_eq_false_iff_not, and_self, or_false] at hx hy
  have fin : ∀ {z : List It} {u : Int}, i + j ≤ 12 → k ≤ 16 → MakeR [joinI (⟨wdV i i, 1099511627776⟩, ⟨wdV j j, K⟩)] z u → u = 0 ∧ z = [⟨wdV i i ++ wdV j j, 1099511627776 * K⟩] := by
    intro z u h1 h2 h
    have h3 : okW (1099511627776 * K) = true := by rw [e4]; simpa using h2
    have h4 : okR (wdV i i ++ wdV j j) = 0 := by
      rw [wdV_full, wdV_full, List.replicate_append_replicate, ← wdV_full]; exact wdV_okR h1
    have hg : Made [⟨wdV i i ++ wdV j j, 1099511627776 * K⟩] := ⟨List.pairwise_singleton _ _, by
      have := wdK2 k hk
      have h5 : 1099511627776 * K ≠ 0 := by rw [hK]; omega
      simp [h3, h5]⟩
    obtain ⟨h5, h6, h7, _⟩ := makeR_fine h (by simp [okI, joinI, h4, h3]) (fun r => by
      have h6 := tot_bound (z := [joinI (⟨wdV i i, 1099511627776⟩, ⟨wdV j j, K⟩)]) (k := 72057594037927936) (by decide) (fun t ht => by simp at ht; subst ht; simpa [okW, inB, joinI] using h3) r
      simpa [okW, inB] using h6)
    exact ⟨h5, made_eq h6 hg fun r => by rw [h7]; rfl⟩
  have hlr : i + j ≤ 12 → (wdV i i ++ wdV j j).length ≤ 12 := fun h => by rw [List.length_append, hli, hlj]; exact h
  by_cases g1 : 12 < i + j
  · simp only [g1, true_and, not_true, false_and, or_false] at hx hy
    exact .inl ⟨g1, hx.1, hx.2, hy.1, hy.2⟩
  by_cases g2 : k ≤ 16
  · simp only [g1, g2, true_and, not_true, false_and, or_false, false_or, not_false_iff] at hx hy
    obtain ⟨h1, h2⟩ := fin (by omega) g2 hx
    obtain ⟨h3, h4⟩ := fin (by omega) g2 hy
    exact .inr (.inr ⟨by omega, g2, h1, h3, by rw [h2, h4], _, h2, hlr (by omega)⟩)
  · simp only [g1, g2, true_and, not_true, false_and, or_false, false_or, not_false_iff] at hx hy
    exact .inr (.inl ⟨by omega, by omega, hx.1, hx.2, hy.1, hy.2⟩)
theorem c3 (p0 p1 p2 : Int) : Spec0 Try.prog 3 [iA p0, iA p1, iA p2] (· = bA true) := by
  obtain ⟨m0, ho, ho1, ho2⟩ := u64_rem p0 12 (by decide) (by decide)
  obtain ⟨m1, ho3, ho4, ho5⟩ := u64_rem p1 12 (by decide) (by decide)
  obtain ⟨m2, ho6, ho7, ho8⟩ := u64_rem p2 20 (by decide) (by decide)
  have u0 : IntKind.i64.wrap (1 + (m0 : Int)) = ((m0 + 1 : Nat) : Int) := by rw [wrap_i64] <;> omega
  have u1 : IntKind.i64.wrap (1 + (m1 : Int)) = ((m1 + 1 : Nat) : Int) := by rw [wrap_i64] <;> omega
  refine spec0_of_vc tabOk elems ord3 Try.func3 rfl (rl := [.tmp 6]) rfl (by kernel_rfl) rfl ?_
  (simp -implicitDefEqProofs only [go_sem, iA]; repeat (refine GO ?_; simp -implicitDefEqProofs only [go_sem, iA]))
  (simp -implicitDefEqProofs only [go_sem, ho, ho2, ho3, ho5, u0, u1]; repeat (refine GO ?_; simp -implicitDefEqProofs only [go_sem, ho, ho2, ho3, ho5, u0, u1]))
  obtain ⟨n, hn⟩ : ∃ n, n = m0 + 1 := ⟨_, rfl⟩
  obtain ⟨m, hm⟩ : ∃ m, m = m1 + 1 := ⟨_, rfl⟩
  rw [← hn, ← hm]
  have hn1 : 1 ≤ n ∧ n ≤ 12 := by omega
  have hm1 : 1 ≤ m ∧ m ≤ 12 := by omega
  clear ho ho3
  have ent1 : ∀ (st : St) (k : Nat), (Ob.mk 3 (List.replicate k [iA 0, iA 0, .pr (.string ⟨#[]⟩)])) = ro3 (wdV k 0) := fun _ k => (wdV_zero k).symm
  refine (fun key => ⟨by decide, by decide, ⟨by omega, by omega, LOOP.mk (ι := { i : Nat // i ≤ n }) (fun i => mkS [(0, iA n), (1, iA m), (2, iA p2), (7, .rf 1000 0 n), (8, .rf 1001 0 m), (9, iA i.1)] [(1000, ro3 (wdV n i.1)), (1001, ro3 (wdV m 0))] [1000, 1001])
      (fun i => n - i.1) ⟨0, Nat.zero_le _⟩ [(1000, some 28), (1001, some 30)] rfl rfl ?_ key⟩, by omega, by omega, LOOP.mk (ι := { i : Nat // i ≤ n }) _ (fun i => n - i.1) ⟨0, Nat.zero_le _⟩ [(1000, some 28), (1001, some 30)] rfl rfl ?_ key⟩) fun i => ?_
  · obtain ⟨i, hi⟩ := i
    (simp -implicitDefEqProofs only [go_sem, iA, ro3]; repeat (refine GO ?_; simp -implicitDefEqProofs only [go_sem, iA, ro3]))
    refine VIF.split (fun h => ?_) (fun h => ?_)
    · have h : i < n := by simpa using h
      have w1 := wrap_add1 (show i < 4611686018427387904 by omega)
      have ho : i < (wdV n i).length := by rw [wdV_len hi]; exact h
      (simp -implicitDefEqProofs only [go_sem]; repeat (refine GO ?_; simp -implicitDefEqProofs only [go_sem]))
      refine ⟨by omega, EL.map ho ?_⟩
      (simp -implicitDefEqProofs only [go_sem, iA, w1, V.c]; repeat (refine GO ?_; simp -implicitDefEqProofs only [go_sem, iA, w1, V.c]))
      refine BACK.mk ⟨i + 1, by omega⟩ [(1000, some 1000), (1001, some 1001)] rfl rfl (by show n - (i + 1) < n - i; omega) ?_
      (simp -implicitDefEqProofs only [go_sem, iA, w1, ro3]; repeat (refine GO ?_; simp -implicitDefEqProofs only [go_sem, iA, w1, ro3]))
      have e1 : (List.map V.c (wdV n i)).set i (V.c wone) = List.map V.c (wdV n (i + 1)) := by rw [← wdV_set h, List.map_set]
      exact ⟨id, .same (so []) _ _ (fun x hx => ro3_leafy (wdV n (i + 1)) x (by rw [ro3]; exact e1 ▸ hx)) e1, .same (ro3 (wdV m 0)) _ _ (ro3_leafy (wdV m 0)) rfl⟩
    · have h : i = n := by simp at h; omega
      subst h
      (simp -implicitDefEqProofs only [go_sem, iA]; repeat (refine GO ?_; simp -implicitDefEqProofs only [go_sem, iA]))
      refine LOOP.mk (ι := { j : Nat // j ≤ m }) (fun j => mkS [(0, iA i), (1, iA m), (2, iA p2), (7, .rf 1000 0 i), (8, .rf 1001 0 m), (10, iA j.1)] [(1000, ro3 (wdV i i)), (1001, ro3 (wdV m j.1))] [1000, 1001])
        (fun j => m - j.1) ⟨0, Nat.zero_le _⟩ [(1000, some 1000), (1001, some 1001)] rfl rfl ?_ fun j => ?_
      · (simp -implicitDefEqProofs only [go_sem, iA, ro3]; repeat (refine GO ?_; simp -implicitDefEqProofs only [go_sem, iA, ro3]))
        exact ⟨id, rfl, .same (ro3 (wdV i i)) _ _ (ro3_leafy (wdV i i)) rfl, .same (ro3 (wdV m 0)) _ _ (ro3_leafy (wdV m 0)) rfl⟩
      obtain ⟨j, hj⟩ := j
      (simp -implicitDefEqProofs only [go_sem, iA, ro3]; repeat (refine GO ?_; simp -implicitDefEqProofs only [go_sem, iA, ro3]))
      refine VIF.split (fun h => ?_) (fun h => ?_)
      · have h : j < m := by simpa using h
        have w1 := wrap_add1 (show j < 4611686018427387904 by omega)
        have ho : j < (wdV m j).length := by rw [wdV_len hj]; exact h
        (simp -implicitDefEqProofs only [go_sem]; repeat (refine GO ?_; simp -implicitDefEqProofs only [go_sem]))
        refine ⟨by omega, EL.map ho ?_⟩
        (simp -implicitDefEqProofs only [go_sem, iA, w1, V.c]; repeat (refine GO ?_; simp -implicitDefEqProofs only [go_sem, iA, w1, V.c]))
        refine BACK.mk ⟨j + 1, by omega⟩ [(1000, some 1000), (1001, some 1001)] rfl rfl (by show m - (j + 1) < m - j; omega) ?_
        (simp -implicitDefEqProofs only [go_sem, iA, w1, ro3]; repeat (refine GO ?_; simp -implicitDefEqProofs only [go_sem, iA, w1, ro3]))
        have e1 : (List.map V.c (wdV m j)).set j (V.c wone) = List.map V.c (wdV m (j + 1)) := by rw [← wdV_set h, List.map_set]
        exact ⟨id, .same (ro3 (wdV i i)) _ _ (ro3_leafy (wdV i i)) rfl, .same (so []) _ _ (fun x hx => ro3_leafy (wdV m (j + 1)) x (by rw [ro3]; exact e1 ▸ hx)) e1⟩
      · have h : j = m := by simp at h; omega
        subst h
        simp -implicitDefEqProofs only [go_sem, iA]
        refine FRZG 1000 (ro3 (wdV i i)) rfl (ro3_leafy _) ?_
        simp -implicitDefEqProofs only [go_sem]
        refine FRZ 1001 (ro3 (wdV j j)) rfl (ro3_leafy _) ?_
        have eA : List.take i (ro3 (wdV i i)).es = (wdV i i).map V.c := List.take_of_length_le (by simp [ro3, wdV])
        have eB : List.take j (ro3 (wdV j j)).es = (wdV j j).map V.c := List.take_of_length_le (by simp [ro3, wdV])
        have eZ : ∀ v, (ro3 v).sz = 3 := fun _ => rfl
        have e2 := u64_nat (show m2 < 4611686018427387904 by omega)
        obtain ⟨e3, e4⟩ := wdK m2 (by omega)
        obtain ⟨K, hK⟩ : ∃ K, K = ((2 ^ m2 : Nat) : Int) := ⟨_, rfl⟩
        simp -implicitDefEqProofs only [go_sem, iA, ho6, ho8, eA, eB, eZ, e2, e3, ← hK]
        refine ⟨by decide, ?_⟩
        refine FRZG 51 (so [⟨wdV i i, 1099511627776⟩]) rfl (so_leafy _) ?_
        simp -implicitDefEqProofs only [go_sem]
        refine FRZG 60 (so [⟨wdV j j, K⟩]) rfl (so_leafy _) ?_
        simp -implicitDefEqProofs only [go_sem]
        refine FRZG 64 ⟨1, [[iA 0]]⟩ rfl (by simp [Ob.leafy, AV.leaf, iA]) ?_
        simp -implicitDefEqProofs only [go_sem]
        refine FRZ 65 ⟨1, [[iA 0]]⟩ rfl (by simp [Ob.leafy, AV.leaf, iA]) ?_
        simp -implicitDefEqProofs only [go_sem]
        have hlj := wdV_len (Nat.le_refl j)
        have hli := wdV_len (Nat.le_refl i)
        refine .pure _ (show Spec0 Try.prog 26 [setA [⟨wdV i i, 1099511627776⟩], setA [⟨wdV j j, K⟩], intsL [0], intsL [0]] _ from c26 _ _ [0] [0] (by simp) (by simp) (by simp) (by simp) (by simp) (by simp [hli]; omega) (by simp [hlj]; omega)) rfl fun r hq _ => ?_
        obtain ⟨x, e, rfl, hx⟩ := hq
        simp -implicitDefEqProofs only [go_sem, iA, setA]
        refine FRZG 72 ⟨1, [[iA 0]]⟩ rfl (by simp [Ob.leafy, AV.leaf, iA]) ?_
        simp -implicitDefEqProofs only [go_sem]
        refine FRZG 73 ⟨1, [[iA 0]]⟩ rfl (by simp [Ob.leafy, AV.leaf, iA]) ?_
        simp -implicitDefEqProofs only [go_sem]
        refine TO [] [(0, iA i), (1, iA j), (2, iA p2), (13, setA x), (14, iA e), (70, setA [⟨wdV i i, 1099511627776⟩]), (71, setA [⟨wdV j j, K⟩]), (72, intsL [0]), (73, intsL [0])] [] [] rfl ?_ ?_
        · (simp -implicitDefEqProofs only [go_sem, setA, iA, intsL]; repeat (refine GO ?_; simp -implicitDefEqProofs only [go_sem, setA, iA, intsL]))
          exact ⟨id, ⟨rfl, rfl⟩, ⟨rfl, rfl⟩, rfl, rfl⟩
        simp -implicitDefEqProofs only [go_sem, setA, iA, intsL]
        refine .pure _ (show Spec0 Try.prog 27 [setA [⟨wdV i i, 1099511627776⟩], setA [⟨wdV j j, K⟩], intsL [0], intsL [0]] _ from c27 _ _ [0] [0] (by simp) (by simp) (by simp) (by simp) (by simp) (by simp [hli]; omega) (by simp [hlj]; omega) (by simp) (by simp; have := wdK3 m2 (by omega); rw [hK]; omega)) rfl fun r hq _ => ?_
        obtain ⟨y, e', rfl, hy⟩ := hq
        have hc := wdV_cases hn1 hm1 (by omega) hK hx hy
        simp -implicitDefEqProofs only [go_sem, iA, setA]
        refine VIF.split (fun h3 => ?_) (fun h3 => ?_)
        · rcases hc with ⟨_, _, h4, _, h5⟩ | ⟨_, _, _, h4, _, h5⟩ | ⟨_, _, h4, h5, _⟩ <;> (subst h4; subst h5; simp at h3)
        obtain rfl : e = e' := by simpa using h3
        have hxy : x = y := by
          rcases hc with ⟨_, h4, _, h5, _⟩ | ⟨_, _, h4, _, h5, _⟩ | ⟨_, _, _, _, h4, _⟩
          · rw [h4, h5]
          · rw [h4, h5]
          · exact h4
        subst hxy
        have hxl : x.length ≤ 1 ∧ ∀ t ∈ x, t.row.length < 4611686018427387904 := by
          rcases hc with ⟨_, h4, _⟩ | ⟨_, _, h4, _⟩ | ⟨_, _, _, _, _, r, h4, h6⟩
          · simp [h4]
          · simp [h4]
          · simp [h4]; omega
        simp -implicitDefEqProofs only [go_sem, iA, setA]
        refine .pure _ (s18 x x (by omega) (by omega) hxl.2) rfl fun r hq _ => ?_
        obtain ⟨b, rfl, hb⟩ := hq
        obtain rfl : b = true := hb.2 rfl
        simp -implicitDefEqProofs only [go_sem, iA, bA]
        refine TO [] [(0, iA i), (1, iA j), (2, iA p2), (13, setA x), (14, iA e)] [] [] rfl ?_ ?_
        · (simp -implicitDefEqProofs only [go_sem, setA, iA]; repeat (refine GO ?_; simp -implicitDefEqProofs only [go_sem, setA, iA]))
          exact id
        have wij : IntKind.i64.wrap ((i : Int) + j) = ((i + j : Nat) : Int) := by rw [wrap_i64] <;> omega
        rcases hc with ⟨h4, h5, h6, _, _⟩ | ⟨h4, h7, h5, h6, _, _⟩ | ⟨h4, h7, h6, _, _, r, h5, h8⟩
        · subst h5; subst h6
          (simp -implicitDefEqProofs only [go_sem, setA, iA, wij]; repeat (refine GO ?_; simp -implicitDefEqProofs only [go_sem, setA, iA, wij]))
          repeat ((first | (refine VIF.tt ?_ ?_; (· first | rfl | (simp; done) | (simp; omega))) | (refine VIF.ff ?_ ?_; (· first | rfl | (simp; done) | (simp; omega)))); (simp -implicitDefEqProofs only [go_sem]; repeat (refine GO ?_; simp -implicitDefEqProofs only [go_sem])))
          refine .pure _ c29 rfl fun r hq _ => ?_
          subst hq
          (simp -implicitDefEqProofs only [go_sem, bA]; repeat (refine GO ?_; simp -implicitDefEqProofs only [go_sem, bA]))
        · subst h5; subst h6
          (simp -implicitDefEqProofs only [go_sem, setA, iA, wij]; repeat (refine GO ?_; simp -implicitDefEqProofs only [go_sem, setA, iA, wij]))
          (first | (refine VIF.tt ?_ ?_; (· first | rfl | (simp; done) | (simp; omega))) | (refine VIF.ff ?_ ?_; (· first | rfl | (simp; done) | (simp; omega))))
          (simp -implicitDefEqProofs only [go_sem, ho6]; repeat (refine GO ?_; simp -implicitDefEqProofs only [go_sem, ho6]))
          refine ⟨by decide, ?_⟩
          repeat ((first | (refine VIF.tt ?_ ?_; (· first | rfl | (simp; done) | (simp; omega))) | (refine VIF.ff ?_ ?_; (· first | rfl | (simp; done) | (simp; omega)))); (simp -implicitDefEqProofs only [go_sem, ho6]; repeat (refine GO ?_; simp -implicitDefEqProofs only [go_sem, ho6])))
          refine .pure _ c29 rfl fun r hq _ => ?_
          subst hq
          (simp -implicitDefEqProofs only [go_sem, bA]; repeat (refine GO ?_; simp -implicitDefEqProofs only [go_sem, bA]))
        · subst h5; subst h6
          (simp -implicitDefEqProofs only [go_sem, setA, iA, wij]; repeat (refine GO ?_; simp -implicitDefEqProofs only [go_sem, setA, iA, wij]))
          (first | (refine VIF.tt ?_ ?_; (· first | rfl | (simp; done) | (simp; omega))) | (refine VIF.ff ?_ ?_; (· first | rfl | (simp; done) | (simp; omega))))
          (simp -implicitDefEqProofs only [go_sem, ho6, ho8]; repeat (refine GO ?_; simp -implicitDefEqProofs only [go_sem, ho6, ho8]))
          refine ⟨by decide, ?_⟩
          repeat ((first | (refine VIF.tt ?_ ?_; (· first | rfl | (simp; done) | (simp; omega))) | (refine VIF.ff ?_ ?_; (· first | rfl | (simp; done) | (simp; omega)))); (simp -implicitDefEqProofs only [go_sem, ho6, ho8]; repeat (refine GO ?_; simp -implicitDefEqProofs only [go_sem, ho6, ho8])))
          have w4 : IntKind.i64.wrap (40 + (m2 : Int)) = ((40 + m2 : Nat) : Int) := by rw [wrap_i64] <;> omega
          have w5 := u64_nat (show 40 + m2 < 4611686018427387904 by omega)
          have w6 := wdK4 m2 (by omega)
          rw [← hK] at w6
          refine ⟨by decide, EL.map (show 0 < [(⟨r, 1099511627776 * K⟩ : It)].length from Nat.zero_lt_one) ?_⟩
          (simp -implicitDefEqProofs only [go_sem, It.c, iA, ho6, ho8, w4, w5, w6]; repeat (refine GO ?_; simp -implicitDefEqProofs only [go_sem, It.c, iA, ho6, ho8, w4, w5, w6]))
          refine ⟨by decide, ?_⟩
          (simp -implicitDefEqProofs only [go_sem, It.c, iA, ho6, ho8, w4, w5, w6]; repeat (refine GO ?_; simp -implicitDefEqProofs only [go_sem, It.c, iA, ho6, ho8, w4, w5, w6]))
          refine VIF.tt (by simp) ?_
          (simp -implicitDefEqProofs only [go_sem]; repeat (refine GO ?_; simp -implicitDefEqProofs only [go_sem]))
          refine .pure _ c29 rfl fun r hq _ => ?_
          subst hq
          (simp -implicitDefEqProofs only [go_sem, bA]; repeat (refine GO ?_; simp -implicitDefEqProofs only [go_sem, bA]))
  · (simp -implicitDefEqProofs only [go_sem, iA, wdV_zero]; repeat (refine GO ?_; simp -implicitDefEqProofs only [go_sem, iA, wdV_zero]))
    exact ⟨id, ⟨by simp, by simp, rfl⟩, .same ⟨3, List.replicate n [iA 0, iA 0, .pr (.string ⟨#[]⟩)]⟩ _ _ (zerosV_leafy n) rfl, .same ⟨3, List.replicate m [iA 0, iA 0, .pr (.string ⟨#[]⟩)]⟩ _ _ (zerosV_leafy m) rfl⟩
  · (simp -implicitDefEqProofs only [go_sem, iA, wdV_zero]; repeat (refine GO ?_; simp -implicitDefEqProofs only [go_sem, iA, wdV_zero]))
    exact ⟨id, ⟨by simp, by simp, rfl⟩, .same ⟨3, List.replicate n [iA 0, iA 0, .pr (.string ⟨#[]⟩)]⟩ _ _ (zerosV_leafy n) rfl, .same ⟨3, List.replicate m [iA 0, iA 0, .pr (.string ⟨#[]⟩)]⟩ _ _ (zerosV_leafy m) rfl⟩
end Yt
