/- The law SetMakes, its walk. What is proved: contracts of the program's functions over abstract values, or plain facts on which these lean; the conditions stand in each theorem. -/
import Derived.Test.YtpipfaegkgakiaaYtY
set_option linter.all false
/-! The law SetMakes, its walk. -/
namespace Yt
open Go Go.Vc Go.Proofs
set_option maxRecDepth 10000
set_option maxHeartbeats 8000000
set_option linter.unusedSimpArgs false
set_option linter.unusedVariables false
@[go_sem] theorem cells_rowA {r : List V} {K : List AV → Prop} : cellsOf (rowA r) K = K [rowA r] := rfl
theorem so_leafs (z : List It) : leafs2 (z.map It.c) := by
  have := so_leafy z
  rw [so, leafy_do] at this; exact this
theorem tot_take {z : List It} {k : Nat} (h : k < z.length) (r : List V) : tot r (z.take (k + 1)) = tot r (z.take k) + (if cmpR z[k].row r = 0 then z[k].w else 0) := by
  rw [List.take_succ_eq_append_getElem h, tot_append]; simp [tot]
theorem ones_pos (rows : List (List V)) (r : List V) : 0 ≤ tot r (rows.map oneI) := by
  induction rows with
  | nil => simp [tot]
  | cons a rows ih => simp only [List.map_cons, tot]; have : (oneI a).w = 1 := rfl; rw [this]; split <;> omega
theorem ones_sum (rows : List (List V)) : sumW (rows.map oneI) = rows.length := by
  induction rows with
  | nil => simp [sumW]
  | cons a rows ih => simp only [List.map_cons, sumW, ih, oneI, List.length_cons]; omega
theorem abs_sum {y : List It} (h : ∀ t ∈ y, 0 < t.w) : absS y = sumW y := by
  induction y with
  | nil => rfl
  | cons t y ih =>
    have h6 := h t (by simp)
    simp only [absS, sumW, ih fun u hu => h u (by simp [hu])]
    omega
theorem s4 (l : List It) (turn : Int) (rows : List (List V)) (hl : l.length < 4611686018427387904) (hr : ∀ t ∈ l, t.row.length < 4611686018427387904)
    (hrl : rows.length < 4611686018427387904) (hrr : ∀ r ∈ rows, r.length < 4611686018427387904) :
    Spec0 Try.prog 4 [setA l, iA turn, rowsA rows] (· = bA true) := by
  refine spec0_of_vc tabOk elems ord4 Try.func4 rfl (rl := [.tmp 6]) rfl (by kernel_rfl) rfl ?_
  (simp -implicitDefEqProofs only [go_sem, setA, rowsA, iA]; repeat (refine GO ?_; simp -implicitDefEqProofs only [go_sem, setA, rowsA, iA]))
  refine .lendTo (s10 [l] (by simp) (by simpa using hl) (by simpa using hr)) ?_ (by rintro _ rfl; rfl) fun q hq => ?_
  · (simp -implicitDefEqProofs only [go_sem, setsA, setA]; repeat (refine GO ?_; simp -implicitDefEqProofs only [go_sem, setsA, setA]))
    rfl
  subst hq
  have e0 : [l].any heavyS = heavyS l := by simp
  rw [e0]
  (simp -implicitDefEqProofs only [go_sem, bA]; repeat (refine GO ?_; simp -implicitDefEqProofs only [go_sem, bA]))
  refine VIF.split (fun hb => ?_) (fun hb => ?_)
  · (simp -implicitDefEqProofs only [go_sem, bA]; repeat (refine GO ?_; simp -implicitDefEqProofs only [go_sem, bA]))
  obtain ⟨hll, hlr⟩ := not_heavyS hb
  (simp -implicitDefEqProofs only [go_sem]; repeat (refine GO ?_; simp -implicitDefEqProofs only [go_sem]))
  refine VIF.split (fun h => ?_) (fun h => ?_)
  · (simp -implicitDefEqProofs only [go_sem, bA]; repeat (refine GO ?_; simp -implicitDefEqProofs only [go_sem, bA]))
  have hrn : rows.length ≤ 100 := by simp at h; omega
  (simp -implicitDefEqProofs only [go_sem]; repeat (refine GO ?_; simp -implicitDefEqProofs only [go_sem]))
  refine LOOP.join (ι := Unit) (fun _ => mkS [(1, iA turn), (2, rowsA rows), (7, .rf 1000 0 (inp 5 (l.take 100)).length), (8, .nl)] [(1000, so (inp 5 (l.take 100)))] [1000]) ?_ (fun u => ?_)
  · refine LOOP.mk (ι := { i : Nat // i ≤ l.length ∧ i ≤ 100 }) (fun p => mkS [(0, setA l), (1, iA turn), (2, rowsA rows), (7, .rf 1000 0 (inp 5 (l.take p.1)).length), (8, .nl), (9, iA p.1)] [(1000, so (inp 5 (l.take p.1)))] [1000])
      (fun p => l.length - p.1) ⟨0, Nat.zero_le _, Nat.zero_le _⟩ [(1000, none)] rfl rfl ?_ (fun p => ?_)
    · (simp -implicitDefEqProofs only [go_sem, setA, rowsA, iA, so]; repeat (refine GO ?_; simp -implicitDefEqProofs only [go_sem, setA, rowsA, iA, so]))
      exact ⟨id, ⟨rfl, rfl⟩, rfl⟩
    · obtain ⟨i, hi, hi2⟩ := p
      (simp -implicitDefEqProofs only [go_sem, setA, rowsA, iA, so]; repeat (refine GO ?_; simp -implicitDefEqProofs only [go_sem, setA, rowsA, iA, so]))
      refine VIF.split (fun h1 => ?_) (fun h1 => ?_)
      · have h1 : i < l.length := by simpa using h1
        (simp -implicitDefEqProofs only [go_sem]; repeat (refine GO ?_; simp -implicitDefEqProofs only [go_sem]))
        refine VIF.split (fun h2 => ?_) (fun h2 => ?_)
        · have h2 : i < 100 := by simp at h2; omega
          (simp -implicitDefEqProofs only [go_sem]; repeat (refine GO ?_; simp -implicitDefEqProofs only [go_sem]))
          refine EL.map h1 ?_
          (simp -implicitDefEqProofs only [go_sem, It.c]; repeat (refine GO ?_; simp -implicitDefEqProofs only [go_sem, It.c]))
          refine .pure _ (s17 l[i].row (hr _ (List.getElem_mem h1))) rfl fun q hq _ => ?_
          subst hq
          have hstep := inp_step (k := 5) h1
          have w1 := wrap_add1 (show i < 4611686018427387904 by omega)
          (simp -implicitDefEqProofs only [go_sem, iA]; repeat (refine GO ?_; simp -implicitDefEqProofs only [go_sem, iA]))
          refine VIF.split (fun h3 => ?_) (fun h3 => ?_)
          · rw [if_pos (show okB l[i] = true from h3)] at hstep
            (simp -implicitDefEqProofs only [go_sem]; repeat (refine GO ?_; simp -implicitDefEqProofs only [go_sem]))
            refine EL.map h1 ?_
            (simp -implicitDefEqProofs only [go_sem, It.c]; repeat (refine GO ?_; simp -implicitDefEqProofs only [go_sem, It.c]))
            refine EL.map h1 ?_
            (simp -implicitDefEqProofs only [go_sem, It.c, iA, w1]; repeat (refine GO ?_; simp -implicitDefEqProofs only [go_sem, It.c, iA, w1]))
            have hle := inp_len (k := 5) (l.take i)
            rw [List.length_take] at hle
            refine ⟨by decide, by omega, ?_⟩
            (simp -implicitDefEqProofs only [go_sem, w1]; repeat (refine GO ?_; simp -implicitDefEqProofs only [go_sem, w1]))
            have e1 : (List.map It.c (inp 5 (l.take i))).take (inp 5 (l.take i)).length ++ [[rowA l[i].row, iA (l[i].w.tmod 5)]] = List.map It.c (inp 5 (l.take (i + 1))) := by
              rw [List.take_of_length_le (by simp), hstep, List.map_append]; rfl
            refine BACK.mk ⟨i + 1, by omega, by omega⟩ [(1000, some 64)] rfl rfl (by show l.length - (i + 1) < l.length - i; omega) ?_
            (simp -implicitDefEqProofs only [go_sem, setA, rowsA, iA, so, w1]; repeat (refine GO ?_; simp -implicitDefEqProofs only [go_sem, setA, rowsA, iA, so, w1]))
            refine ⟨id, by rw [hstep]; simp, .same (so []) _ _ (fun x hx => so_leafy (inp 5 (l.take (i + 1))) x (by rw [so]; exact e1 ▸ hx)) e1⟩
          · rw [if_neg (show ¬ okB l[i] = true by simpa [okB] using h3), List.append_nil] at hstep
            (simp -implicitDefEqProofs only [go_sem, w1]; repeat (refine GO ?_; simp -implicitDefEqProofs only [go_sem, w1]))
            refine BACK.mk ⟨i + 1, by omega, by omega⟩ [(1000, some 1000)] rfl rfl (by show l.length - (i + 1) < l.length - i; omega) ?_
            (simp -implicitDefEqProofs only [go_sem, setA, rowsA, iA, so, w1]; repeat (refine GO ?_; simp -implicitDefEqProofs only [go_sem, setA, rowsA, iA, so, w1]))
            rw [hstep]
            exact ⟨id, rfl, .same (so (inp 5 (l.take i))) _ _ (so_leafy (inp 5 (l.take i))) rfl⟩
        · have h2 : i = 100 := by simp at h2; omega
          (simp -implicitDefEqProofs only [go_sem]; repeat (refine GO ?_; simp -implicitDefEqProofs only [go_sem]))
          subst h2
          refine JB.mk () [(1000, some 1000)] rfl rfl ?_
          (simp -implicitDefEqProofs only [go_sem, rowsA, iA, so]; repeat (refine GO ?_; simp -implicitDefEqProofs only [go_sem, rowsA, iA, so]))
          exact ⟨id, .same (so (inp 5 (l.take 100))) _ _ (so_leafy (inp 5 (l.take 100))) rfl⟩
      · have h1 : i = l.length := by simp at h1; omega
        (simp -implicitDefEqProofs only [go_sem]; repeat (refine GO ?_; simp -implicitDefEqProofs only [go_sem]))
        subst h1
        have e1 : l.take 100 = l.take l.length := by rw [List.take_of_length_le (by omega), List.take_of_length_le (by omega)]
        refine JB.mk () [(1000, some 1000)] rfl rfl ?_
        (simp -implicitDefEqProofs only [go_sem, rowsA, iA, so, e1]; repeat (refine GO ?_; simp -implicitDefEqProofs only [go_sem, rowsA, iA, so, e1]))
        exact ⟨id, .same (so (inp 5 (l.take l.length))) _ _ (so_leafy (inp 5 (l.take l.length))) rfl⟩
  · (simp -implicitDefEqProofs only [go_sem, rowsA, iA, so]; repeat (refine GO ?_; simp -implicitDefEqProofs only [go_sem, rowsA, iA, so]))
    have hzl : (inp 5 (l.take 100)).length ≤ 100 := by have := inp_len (k := 5) (l.take 100); simp at this; omega
    have hzr : ∀ t ∈ inp 5 (l.take 100), okR t.row = 0 ∧ t.row.length ≤ 40 := fun t ht => by
      obtain ⟨h1, u, hu, e⟩ := inp_row ht
      exact ⟨h1, by rw [← e]; exact hlr u (List.mem_of_mem_take hu)⟩
    have hzw : ∀ t ∈ inp 5 (l.take 100), -4 ≤ t.w ∧ t.w ≤ 4 := fun t ht => by
      have := inp_w (k := 5) (by decide) ht; omega
    have hzf := inp_fine (k := 5) (by decide) (by decide) (l.take 100)
    generalize inp 5 (l.take 100) = z at hzl hzr hzw hzf ⊢
    have hzt : ∀ r, okW (tot r z) = true := fun r => by
      have := tot_bound (k := 4) (by decide) hzw r
      simp [okW, inB]; omega
    refine LOOP.mk (ι := { p : Nat × List It // p.1 ≤ z.length ∧ p.2.length = p.1 ∧ ∃ s : Nat, (s < z.length ∨ z = []) ∧ (0 < z.length → (IntKind.u64.wrap turn).tmod z.length = s) ∧ ∀ j (h1 : j < p.2.length), p.2[j]? = z[(j + s) % z.length]? })
      (fun p => mkS [(1, iA turn), (2, rowsA rows), (7, .rf 1000 0 z.length), (8, .rf 1001 0 p.1.2.length), (10, iA p.1.1)] [(1000, so z), (1001, so p.1.2)] [1000, 1001])
      (fun p => z.length - p.1.1) ⟨(0, []), Nat.zero_le _, rfl, ?_⟩ [(1000, some 1000), (1001, none)] rfl rfl ?_ (fun p => ?_)
    · by_cases h0 : 0 < z.length
      · obtain ⟨o, h1, h2, h3⟩ := u64_mod turn z.length (by omega) (by omega)
        have h4 : (IntKind.u64.wrap turn).tmod z.length = o := by
          have h0 : 0 ≤ IntKind.u64.wrap turn := by simp [IntKind.wrap, IntKind.signed, IntKind.bits]; omega
          have h5 := Int.tmod_eq_emod_of_nonneg (b := (z.length : Int)) h0
          have h6 := Int.emod_nonneg (IntKind.u64.wrap turn) (show (z.length : Int) ≠ 0 by omega)
          have h7 := Int.emod_lt_of_pos (IntKind.u64.wrap turn) (show (0 : Int) < z.length by omega)
          rw [h5] at h1 ⊢
          rw [← h1, wrap_i64] <;> omega
        exact ⟨o.toNat, .inl (by omega), fun _ => by rw [h4]; omega, by simp⟩
      · exact ⟨0, .inr (List.eq_nil_of_length_eq_zero (by omega)), fun h => absurd h h0, by simp⟩
    · (simp -implicitDefEqProofs only [go_sem, rowsA, iA, so]; repeat (refine GO ?_; simp -implicitDefEqProofs only [go_sem, rowsA, iA, so]))
      exact ⟨id, rfl, .same (so z) _ _ (so_leafy z) rfl, rfl⟩
    · obtain ⟨⟨i, o⟩, hi, hol, s, hs, hst, hos⟩ := p
      simp only at hi hol hos
      (simp -implicitDefEqProofs only [go_sem, rowsA, iA, so]; repeat (refine GO ?_; simp -implicitDefEqProofs only [go_sem, rowsA, iA, so]))
      refine VIF.split (fun h1 => ?_) (fun h1 => ?_)
      · have h1 : i < z.length := by simpa using h1
        have hst := hst (by omega)
        have hs : s < z.length := by rcases hs with h | h; exact h; rw [h] at h1; simp at h1
        have w1 : IntKind.u64.wrap (z.length : Int) = z.length := by simp [IntKind.wrap, IntKind.signed, IntKind.bits]; omega
        have w2 : IntKind.i64.wrap (s : Int) = s := by rw [wrap_i64] <;> omega
        have w3 := wrap_add (show i + s < 4611686018427387904 by omega)
        have w4 : ((i + s : Nat) : Int).tmod (z.length : Int) = (((i + s) % z.length : Nat) : Int) := by
          rw [Int.tmod_eq_emod_of_nonneg (by omega)]; rfl
        have w5 := wrap_add1 (show i < 4611686018427387904 by omega)
        have hlt := Nat.mod_lt (i + s) (show 0 < z.length by omega)
        (simp -implicitDefEqProofs only [go_sem, w1, hst, w2, w3, w4, w5]; repeat (refine GO ?_; simp -implicitDefEqProofs only [go_sem, w1, hst, w2, w3, w4, w5]))
        refine ⟨by omega, by omega, by omega, EL.map hlt ?_⟩
        (simp -implicitDefEqProofs only [go_sem, It.c, w5]; repeat (refine GO ?_; simp -implicitDefEqProofs only [go_sem, It.c, w5]))
        refine ⟨by omega, ?_⟩
        have e1 : (List.map It.c o).take o.length ++ [It.c z[(i + s) % z.length]] = List.map It.c (o ++ [z[(i + s) % z.length]]) := by
          rw [List.take_of_length_le (by simp), List.map_append]; rfl
        refine BACK.mk ⟨(i + 1, o ++ [z[(i + s) % z.length]]), by omega, by simp [hol], s, .inl hs, fun _ => hst, fun j hj => ?_⟩ [(1000, some 1000), (1001, some 88)] rfl rfl (by show z.length - (i + 1) < z.length - i; omega) ?_
        · simp only [List.length_append, List.length_singleton] at hj
          by_cases e : j < o.length
          · show (o ++ _)[j]? = _
            rw [List.getElem?_append_left e]; exact hos j e
          · have e2 : j = o.length := by omega
            subst e2
            show (o ++ _)[o.length]? = _
            rw [List.getElem?_append_right (Nat.le_refl _), Nat.sub_self, List.getElem?_cons_zero, hol, List.getElem?_eq_getElem hlt]
        · (simp -implicitDefEqProofs only [go_sem, rowsA, iA, so, w5]; repeat (refine GO ?_; simp -implicitDefEqProofs only [go_sem, rowsA, iA, so, w5]))
          exact ⟨id, by simp, .same (so z) _ _ (so_leafy z) rfl, .same (so []) _ _ (fun x hx => so_leafy (o ++ [z[(i + s) % z.length]]) x (by rw [so]; exact e1 ▸ hx)) e1⟩
      · have h1 : i = z.length := by simp at h1; omega
        have hperm : o.Perm z := rot_perm (by omega) hs hos
        simp -implicitDefEqProofs only [go_sem]
        refine GO ?_
        simp -implicitDefEqProofs only [go_sem]
        refine TO [] [(2, rowsA rows), (7, setA z), (8, setA o), (90, setA z)] [] [] rfl ?_ ?_
        · (simp -implicitDefEqProofs only [go_sem, setA, rowsA]; repeat (refine GO ?_; simp -implicitDefEqProofs only [go_sem, setA, rowsA]))
          exact ⟨id, ⟨by decide, _, rfl, so_leafy z, rfl, List.take_of_length_le (by simp)⟩, ⟨by decide, _, rfl, so_leafy o, rfl, List.take_of_length_le (by simp)⟩, ⟨by decide, _, rfl, so_leafy z, rfl, List.take_of_length_le (by simp)⟩⟩
        (simp -implicitDefEqProofs only [go_sem, setA, rowsA]; repeat (refine GO ?_; simp -implicitDefEqProofs only [go_sem, setA, rowsA]))
        refine .make 91 _ (s11 z (by omega) (fun t ht => by have := (hzr t ht).2; omega)) rfl (by simp) rfl fun q ob hq _ => ?_
        obtain ⟨z1, err, rfl, rfl, hm⟩ := hq
        obtain ⟨rfl, hmd, hmt, hms, hmlen⟩ := makeR_fine hm hzf hzt
        simp -implicitDefEqProofs only [go_sem, iA]
        refine TO [] [(2, rowsA rows), (7, setA z), (11, setA z1), (12, iA 0), (95, setA o)] [] [] rfl ?_ ?_
        · (simp -implicitDefEqProofs only [go_sem, setA, rowsA, iA, so]; repeat (refine GO ?_; simp -implicitDefEqProofs only [go_sem, setA, rowsA, iA, so]))
          exact ⟨id, by decide, _, rfl, so_leafy z1, rfl, List.take_of_length_le (by simp)⟩
        (simp -implicitDefEqProofs only [go_sem, setA, rowsA, iA]; repeat (refine GO ?_; simp -implicitDefEqProofs only [go_sem, setA, rowsA, iA]))
        refine .make 96 _ (s11 o (by omega) (fun t ht => by have := (hzr t (hperm.mem_iff.1 ht)).2; omega)) rfl (by simp) rfl fun q ob hq _ => ?_
        obtain ⟨z2, err, rfl, rfl, hm⟩ := hq
        obtain ⟨rfl, rfl⟩ := makeR_ok hm (by rw [any_perm hperm]; exact hzf) hmd fun r => (hmt r).trans (tot_perm hperm).symm
        simp -implicitDefEqProofs only [go_sem, iA]
        refine TO [] [(2, rowsA rows), (7, setA z), (11, setA z2), (12, iA 0), (13, setA z2), (14, iA 0), (100, setA z2)] [] [] rfl ?_ ?_
        · (simp -implicitDefEqProofs only [go_sem, setA, rowsA, iA, so]; repeat (refine GO ?_; simp -implicitDefEqProofs only [go_sem, setA, rowsA, iA, so]))
          exact ⟨id, by decide, _, rfl, so_leafy z2, rfl, List.take_of_length_le (by simp)⟩
        (simp -implicitDefEqProofs only [go_sem, setA, rowsA, iA]; repeat (refine GO ?_; simp -implicitDefEqProofs only [go_sem, setA, rowsA, iA]))
        have hgood : Good z2 := good_made.2 ⟨hmd, fun t ht => (hms t ht).1⟩
        have hz2r : ∀ t ∈ z2, t.row.length ≤ 40 := fun t ht => by
          obtain ⟨u, hu, e⟩ := (hms t ht).2
          rw [← e]; exact (hzr u hu).2
        have hz2f : (z2.any fun t => !okI t) = false := by
          rw [List.any_eq_false]; intro t ht
          simp [okI, (hms t ht).1, (hmd.nz t ht).2]
        refine .make 101 _ (s11 z2 (by omega) (fun t ht => by have := hz2r t ht; omega)) rfl (by simp) rfl fun q ob hq _ => ?_
        obtain ⟨z3, err, rfl, rfl, hm⟩ := hq
        obtain ⟨rfl, rfl⟩ := makeR_ok hm hz2f hmd fun r => rfl
        (simp -implicitDefEqProofs only [go_sem, iA]; repeat (refine GO ?_; simp -implicitDefEqProofs only [go_sem, iA]))
        refine VIF.split (fun h => absurd h (by decide)) (fun _ => ?_)
        (simp -implicitDefEqProofs only [go_sem]; repeat (refine GO ?_; simp -implicitDefEqProofs only [go_sem]))
        refine VIF.split (fun h => absurd h (by decide)) (fun _ => ?_)
        (simp -implicitDefEqProofs only [go_sem]; repeat (refine GO ?_; simp -implicitDefEqProofs only [go_sem]))
        refine VIF.split (fun h => absurd h (by decide)) (fun _ => ?_)
        (simp -implicitDefEqProofs only [go_sem]; repeat (refine GO ?_; simp -implicitDefEqProofs only [go_sem]))
        refine .pure _ (s18 z3 z3 (by omega) (by omega) (fun t ht => by have := hz2r t ht; omega)) rfl fun q hq _ => ?_
        obtain ⟨e6, rfl, h6⟩ := hq
        have h6 := h6.2 rfl
        subst h6
        (simp -implicitDefEqProofs only [go_sem, bA]; repeat (refine GO ?_; simp -implicitDefEqProofs only [go_sem, bA]))
        refine .lendTo (s18 z3 z3 (by omega) (by omega) (fun t ht => by have := hz2r t ht; omega)) ?_ (by rintro _ ⟨e, rfl, _⟩; rfl) fun q hq => ?_
        · (simp -implicitDefEqProofs only [go_sem, setA, so]; repeat (refine GO ?_; simp -implicitDefEqProofs only [go_sem, setA, so]))
          exact ⟨by rw [List.take_of_length_le (by simp)], so_leafs z3⟩
        obtain ⟨e6, rfl, h6⟩ := hq
        have h6 := h6.2 rfl
        subst h6
        (simp -implicitDefEqProofs only [go_sem, bA]; repeat (refine GO ?_; simp -implicitDefEqProofs only [go_sem, bA]))
        refine .pure _ (s16 z3 (by omega) (fun t ht => by have := hz2r t ht; omega)) rfl fun q hq _ => ?_
        obtain ⟨e7, rfl, _, h7⟩ := hq
        have h7 := h7.2 hgood
        subst h7
        (simp -implicitDefEqProofs only [go_sem, iA]; repeat (refine GO ?_; simp -implicitDefEqProofs only [go_sem, iA]))
        refine VIF.split (fun h => absurd h (by decide)) (fun _ => ?_)
        (simp -implicitDefEqProofs only [go_sem]; repeat (refine GO ?_; simp -implicitDefEqProofs only [go_sem]))
        have hwt : ∀ r, wt r z3 = tot r z := fun r => (wt_tot hmd r).trans (hmt r)
        refine LOOP.mk (ι := { i : Nat // i ≤ z.length }) (fun p => mkS [(2, rowsA rows), (7, setA z), (11, setA z3), (17, iA p.1)] [] []) (fun p => z.length - p.1) ⟨0, Nat.zero_le _⟩ [] rfl rfl ?_ (fun p => ?_)
        · (simp -implicitDefEqProofs only [go_sem, rowsA, setA, iA]; repeat (refine GO ?_; simp -implicitDefEqProofs only [go_sem, rowsA, setA, iA]))
          exact ⟨id, rfl⟩
        · obtain ⟨i, hi⟩ := p
          (simp -implicitDefEqProofs only [go_sem, rowsA, setA, iA]; repeat (refine GO ?_; simp -implicitDefEqProofs only [go_sem, rowsA, setA, iA]))
          refine VIF.split (fun h1 => ?_) (fun h1 => ?_)
          · have h1 : i < z.length := by simpa using h1
            (simp -implicitDefEqProofs only [go_sem]; repeat (refine GO ?_; simp -implicitDefEqProofs only [go_sem]))
            refine LOOP.mk (ι := { k : Nat // k ≤ z.length }) (fun p => mkS [(2, rowsA rows), (7, setA z), (11, setA z3), (17, iA i), (18, iA (tot z[i].row (z.take p.1))), (19, iA p.1)] [] []) (fun p => z.length - p.1) ⟨0, Nat.zero_le _⟩ [] rfl rfl ?_ (fun p => ?_)
            · (simp -implicitDefEqProofs only [go_sem, rowsA, setA, iA]; repeat (refine GO ?_; simp -implicitDefEqProofs only [go_sem, rowsA, setA, iA]))
              exact ⟨id, rfl, rfl⟩
            · obtain ⟨k, hk⟩ := p
              (simp -implicitDefEqProofs only [go_sem, rowsA, setA, iA]; repeat (refine GO ?_; simp -implicitDefEqProofs only [go_sem, rowsA, setA, iA]))
              refine VIF.split (fun h2 => ?_) (fun h2 => ?_)
              · have h2 : k < z.length := by simpa using h2
                have w1 := wrap_add1 (show k < 4611686018427387904 by omega)
                have htk := tot_take h2 z[i].row
                (simp -implicitDefEqProofs only [go_sem]; repeat (refine GO ?_; simp -implicitDefEqProofs only [go_sem]))
                refine EL.map h2 ?_
                (simp -implicitDefEqProofs only [go_sem, It.c]; repeat (refine GO ?_; simp -implicitDefEqProofs only [go_sem, It.c]))
                refine EL.map h1 ?_
                (simp -implicitDefEqProofs only [go_sem, It.c]; repeat (refine GO ?_; simp -implicitDefEqProofs only [go_sem, It.c]))
                refine .pure _ (s14 z[k].row z[i].row (by have := (hzr _ (List.getElem_mem h2)).2; omega)) rfl fun q hq _ => ?_
                obtain ⟨e8, rfl, h8⟩ := hq
                (simp -implicitDefEqProofs only [go_sem, bA]; repeat (refine GO ?_; simp -implicitDefEqProofs only [go_sem, bA]))
                refine VIF.split (fun h9 => ?_) (fun h9 => ?_)
                · have e9 := h8.1 h9
                  have hb1 := tot_bound (k := 4) (z := z.take k) (by decide) (fun t ht => hzw t (List.mem_of_mem_take ht)) z[i].row
                  have hb2 := hzw _ (List.getElem_mem h2)
                  rw [List.length_take] at hb1
                  have w2 : IntKind.i64.wrap (tot z[i].row (z.take k) + z[k].w) = tot z[i].row (z.take k) + z[k].w := by rw [wrap_i64] <;> omega
                  rw [if_pos (by rw [e9]; exact lin_cmpR.self _)] at htk
                  (simp -implicitDefEqProofs only [go_sem]; repeat (refine GO ?_; simp -implicitDefEqProofs only [go_sem]))
                  refine EL.map h2 ?_
                  (simp -implicitDefEqProofs only [go_sem, It.c, iA, w1, w2]; repeat (refine GO ?_; simp -implicitDefEqProofs only [go_sem, It.c, iA, w1, w2]))
                  refine BACK.mk ⟨k + 1, by omega⟩ [] rfl rfl (by show z.length - (k + 1) < z.length - k; omega) ?_
                  (simp -implicitDefEqProofs only [go_sem, rowsA, setA, iA, w1, w2, htk]; repeat (refine GO ?_; simp -implicitDefEqProofs only [go_sem, rowsA, setA, iA, w1, w2, htk]))
                  exact id
                · have e9 : z[k].row ≠ z[i].row := fun e => by rw [h8.2 e] at h9; cases h9
                  rw [if_neg (fun e => e9 (lin_cmpR.eq _ _ e)), Int.add_zero] at htk
                  (simp -implicitDefEqProofs only [go_sem, w1]; repeat (refine GO ?_; simp -implicitDefEqProofs only [go_sem, w1]))
                  refine BACK.mk ⟨k + 1, by omega⟩ [] rfl rfl (by show z.length - (k + 1) < z.length - k; omega) ?_
                  (simp -implicitDefEqProofs only [go_sem, rowsA, setA, iA, w1, htk]; repeat (refine GO ?_; simp -implicitDefEqProofs only [go_sem, rowsA, setA, iA, w1, htk]))
                  exact id
              · have h2 : k = z.length := by simp at h2; omega
                subst h2
                have w1 := wrap_add1 (show i < 4611686018427387904 by omega)
                (simp -implicitDefEqProofs only [go_sem, List.take_length]; repeat (refine GO ?_; simp -implicitDefEqProofs only [go_sem, List.take_length]))
                refine EL.map h1 ?_
                (simp -implicitDefEqProofs only [go_sem, It.c]; repeat (refine GO ?_; simp -implicitDefEqProofs only [go_sem, It.c]))
                refine .pure _ (s15 z3 z[i].row (fun t ht => by have := hz2r t ht; omega) (by omega)) rfl fun q hq _ => ?_
                subst hq
                rw [hwt]
                (simp -implicitDefEqProofs only [go_sem, iA, w1]; repeat (refine GO ?_; simp -implicitDefEqProofs only [go_sem, iA, w1]))
                refine VIF.split (fun h => absurd h (by decide)) (fun _ => ?_)
                (simp -implicitDefEqProofs only [go_sem, w1]; repeat (refine GO ?_; simp -implicitDefEqProofs only [go_sem, w1]))
                refine BACK.mk ⟨i + 1, by omega⟩ [] rfl rfl (by show z.length - (i + 1) < z.length - i; omega) ?_
                (simp -implicitDefEqProofs only [go_sem, rowsA, setA, iA, w1]; repeat (refine GO ?_; simp -implicitDefEqProofs only [go_sem, rowsA, setA, iA, w1]))
                exact id
          · (simp -implicitDefEqProofs only [go_sem]; repeat (refine GO ?_; simp -implicitDefEqProofs only [go_sem]))
            refine LOOP.mk (ι := { i : Nat // i ≤ rows.length ∧ ∀ j (hj : j < rows.length), j < i → rows[j].length ≤ 40 ∧ okR rows[j] = 0 }) (fun p => mkS [(2, rowsA rows), (20, iA p.1)] [] []) (fun p => rows.length - p.1) ⟨0, Nat.zero_le _, fun j _ h => absurd h (Nat.not_lt_zero _)⟩ [] rfl rfl ?_ (fun p => ?_)
            · (simp -implicitDefEqProofs only [go_sem, rowsA, iA]; repeat (refine GO ?_; simp -implicitDefEqProofs only [go_sem, rowsA, iA]))
              exact ⟨id, rfl⟩
            · obtain ⟨i, hi, hg⟩ := p
              (simp -implicitDefEqProofs only [go_sem, rowsA, iA]; repeat (refine GO ?_; simp -implicitDefEqProofs only [go_sem, rowsA, iA]))
              refine VIF.split (fun h2 => ?_) (fun h2 => ?_)
              · have h2 : i < rows.length := by simpa using h2
                have hri := hrr _ (List.getElem_mem h2)
                have w1 := wrap_add1 (show i < 4611686018427387904 by omega)
                (simp -implicitDefEqProofs only [go_sem]; repeat (refine GO ?_; simp -implicitDefEqProofs only [go_sem]))
                refine EL.map h2 ?_
                (simp -implicitDefEqProofs only [go_sem]; repeat (refine GO ?_; simp -implicitDefEqProofs only [go_sem]))
                refine .pure _ (s19 rows[i] hri) rfl fun q hq _ => ?_
                subst hq
                (simp -implicitDefEqProofs only [go_sem, bA]; repeat (refine GO ?_; simp -implicitDefEqProofs only [go_sem, bA]))
                refine VIF.split (fun h3 => ?_) (fun h3 => ?_)
                · (simp -implicitDefEqProofs only [go_sem, bA]; repeat (refine GO ?_; simp -implicitDefEqProofs only [go_sem, bA]))
                · (simp -implicitDefEqProofs only [go_sem]; repeat (refine GO ?_; simp -implicitDefEqProofs only [go_sem]))
                  refine EL.map h2 ?_
                  (simp -implicitDefEqProofs only [go_sem]; repeat (refine GO ?_; simp -implicitDefEqProofs only [go_sem]))
                  refine .pure _ (s17 rows[i] hri) rfl fun q hq _ => ?_
                  subst hq
                  (simp -implicitDefEqProofs only [go_sem, iA]; repeat (refine GO ?_; simp -implicitDefEqProofs only [go_sem, iA]))
                  refine VIF.split (fun h4 => ?_) (fun h4 => ?_)
                  · (simp -implicitDefEqProofs only [go_sem, bA]; repeat (refine GO ?_; simp -implicitDefEqProofs only [go_sem, bA]))
                  · have h4 : okR rows[i] = 0 := by simpa using h4
                    (simp -implicitDefEqProofs only [go_sem, w1]; repeat (refine GO ?_; simp -implicitDefEqProofs only [go_sem, w1]))
                    refine BACK.mk ⟨i + 1, by omega, fun j hj hji => ?_⟩ [] rfl rfl (by show rows.length - (i + 1) < rows.length - i; omega) ?_
                    · by_cases e : j = i
                      · subst e; exact ⟨not_heavyR h3, h4⟩
                      · exact hg j hj (by omega)
                    · (simp -implicitDefEqProofs only [go_sem, rowsA, iA, w1]; repeat (refine GO ?_; simp -implicitDefEqProofs only [go_sem, rowsA, iA, w1]))
                      exact id
              · have h2 : i = rows.length := by simp at h2; omega
                subst h2
                have hg : ∀ r ∈ rows, r.length ≤ 40 ∧ okR r = 0 := fun r hr => by
                  obtain ⟨j, hj, rfl⟩ := List.mem_iff_getElem.1 hr
                  exact hg j hj hj
                clear hm h6 h7 hmt hms hmlen hgood hz2f hz2r hwt hmd hperm hos hst hs hzf hzt hzw hzr hzl
                (simp -implicitDefEqProofs only [go_sem]; repeat (refine GO ?_; simp -implicitDefEqProofs only [go_sem]))
                have hil : (rows.map oneI).length = rows.length := by simp
                have hif : ((rows.map oneI).any fun t => !okI t) = false := by
                  rw [List.any_eq_false]; intro t ht
                  obtain ⟨r, hr, rfl⟩ := List.mem_map.1 ht
                  simp [okI, oneI, (hg r hr).2, okW, inB]
                have hiw : ∀ t ∈ rows.map oneI, -1 ≤ t.w ∧ t.w ≤ 1 := fun t ht => by
                  obtain ⟨r, hr, rfl⟩ := List.mem_map.1 ht
                  simp [oneI]
                have hit : ∀ r, okW (tot r (rows.map oneI)) = true := fun r => by
                  have := tot_bound (k := 1) (by decide) hiw r
                  rw [hil] at this
                  simp [okW, inB]; omega
                have hpos := ones_pos rows
                refine .make 191 _ (s20 rows (by omega) (fun r hr => by have := (hg r hr).1; omega)) rfl (by simp) rfl fun q ob hq _ => ?_
                obtain ⟨y, err, rfl, rfl, hm⟩ := hq
                obtain ⟨rfl, hmd, hmt, hms, hmlen⟩ := makeR_fine hm hif hit
                rw [hil] at hmlen
                have hgood : Good y := good_made.2 ⟨hmd, fun t ht => (hms t ht).1⟩
                have hyr : ∀ t ∈ y, t.row.length ≤ 40 := fun t ht => by
                  obtain ⟨u, hu, e⟩ := (hms t ht).2
                  obtain ⟨r, hr, rfl⟩ := List.mem_map.1 hu
                  rw [← e]; exact (hg r hr).1
                have hwt : ∀ r, wt r y = tot r (rows.map oneI) := fun r => (wt_tot hmd r).trans (hmt r)
                have habs : absS y = rows.length := by
                  have h1 := sum_tot _ y (rows.map oneI) (Nat.le_refl _) hmt
                  have h3 : ∀ t ∈ y, 0 < t.w := fun t ht => by
                    have h4 := hpos t.row
                    rw [← hmt, tot_made hmd ht] at h4
                    have := (hmd.nz t ht).1
                    omega
                  rw [abs_sum h3, h1, ones_sum]
                (simp -implicitDefEqProofs only [go_sem, iA]; repeat (refine GO ?_; simp -implicitDefEqProofs only [go_sem, iA]))
                refine VIF.split (fun h => absurd h (by decide)) (fun _ => ?_)
                (simp -implicitDefEqProofs only [go_sem]; repeat (refine GO ?_; simp -implicitDefEqProofs only [go_sem]))
                refine LOOP.mk (ι := { i : Nat // i ≤ rows.length }) (fun p => mkS [(2, rowsA rows), (21, setA y), (22, iA p.1)] [] []) (fun p => rows.length - p.1) ⟨0, Nat.zero_le _⟩ [] rfl rfl ?_ (fun p => ?_)
                · (simp -implicitDefEqProofs only [go_sem, rowsA, setA, iA]; repeat (refine GO ?_; simp -implicitDefEqProofs only [go_sem, rowsA, setA, iA]))
                  exact ⟨id, ⟨by decide, _, rfl, so_leafy y, rfl, List.take_of_length_le (by simp [so])⟩, rfl⟩
                · obtain ⟨i, hi⟩ := p
                  (simp -implicitDefEqProofs only [go_sem, rowsA, setA, iA]; repeat (refine GO ?_; simp -implicitDefEqProofs only [go_sem, rowsA, setA, iA]))
                  refine VIF.split (fun h1 => ?_) (fun h1 => ?_)
                  · have h1 : i < rows.length := by simpa using h1
                    (simp -implicitDefEqProofs only [go_sem]; repeat (refine GO ?_; simp -implicitDefEqProofs only [go_sem]))
                    refine LOOP.mk (ι := { k : Nat // k ≤ rows.length }) (fun p => mkS [(2, rowsA rows), (21, setA y), (22, iA i), (23, iA (tot rows[i] ((rows.take p.1).map oneI))), (24, iA p.1)] [] []) (fun p => rows.length - p.1) ⟨0, Nat.zero_le _⟩ [] rfl rfl ?_ (fun p => ?_)
                    · (simp -implicitDefEqProofs only [go_sem, rowsA, setA, iA]; repeat (refine GO ?_; simp -implicitDefEqProofs only [go_sem, rowsA, setA, iA]))
                      exact ⟨id, rfl, rfl⟩
                    · obtain ⟨k, hk⟩ := p
                      (simp -implicitDefEqProofs only [go_sem, rowsA, setA, iA]; repeat (refine GO ?_; simp -implicitDefEqProofs only [go_sem, rowsA, setA, iA]))
                      refine VIF.split (fun h2 => ?_) (fun h2 => ?_)
                      · have h2 : k < rows.length := by simpa using h2
                        have w1 := wrap_add1 (show k < 4611686018427387904 by omega)
                        have htk : tot rows[i] ((rows.take (k + 1)).map oneI) = tot rows[i] ((rows.take k).map oneI) + (if cmpR rows[k] rows[i] = 0 then 1 else 0) := by
                          rw [List.take_succ_eq_append_getElem h2, List.map_append, tot_append]; simp [tot, oneI]
                        (simp -implicitDefEqProofs only [go_sem]; repeat (refine GO ?_; simp -implicitDefEqProofs only [go_sem]))
                        refine EL.map h2 ?_
                        (simp -implicitDefEqProofs only [go_sem]; repeat (refine GO ?_; simp -implicitDefEqProofs only [go_sem]))
                        refine EL.map h1 ?_
                        (simp -implicitDefEqProofs only [go_sem]; repeat (refine GO ?_; simp -implicitDefEqProofs only [go_sem]))
                        refine .pure _ (s14 rows[k] rows[i] (hrr _ (List.getElem_mem h2))) rfl fun q hq _ => ?_
                        obtain ⟨e8, rfl, h8⟩ := hq
                        (simp -implicitDefEqProofs only [go_sem, bA]; repeat (refine GO ?_; simp -implicitDefEqProofs only [go_sem, bA]))
                        refine VIF.split (fun h9 => ?_) (fun h9 => ?_)
                        · have e9 := h8.1 h9
                          have hb1 := ones_pos (rows.take k) rows[i]
                          have hb2 := tot_bound (k := 1) (z := (rows.take k).map oneI) (by decide) (fun t ht => by obtain ⟨r, _, rfl⟩ := List.mem_map.1 ht; simp [oneI]) rows[i]
                          rw [List.length_map, List.length_take] at hb2
                          have w2 : IntKind.i64.wrap (tot rows[i] ((rows.take k).map oneI) + 1) = tot rows[i] ((rows.take k).map oneI) + 1 := by rw [wrap_i64] <;> omega
                          rw [if_pos (by rw [e9]; exact lin_cmpR.self _)] at htk
                          (simp -implicitDefEqProofs only [go_sem, w1, w2]; repeat (refine GO ?_; simp -implicitDefEqProofs only [go_sem, w1, w2]))
                          refine BACK.mk ⟨k + 1, by omega⟩ [] rfl rfl (by show rows.length - (k + 1) < rows.length - k; omega) ?_
                          (simp -implicitDefEqProofs only [go_sem, rowsA, setA, iA, w1, w2, htk]; repeat (refine GO ?_; simp -implicitDefEqProofs only [go_sem, rowsA, setA, iA, w1, w2, htk]))
                          exact id
                        · have e9 : rows[k] ≠ rows[i] := fun e => by rw [h8.2 e] at h9; cases h9
                          rw [if_neg (fun e => e9 (lin_cmpR.eq _ _ e)), Int.add_zero] at htk
                          (simp -implicitDefEqProofs only [go_sem, w1]; repeat (refine GO ?_; simp -implicitDefEqProofs only [go_sem, w1]))
                          refine BACK.mk ⟨k + 1, by omega⟩ [] rfl rfl (by show rows.length - (k + 1) < rows.length - k; omega) ?_
                          (simp -implicitDefEqProofs only [go_sem, rowsA, setA, iA, w1, htk]; repeat (refine GO ?_; simp -implicitDefEqProofs only [go_sem, rowsA, setA, iA, w1, htk]))
                          exact id
                      · have h2 : k = rows.length := by simp at h2; omega
                        subst h2
                        have w1 := wrap_add1 (show i < 4611686018427387904 by omega)
                        (simp -implicitDefEqProofs only [go_sem, List.take_length]; repeat (refine GO ?_; simp -implicitDefEqProofs only [go_sem, List.take_length]))
                        refine EL.map h1 ?_
                        (simp -implicitDefEqProofs only [go_sem]; repeat (refine GO ?_; simp -implicitDefEqProofs only [go_sem]))
                        refine .pure _ (s15 y rows[i] (fun t ht => by have := hyr t ht; omega) (by omega)) rfl fun q hq _ => ?_
                        subst hq
                        rw [hwt]
                        (simp -implicitDefEqProofs only [go_sem, iA, w1]; repeat (refine GO ?_; simp -implicitDefEqProofs only [go_sem, iA, w1]))
                        refine VIF.split (fun h => absurd h (by decide)) (fun _ => ?_)
                        (simp -implicitDefEqProofs only [go_sem, w1]; repeat (refine GO ?_; simp -implicitDefEqProofs only [go_sem, w1]))
                        refine BACK.mk ⟨i + 1, by omega⟩ [] rfl rfl (by show rows.length - (i + 1) < rows.length - i; omega) ?_
                        (simp -implicitDefEqProofs only [go_sem, rowsA, setA, iA, w1]; repeat (refine GO ?_; simp -implicitDefEqProofs only [go_sem, rowsA, setA, iA, w1]))
                        exact id
                  · (simp -implicitDefEqProofs only [go_sem]; repeat (refine GO ?_; simp -implicitDefEqProofs only [go_sem]))
                    refine .pure _ (s21 y (by omega) (fun t ht => by have := hyr t ht; omega)) rfl fun q hq _ => ?_
                    obtain ⟨n, rfl, hn, _⟩ := hq
                    have hn := hn hgood
                    have hn : n = rows.length := by rw [hn, habs]; simp only [topM]; omega
                    subst hn
                    (simp -implicitDefEqProofs only [go_sem, iA]; repeat (refine GO ?_; simp -implicitDefEqProofs only [go_sem, iA]))
                    refine VIF.split (fun _ => ?_) (fun h => absurd h (by decide))
                    (simp -implicitDefEqProofs only [go_sem]; repeat (refine GO ?_; simp -implicitDefEqProofs only [go_sem]))
                    refine .pure _ s12 rfl fun q hq _ => ?_
                    subst hq
                    (simp -implicitDefEqProofs only [go_sem, bA]; repeat (refine GO ?_; simp -implicitDefEqProofs only [go_sem, bA]))
end Yt
