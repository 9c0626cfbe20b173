/- The law SetSorted. What is proved: contracts of the program's functions over abstract values, or plain facts on which these lean; the conditions stand in each theorem. -/
import Derived.Test.YtpipfaegkgakiaaYtQ
set_option linter.all false
/-! The law SetSorted. -/
namespace Yt
open Go Go.Vc Go.Proofs
set_option maxRecDepth 10000
set_option maxHeartbeats 4000000
set_option linter.unusedSimpArgs false
set_option linter.unusedVariables false
theorem not_heavyR {r : List V} (h : heavyR r = false) : r.length ≤ 40 := by
  simp [heavyR] at h; omega
theorem not_heavyS {z : List It} (h : heavyS z = false) : z.length ≤ 300 ∧ ∀ t ∈ z, t.row.length ≤ 40 := by
  simp only [heavyS, Bool.or_eq_false_iff, List.any_eq_false, decide_eq_false_iff_not] at h
  exact ⟨by omega, fun t ht => not_heavyR (by have := h.2 t ht; simpa [heavyI] using this)⟩
def zeroI (r : List V) : It := ⟨r, 0⟩
theorem wt_tot {o : List It} (h : Made o) (r : List V) : wt r o = tot r o := by
  unfold wt
  cases hf : o.findIdx? fun t => decide (cmpR t.row r = 0) with
  | none =>
    rw [List.findIdx?_eq_none_iff] at hf
    rw [tot_none fun t ht => by simpa using hf t ht]
    rfl
  | some i =>
    rw [List.findIdx?_eq_some_iff_getElem] at hf
    obtain ⟨h1, h2, _⟩ := hf
    have h2 : cmpR o[i].row r = 0 := by simpa using h2
    have h3 := lin_cmpR.eq _ _ h2
    rw [← h3, tot_made h (List.getElem_mem h1)]
    simp [wtI, h1]
theorem tot_there {o : List It} (h : Made o) (r : List V) : tot r o ≠ 0 ↔ ∃ t ∈ o, t.row = r := by
  constructor
  · intro hn
    apply Classical.byContradiction
    intro hno
    exact hn (tot_none fun t ht e => hno ⟨t, ht, lin_cmpR.eq _ _ e⟩)
  · rintro ⟨t, ht, rfl⟩
    rw [tot_made h ht]
    exact (h.nz t ht).1
theorem good_made {z : List It} : Good z ↔ Made z ∧ ∀ t ∈ z, okR t.row = 0 := by
  constructor
  · intro h
    refine ⟨⟨?_, ?_⟩, ?_⟩
    · rw [List.pairwise_iff_getElem]
      intro i j hi hj hij
      induction j with
      | zero => omega
      | succ j ih =>
        have h1 := (h (j + 1) hj).up (by omega)
        simp only [Nat.add_sub_cancel] at h1
        by_cases e : i = j
        · subst e; exact h1
        · exact lin_cmpR.trans _ _ _ (ih (by omega) (by omega)) h1
    · intro t ht
      obtain ⟨i, hi, rfl⟩ := List.mem_iff_getElem.1 ht
      have := (h i hi).ok
      simp only [okI, Bool.and_eq_true] at this
      exact ⟨(h i hi).nz, this.2⟩
    · intro t ht
      obtain ⟨i, hi, rfl⟩ := List.mem_iff_getElem.1 ht
      have := (h i hi).ok
      simp [okI] at this
      exact this.1
  · rintro ⟨hm, ho⟩ i hi
    have h1 := hm.nz _ (List.getElem_mem hi)
    refine ⟨by simp [okI, ho _ (List.getElem_mem hi), h1.2], h1.1, fun h0 => ?_⟩
    exact List.pairwise_iff_getElem.1 hm.pw (i - 1) i (by omega) hi (by omega)
theorem nz_sign {l : List Int} (h : ∀ x ∈ l, x = -1 ∨ x = 0 ∨ x = 1) : nz l = -1 ∨ nz l = 0 ∨ nz l = 1 := by
  induction l with
  | nil => simp [nz]
  | cons x l ih =>
    simp only [nz]
    split
    · exact ih fun y hy => h y (by simp [hy])
    · exact h x (by simp)
theorem cmpI_sign (x y : Int) : cmpI x y = -1 ∨ cmpI x y = 0 ∨ cmpI x y = 1 := by
  simp only [cmpI]; split
  · exact .inl rfl
  · split
    · exact .inr (.inr rfl)
    · exact .inr (.inl rfl)
theorem cmpS_sign (x y : ByteArray) : cmpS x y = -1 ∨ cmpS x y = 0 ∨ cmpS x y = 1 := by
  simp only [cmpS]; split
  · exact .inl rfl
  · split
    · exact .inr (.inr rfl)
    · exact .inr (.inl rfl)
theorem cmpV_sign (a b : V) : cmpV a b = -1 ∨ cmpV a b = 0 ∨ cmpV a b = 1 := by
  refine nz_sign fun x hx => ?_
  simp only [List.mem_cons, List.not_mem_nil, or_false] at hx
  rcases hx with rfl | rfl | rfl
  · exact cmpI_sign _ _
  · exact cmpI_sign _ _
  · exact cmpS_sign _ _
theorem cmpR_sign : ∀ (a b : List V), cmpR a b = -1 ∨ cmpR a b = 0 ∨ cmpR a b = 1
  | [], [] => .inr (.inl rfl)
  | [], _ :: _ => .inl rfl
  | _ :: _, [] => .inr (.inr rfl)
  | a :: x, b :: y => by
    simp only [cmpR]
    split
    · exact cmpR_sign x y
    · exact cmpV_sign a b
theorem s3 (l : List It) (r : List V) (hl : l.length < 4611686018427387904) (hr : ∀ t ∈ l, t.row.length < 4611686018427387904) (hrr : r.length < 4611686018427387904) :
    Spec0 Try.prog 3 [setA l, rowA r] (· = bA true) := by
  refine spec0_of_vc tabOk elems ord3 Try.func3 rfl (rl := [.tmp 4]) rfl (by kernel_rfl) rfl ?_
  (simp -implicitDefEqProofs only [go_sem, setA, rowA]; repeat (refine GO ?_; simp -implicitDefEqProofs only [go_sem, setA, rowA]))
  refine .lendTo (s10 [l] (by simp) (by simpa using hl) (by simpa using hr)) ?_ (by rintro _ rfl; rfl) fun q hq => ?_
  · (simp -implicitDefEqProofs only [go_sem, setsA, setA]; repeat (refine GO ?_; simp -implicitDefEqProofs only [go_sem, setsA, setA]))
    rfl
  subst hq
  cases hb : heavyS l with
  | true =>
    have e : bA ([l].any heavyS) = .pr (.bool true) := by simp [hb, bA]
    (simp -implicitDefEqProofs only [go_sem, e]; repeat (refine GO ?_; simp -implicitDefEqProofs only [go_sem, e]))
    rfl
  | false =>
    have e : bA ([l].any heavyS) = .pr (.bool false) := by simp [hb, bA]
    simp -implicitDefEqProofs only [go_sem, e]
    refine TOG [(16, some 16)] [(0, setA l), (1, rowA r), (4, bA false), (12, bA false), (16, .rf 16 0 1)] [(16, ⟨1, [[setA [zeroI r]]]⟩)] [16] rfl ?_ ?_
    · (simp -implicitDefEqProofs only [go_sem, setA, rowA, bA]; repeat (refine GO ?_; simp -implicitDefEqProofs only [go_sem, setA, rowA, bA]))
      refine ⟨id, .cons ?_ .nil⟩
      simp only [wk.wks, wk]
      exact ⟨⟨by decide, _, rfl, by simp [Ob.leafy, AV.leaf], rfl, rfl⟩, trivial⟩
    refine TO [] [(0, setA l), (1, rowA r), (4, bA false), (12, bA false), (16, setsA [[zeroI r]])] [] [] rfl ?_ ?_
    · (simp -implicitDefEqProofs only [go_sem, setA, rowA, bA, setsA]; repeat (refine GO ?_; simp -implicitDefEqProofs only [go_sem, setA, rowA, bA, setsA]))
      exact ⟨id, by decide, _, rfl, by simp [Ob.leafy, AV.leaf], rfl, rfl⟩
    (simp -implicitDefEqProofs only [go_sem, setA, rowA, bA, setsA]; repeat (refine GO ?_; simp -implicitDefEqProofs only [go_sem, setA, rowA, bA, setsA]))
    refine .pure _ (s10 [[zeroI r]] (by simp) (by simp) (by simpa [zeroI] using hrr)) rfl fun q hq _ => ?_
    subst hq
    obtain ⟨hll, hrl⟩ := not_heavyS hb
    cases hb2 : [[zeroI r]].any heavyS with
    | true =>
      (simp -implicitDefEqProofs only [go_sem, hb2, bA]; repeat (refine GO ?_; simp -implicitDefEqProofs only [go_sem, hb2, bA]))
    | false =>
      have hrr : r.length ≤ 40 := by
        have : heavyS [zeroI r] = false := by simpa using hb2
        exact (not_heavyS this).2 (zeroI r) (by simp)
      (simp -implicitDefEqProofs only [go_sem, hb2, bA]; repeat (refine GO ?_; simp -implicitDefEqProofs only [go_sem, hb2, bA]))
      refine .make 21 _ (s11 l (by omega) (fun t ht => by have := hrl t ht; omega)) rfl (by simp) rfl fun q o hro _ => ?_
      obtain ⟨out, err, rfl, rfl, hm⟩ := hro
      (simp -implicitDefEqProofs only [go_sem, iA]; repeat (refine GO ?_; simp -implicitDefEqProofs only [go_sem, iA]))
      refine VIF.split (fun h1 => ?_) (fun h1 => ?_)
      · have h1 : err ≠ 0 := by simpa using h1
        have h2 : out = [] ∧ (err = 1 ∨ err = 11) := by
          rcases hm with ⟨_, a, b⟩ | ⟨_, a, b, _⟩ | ⟨_, a, _⟩
          · exact ⟨a, .inl b⟩
          · exact ⟨a, .inr b⟩
          · exact absurd a h1
        obtain ⟨rfl, h2⟩ := h2
        rcases h2 with rfl | rfl
        · (simp -implicitDefEqProofs only [go_sem, iA]; repeat (refine GO ?_; simp -implicitDefEqProofs only [go_sem, iA]))
          refine VIF.split (fun _ => ?_) (fun h => absurd h (by decide))
          (simp -implicitDefEqProofs only [go_sem]; repeat (refine GO ?_; simp -implicitDefEqProofs only [go_sem]))
          refine VIF.split (fun _ => ?_) (fun h => absurd h (by decide))
          (simp -implicitDefEqProofs only [go_sem]; repeat (refine GO ?_; simp -implicitDefEqProofs only [go_sem]))
          refine .pure _ s12 rfl fun q hq _ => ?_
          subst hq
          (simp -implicitDefEqProofs only [go_sem, bA]; repeat (refine GO ?_; simp -implicitDefEqProofs only [go_sem, bA]))
        · (simp -implicitDefEqProofs only [go_sem, iA]; repeat (refine GO ?_; simp -implicitDefEqProofs only [go_sem, iA]))
          refine VIF.split (fun h => absurd h (by decide)) (fun _ => ?_)
          (simp -implicitDefEqProofs only [go_sem]; repeat (refine GO ?_; simp -implicitDefEqProofs only [go_sem]))
          refine VIF.split (fun _ => ?_) (fun h => absurd h (by decide))
          (simp -implicitDefEqProofs only [go_sem]; repeat (refine GO ?_; simp -implicitDefEqProofs only [go_sem]))
          refine VIF.split (fun _ => ?_) (fun h => absurd h (by decide))
          (simp -implicitDefEqProofs only [go_sem]; repeat (refine GO ?_; simp -implicitDefEqProofs only [go_sem]))
          refine .pure _ s12 rfl fun q hq _ => ?_
          subst hq
          (simp -implicitDefEqProofs only [go_sem, bA]; repeat (refine GO ?_; simp -implicitDefEqProofs only [go_sem, bA]))
      · have h1 : err = 0 := by simpa using h1
        obtain ⟨hmd, hsub, hlen⟩ : Made out ∧ (∀ t ∈ out, okR t.row = 0 ∧ ∃ u ∈ l, u.row = t.row) ∧ out.length ≤ l.length := by
          rcases hm with ⟨_, a, b⟩ | ⟨_, a, b, _⟩ | ⟨_, a, b, c, d⟩
          · omega
          · omega
          · exact ⟨b, d⟩
        have hgood : Good out := good_made.2 ⟨hmd, fun t ht => (hsub t ht).1⟩
        have hrow : ∀ t ∈ out, t.row.length ≤ 40 := fun t ht => by
          obtain ⟨u, hu, e⟩ := (hsub t ht).2
          rw [← e]; exact hrl u hu
        (simp -implicitDefEqProofs only [go_sem]; repeat (refine GO ?_; simp -implicitDefEqProofs only [go_sem]))
        refine LOOP.mk (ι := { p : Nat × Bool // p.1 ≤ out.length ∧ (p.2 = true ↔ ∃ t ∈ out.take p.1, t.row = r) }) (fun p => mkS [(1, rowA r), (5, setA out), (7, bA p.1.2), (8, iA p.1.1)] [] [])
          (fun p => out.length - p.1.1) ⟨(0, false), Nat.zero_le _, by simp⟩ [] rfl rfl ?_ (fun p => ?_)
        · (simp -implicitDefEqProofs only [go_sem, rowA, setA, bA, iA]; repeat (refine GO ?_; simp -implicitDefEqProofs only [go_sem, rowA, setA, bA, iA]))
          exact ⟨id, ⟨by decide, _, rfl, so_leafy out, rfl, List.take_of_length_le (by simp [so])⟩, rfl⟩
        · obtain ⟨⟨i, b⟩, hi, hb3⟩ := p
          simp only at hi hb3
          (simp -implicitDefEqProofs only [go_sem, rowA, setA, bA, iA]; repeat (refine GO ?_; simp -implicitDefEqProofs only [go_sem, rowA, setA, bA, iA]))
          refine VIF.split (fun h2 => ?_) (fun h2 => ?_)
          · have h2 : i < out.length := by simpa using h2
            have w1 := wrap_add1 (show i < 4611686018427387904 by omega)
            have hnz := (hmd.nz _ (List.getElem_mem h2)).1
            (simp -implicitDefEqProofs only [go_sem]; repeat (refine GO ?_; simp -implicitDefEqProofs only [go_sem]))
            refine EL.map h2 ?_
            (simp -implicitDefEqProofs only [go_sem, It.c, iA]; repeat (refine GO ?_; simp -implicitDefEqProofs only [go_sem, It.c, iA]))
            refine VIF.split (fun h3 => ?_) (fun h3 => ?_)
            · exact absurd (by simpa using h3) hnz
            · have step : ∀ e : Bool, (e = true ↔ out[i].row = r) → ∀ q : Bool, q = (b || e) → i + 1 ≤ out.length ∧ (q = true ↔ ∃ t ∈ out.take (i + 1), t.row = r) := by
                intro e he q hq
                refine ⟨h2, ?_⟩
                subst hq
                rw [List.take_succ_eq_append_getElem h2, Bool.or_eq_true, he, hb3]
                simp only [List.mem_append, List.mem_singleton]
                constructor
                · rintro (⟨t, h1, h2⟩ | h)
                  · exact ⟨t, .inl h1, h2⟩
                  · exact ⟨_, .inr rfl, h⟩
                · rintro ⟨t, h1 | rfl, h2⟩
                  · exact .inl ⟨t, h1, h2⟩
                  · exact .inr h2
              (simp -implicitDefEqProofs only [go_sem]; repeat (refine GO ?_; simp -implicitDefEqProofs only [go_sem]))
              refine VIF.split (fun h4 => ?_) (fun h4 => ?_)
              · have h4 : 0 < i := by simp at h4; omega
                have w2 := wrap_sub1 (show 1 ≤ i from h4) (by omega)
                (simp -implicitDefEqProofs only [go_sem, w2]; repeat (refine GO ?_; simp -implicitDefEqProofs only [go_sem, w2]))
                refine EL.map (show i - 1 < out.length by omega) ?_
                (simp -implicitDefEqProofs only [go_sem, It.c]; repeat (refine GO ?_; simp -implicitDefEqProofs only [go_sem, It.c]))
                refine EL.map h2 ?_
                (simp -implicitDefEqProofs only [go_sem, It.c]; repeat (refine GO ?_; simp -implicitDefEqProofs only [go_sem, It.c]))
                refine .pure _ (s13 out[i - 1].row out[i].row (by have := hrow _ (List.getElem_mem (show i - 1 < out.length by omega)); omega)) rfl fun q hq _ => ?_
                subst hq
                (simp -implicitDefEqProofs only [go_sem]; repeat (refine GO ?_; simp -implicitDefEqProofs only [go_sem]))
                refine VIF.split (fun h5 => ?_) (fun h5 => ?_)
                · exfalso
                  have h6 := (hgood i h2).up h4
                  simp only [cI] at h6
                  have h7 := cmpR_sign out[i - 1].row out[i].row
                  simp at h5; omega
                · (simp -implicitDefEqProofs only [go_sem]; repeat (refine GO ?_; simp -implicitDefEqProofs only [go_sem]))
                  refine VIF.split (fun h6 => ?_) (fun h6 => ?_)
                  · subst h6
                    (simp -implicitDefEqProofs only [go_sem, w1]; repeat (refine GO ?_; simp -implicitDefEqProofs only [go_sem, w1]))
                    refine BACK.mk ⟨(i + 1, true), by
                      obtain ⟨t, ht, e⟩ := hb3.1 rfl
                      refine ⟨h2, fun _ => ⟨t, ?_, e⟩, fun _ => rfl⟩
                      rw [List.take_succ_eq_append_getElem h2]; exact List.mem_append_left _ ht⟩ [] rfl rfl (by show out.length - (i + 1) < out.length - i; omega) ?_
                    (simp -implicitDefEqProofs only [go_sem, rowA, setA, bA, iA, w1]; repeat (refine GO ?_; simp -implicitDefEqProofs only [go_sem, rowA, setA, bA, iA, w1]))
                    exact id
                  · subst h6
                    (simp -implicitDefEqProofs only [go_sem]; repeat (refine GO ?_; simp -implicitDefEqProofs only [go_sem]))
                    refine EL.map h2 ?_
                    (simp -implicitDefEqProofs only [go_sem, It.c]; repeat (refine GO ?_; simp -implicitDefEqProofs only [go_sem, It.c]))
                    refine .pure _ (s14 out[i].row r (by have := hrow _ (List.getElem_mem h2); omega)) rfl fun q hq _ => ?_
                    obtain ⟨e, rfl, he⟩ := hq
                    (simp -implicitDefEqProofs only [go_sem, bA, w1]; repeat (refine GO ?_; simp -implicitDefEqProofs only [go_sem, bA, w1]))
                    refine BACK.mk ⟨(i + 1, e), step e he e (by simp)⟩ [] rfl rfl (by show out.length - (i + 1) < out.length - i; omega) ?_
                    (simp -implicitDefEqProofs only [go_sem, rowA, setA, bA, iA, w1]; repeat (refine GO ?_; simp -implicitDefEqProofs only [go_sem, rowA, setA, bA, iA, w1]))
                    exact id
              · have h4 : i = 0 := by simp at h4; omega
                (simp -implicitDefEqProofs only [go_sem]; repeat (refine GO ?_; simp -implicitDefEqProofs only [go_sem]))
                refine VIF.split (fun h6 => ?_) (fun h6 => ?_)
                · subst h6
                  (simp -implicitDefEqProofs only [go_sem, w1]; repeat (refine GO ?_; simp -implicitDefEqProofs only [go_sem, w1]))
                  refine BACK.mk ⟨(i + 1, true), by
                    obtain ⟨t, ht, e⟩ := hb3.1 rfl
                    refine ⟨h2, fun _ => ⟨t, ?_, e⟩, fun _ => rfl⟩
                    rw [List.take_succ_eq_append_getElem h2]; exact List.mem_append_left _ ht⟩ [] rfl rfl (by show out.length - (i + 1) < out.length - i; omega) ?_
                  (simp -implicitDefEqProofs only [go_sem, rowA, setA, bA, iA, w1]; repeat (refine GO ?_; simp -implicitDefEqProofs only [go_sem, rowA, setA, bA, iA, w1]))
                  exact id
                · subst h6
                  (simp -implicitDefEqProofs only [go_sem]; repeat (refine GO ?_; simp -implicitDefEqProofs only [go_sem]))
                  refine EL.map h2 ?_
                  (simp -implicitDefEqProofs only [go_sem, It.c]; repeat (refine GO ?_; simp -implicitDefEqProofs only [go_sem, It.c]))
                  refine .pure _ (s14 out[i].row r (by have := hrow _ (List.getElem_mem h2); omega)) rfl fun q hq _ => ?_
                  obtain ⟨e, rfl, he⟩ := hq
                  (simp -implicitDefEqProofs only [go_sem, bA, w1]; repeat (refine GO ?_; simp -implicitDefEqProofs only [go_sem, bA, w1]))
                  refine BACK.mk ⟨(i + 1, e), step e he e (by simp)⟩ [] rfl rfl (by show out.length - (i + 1) < out.length - i; omega) ?_
                  (simp -implicitDefEqProofs only [go_sem, rowA, setA, bA, iA, w1]; repeat (refine GO ?_; simp -implicitDefEqProofs only [go_sem, rowA, setA, bA, iA, w1]))
                  exact id
          · have h2 : i = out.length := by simp at h2; omega
            subst h2
            rw [List.take_length] at hb3
            have hw : decide (wt r out = 0) = !b := by
              have h1 := wt_tot hmd r
              have h2 := tot_there hmd r
              rw [← h1, ← hb3] at h2
              cases b <;> simp_all
            (simp -implicitDefEqProofs only [go_sem]; repeat (refine GO ?_; simp -implicitDefEqProofs only [go_sem]))
            refine .pure _ (s15 out r (fun t ht => by have := hrow t ht; omega) (by omega)) rfl fun q hq _ => ?_
            subst hq
            (simp -implicitDefEqProofs only [go_sem, iA, hw]; repeat (refine GO ?_; simp -implicitDefEqProofs only [go_sem, iA, hw]))
            refine VIF.split (fun h3 => ?_) (fun h3 => ?_)
            · (simp -implicitDefEqProofs only [go_sem]; repeat (refine GO ?_; simp -implicitDefEqProofs only [go_sem]))
              refine .pure _ (s16 out (by omega) (fun t ht => by have := hrow t ht; omega)) rfl fun q hq _ => ?_
              obtain ⟨e2, rfl, _, he2⟩ := hq
              have he2 := he2.2 hgood
              subst he2
              (simp -implicitDefEqProofs only [go_sem, iA]; repeat (refine GO ?_; simp -implicitDefEqProofs only [go_sem, iA]))
              refine VIF.split (fun _ => ?_) (fun h => absurd h (by decide))
              (simp -implicitDefEqProofs only [go_sem]; repeat (refine GO ?_; simp -implicitDefEqProofs only [go_sem]))
              refine .pure _ s12 rfl fun q hq _ => ?_
              subst hq
              (simp -implicitDefEqProofs only [go_sem, bA]; repeat (refine GO ?_; simp -implicitDefEqProofs only [go_sem, bA]))
            · cases b <;> simp at h3
end Yt
