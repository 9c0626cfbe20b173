/- The law SetMany. What is proved: contracts of the program's functions over abstract values, or plain facts on which these lean; the conditions stand in each theorem. -/
import Derived.Test.YtpipfaegkgakiaaYtAD
import Derived.Test.YtpipfaegkgakiaaYtV
set_option linter.all false
/-! The law SetMany. -/
namespace Yt
open Go Go.Vc Go.Proofs
set_option maxRecDepth 10000
set_option maxHeartbeats 8000000
set_option linter.unusedSimpArgs false
set_option linter.unusedVariables false
def mulI (n : Int) (t : It) : It := ⟨t.row, n * t.w⟩
theorem tot_mul (n : Int) (z : List It) (r : List V) : tot r (z.map (mulI n)) = n * tot r z := by
  induction z with
  | nil => simp [tot]
  | cons t z ih =>
    simp only [List.map_cons, tot, ih, mulI]
    split
    · rw [Int.mul_add]
    · rw [Int.zero_add, Int.zero_add]
theorem abs_mul (n : Int) (hn : 0 ≤ n) (z : List It) : absS (z.map (mulI n)) = n * absS z := by
  induction z with
  | nil => simp [absS]
  | cons t z ih =>
    simp only [List.map_cons, absS, ih, mulI, Int.mul_add]
    congr 1
    by_cases h : t.w ≤ -t.w
    · have h2 : n * t.w ≤ n * (-t.w) := Int.mul_le_mul_of_nonneg_left h hn
      rw [Int.mul_neg] at h2
      rw [Int.max_eq_right h, Int.max_eq_right h2, Int.mul_neg]
    · have h1 : -t.w ≤ t.w := by omega
      have h2 : n * (-t.w) ≤ n * t.w := Int.mul_le_mul_of_nonneg_left h1 hn
      rw [Int.mul_neg] at h2
      rw [Int.max_eq_left h1, Int.max_eq_left h2]
theorem abs_bound {z : List It} {k : Int} (hk : 0 ≤ k) (h : ∀ t ∈ z, -k ≤ t.w ∧ t.w ≤ k) : absS z ≤ k * z.length := by
  induction z with
  | nil => simp [absS]
  | cons t z ih =>
    have h1 := h t (by simp)
    have h2 := ih fun u hu => h u (by simp [hu])
    have e : k * ((t :: z).length : Int) = k + k * (z.length : Int) := by
      rw [List.length_cons, Int.natCast_add, Int.mul_add]; omega
    rw [e]
    simp only [absS]
    omega
theorem made_mul {n : Int} {z : List It} (hn : 0 < n) (hm : Made z) (hb : ∀ t ∈ z, okW (n * t.w) = true) : Made (z.map (mulI n)) := by
  refine ⟨?_, fun t ht => ?_⟩
  · rw [List.pairwise_map]
    exact hm.pw
  · obtain ⟨u, hu, rfl⟩ := List.mem_map.1 ht
    refine ⟨?_, hb u hu⟩
    exact Int.mul_ne_zero (by omega) (hm.nz u hu).1
/-- Added so many times. -/
structure Man (l z s : List It) (i : Nat) : Prop where
  made : Made s
  rows : ∀ t ∈ s, okR t.row = 0 ∧ ∃ u ∈ l, u.row = t.row
  tot : ∀ r, tot r s = i * Yt.tot r z
  len : s.length ≤ 60 * i
theorem s6 (l : List It) (n0 : Int) (hl : l.length < 4611686018427387904) (hr : ∀ t ∈ l, t.row.length < 4611686018427387904) :
    Spec0 Try.prog 6 [setA l, iA n0] (· = bA true) := by
  refine spec0_of_vc tabOk elems ord6 Try.func6 rfl (rl := [.tmp 4]) rfl (by kernel_rfl) rfl ?_
  obtain ⟨o, ho, ho0, ho1⟩ := u64_mod n0 12 (by decide) (by decide)
  obtain ⟨n, rfl⟩ := Int.eq_ofNat_of_zero_le ho0
  (simp -implicitDefEqProofs only [go_sem, setA, iA]; repeat (refine GO ?_; simp -implicitDefEqProofs only [go_sem, setA, iA]))
  refine .lendTo (s10 [l] (by simp) (by simpa using hl) (by simpa using hr)) ?_ (by rintro _ rfl; rfl) fun q hq => ?_
  · (simp -implicitDefEqProofs only [go_sem, setsA, setA]; repeat (refine GO ?_; simp -implicitDefEqProofs only [go_sem, setsA, setA]))
    rfl
  subst hq
  have e0 : [l].any heavyS = heavyS l := by simp
  rw [e0]
  (simp -implicitDefEqProofs only [go_sem, bA]; repeat (refine GO ?_; simp -implicitDefEqProofs only [go_sem, bA]))
  refine VIF.split (fun hb => ?_) (fun hb => ?_)
  · (simp -implicitDefEqProofs only [go_sem, bA]; repeat (refine GO ?_; simp -implicitDefEqProofs only [go_sem, bA]))
  obtain ⟨hll, hlr⟩ := not_heavyS hb
  (simp -implicitDefEqProofs only [go_sem]; repeat (refine GO ?_; simp -implicitDefEqProofs only [go_sem]))
  refine .make 15 _ (s24 l (by omega) (fun t ht => by have := hlr t ht; omega)) rfl (by simp) rfl fun q ob hq _ => ?_
  obtain ⟨z, rfl, rfl, tm⟩ := hq
  have hzr : ∀ t ∈ z, t.row.length ≤ 40 := fun t ht => by obtain ⟨_, u, hu, e⟩ := tm.rows t ht; rw [← e]; exact hlr u hu
  have hzl := tm.len
  (simp -implicitDefEqProofs only [go_sem, ho]; repeat (refine GO ?_; simp -implicitDefEqProofs only [go_sem, ho]))
  refine ⟨by decide, ?_⟩
  have hz : ∀ r, -356400 ≤ tot r z ∧ tot r z ≤ 356400 := fun r => by
    have := tot_bound (k := 5940) (by decide) tm.small r
    omega
  refine LOOP.mk (ι := { p : Nat × List It // p.1 ≤ n ∧ Man l z p.2 p.1 }) (fun p => mkS [(1, iA n), (5, setA z), (6, .rf 1000 0 p.1.2.length), (7, iA p.1.1)] [(1000, so p.1.2)] [1000])
    (fun p => n - p.1.1) ⟨(0, []), Nat.zero_le _, ⟨.nil, by simp⟩, by simp, fun r => by simp [tot], by simp⟩ [(1000, none)] rfl rfl ?_ (fun p => ?_)
  · (simp -implicitDefEqProofs only [go_sem, setA, iA, so, ho]; repeat (refine GO ?_; simp -implicitDefEqProofs only [go_sem, setA, iA, so, ho]))
    exact ⟨id, ⟨⟨by decide, _, rfl, so_leafy z, rfl, List.take_of_length_le (by simp)⟩, rfl⟩, rfl⟩
  · obtain ⟨⟨i, s⟩, hi, man⟩ := p
    simp only at hi man
    have hsl := man.len
    have hsr : ∀ t ∈ s, t.row.length ≤ 40 := fun t ht => by obtain ⟨_, u, hu, e⟩ := man.rows t ht; rw [← e]; exact hlr u hu
    have hsg : Good s := good_made.2 ⟨man.made, fun t ht => (man.rows t ht).1⟩
    (simp -implicitDefEqProofs only [go_sem, setA, iA, so]; repeat (refine GO ?_; simp -implicitDefEqProofs only [go_sem, setA, iA, so]))
    refine VIF.split (fun h => ?_) (fun h => ?_)
    · have h : i < n := by simpa using h
      have w1 := wrap_add1 (show i < 4611686018427387904 by omega)
      simp -implicitDefEqProofs only [go_sem]
      refine GO ?_
      simp -implicitDefEqProofs only [go_sem]
      refine TO [] [(1, iA n), (5, setA z), (7, iA i), (26, setA s), (27, setA z)] [] [] rfl ?_ ?_
      · (simp -implicitDefEqProofs only [go_sem, setA, iA, so]; repeat (refine GO ?_; simp -implicitDefEqProofs only [go_sem, setA, iA, so]))
        exact ⟨id, by decide, _, rfl, so_leafy s, rfl, List.take_of_length_le (by simp)⟩
      (simp -implicitDefEqProofs only [go_sem, setA, iA]; repeat (refine GO ?_; simp -implicitDefEqProofs only [go_sem, setA, iA]))
      refine .make 28 _ (s23 s z (by omega) (fun t ht => by have := hsr t ht; omega) (fun t ht => by have := hzr t ht; omega)) rfl (by simp) rfl fun q ob hq _ => ?_
      obtain ⟨s2, err, rfl, rfl, ha⟩ := hq
      have hm : MakeR (s ++ z) s2 err := by
        rcases ha with ⟨h, _⟩ | ⟨_, _, h⟩
        · exact absurd ⟨hsg, tm.good⟩ h
        · exact h
      have htt : ∀ r, tot r (s ++ z) = ((i + 1 : Nat) : Int) * tot r z := fun r => by
        rw [tot_append, man.tot r, Int.natCast_add, Int.add_mul]; omega
      have hfine : ((s ++ z).any fun t => !okI t) = false := by
        rw [List.any_eq_false]; intro t ht
        rcases List.mem_append.1 ht with ht | ht
        · simp [okI, (man.rows t ht).1, (man.made.nz t ht).2]
        · simp [okI, (tm.rows t ht).1, (tm.made.nz t ht).2]
      have hbd : ∀ (k : Nat) (x : Int), k ≤ 12 → -356400 ≤ x ∧ x ≤ 356400 → -4276800 ≤ (k : Int) * x ∧ (k : Int) * x ≤ 4276800 := fun k x hk hx => by
        have h1 : (k : Int) * x ≤ k * 356400 := Int.mul_le_mul_of_nonneg_left hx.2 (by omega)
        have h2 : (k : Int) * (-356400) ≤ k * x := Int.mul_le_mul_of_nonneg_left hx.1 (by omega)
        omega
      obtain ⟨rfl, hmd, hmt, hms, hmlen⟩ := makeR_fine hm hfine fun r => by
        have := hbd (i + 1) (tot r z) (by omega) (hz r)
        rw [htt]; simp only [okW, inB, Bool.and_eq_true, decide_eq_true_eq]; omega
      rw [List.length_append] at hmlen
      (simp -implicitDefEqProofs only [go_sem, iA, so]; repeat (refine GO ?_; simp -implicitDefEqProofs only [go_sem, iA, so]))
      refine VIF.split (fun h => absurd h (by decide)) (fun _ => ?_)
      (simp -implicitDefEqProofs only [go_sem, w1]; repeat (refine GO ?_; simp -implicitDefEqProofs only [go_sem, w1]))
      refine BACK.mk ⟨(i + 1, s2), by omega, hmd, fun t ht => ?_, fun r => (hmt r).trans (htt r), by show s2.length ≤ 60 * (i + 1); omega⟩ [(1000, some 28)] rfl rfl (by show n - (i + 1) < n - i; omega) ?_
      · obtain ⟨h1, u, hu, e⟩ := hms t ht
        refine ⟨h1, ?_⟩
        rcases List.mem_append.1 hu with hu | hu
        · obtain ⟨_, v, hv, e2⟩ := man.rows u hu; exact ⟨v, hv, e2.trans e⟩
        · obtain ⟨_, v, hv, e2⟩ := tm.rows u hu; exact ⟨v, hv, e2.trans e⟩
      · (simp -implicitDefEqProofs only [go_sem, setA, iA, so, w1]; repeat (refine GO ?_; simp -implicitDefEqProofs only [go_sem, setA, iA, so, w1]))
        exact ⟨id, .same (so s2) _ _ (so_leafy s2) rfl⟩
    · have h : i = n := by simp at h; omega
      subst h
      (simp -implicitDefEqProofs only [go_sem]; repeat (refine GO ?_; simp -implicitDefEqProofs only [go_sem]))
      refine VIF.split (fun h2 => ?_) (fun h2 => ?_)
      · have h2 : i = 0 := by simpa using h2
        subst h2
        have : s = [] := List.eq_nil_of_length_eq_zero (by omega)
        subst this
        (simp -implicitDefEqProofs only [go_sem]; repeat (refine GO ?_; simp -implicitDefEqProofs only [go_sem]))
        refine VIF.split (fun _ => ?_) (fun h => absurd h (by decide))
        (simp -implicitDefEqProofs only [go_sem]; repeat (refine GO ?_; simp -implicitDefEqProofs only [go_sem]))
        refine .pure _ s12 rfl fun q hq _ => ?_
        subst hq
        (simp -implicitDefEqProofs only [go_sem, bA]; repeat (refine GO ?_; simp -implicitDefEqProofs only [go_sem, bA]))
      · have h2 : i ≠ 0 := by simpa using h2
        have hbw : ∀ t ∈ z, -71280 ≤ (i : Int) * t.w ∧ (i : Int) * t.w ≤ 71280 := fun t ht => by
          have hx := tm.small t ht
          have h1 : (i : Int) * t.w ≤ i * 5940 := Int.mul_le_mul_of_nonneg_left hx.2 (by omega)
          have h2 : (i : Int) * (-5940) ≤ i * t.w := Int.mul_le_mul_of_nonneg_left hx.1 (by omega)
          omega
        have hs : s = z.map (mulI i) := made_eq man.made (made_mul (by omega) tm.made fun t ht => by have := hbw t ht; simp [okW, inB]; omega) fun r => (man.tot r).trans (tot_mul i z r).symm
        have hsl2 : s.length = z.length := by rw [hs, List.length_map]
        (simp -implicitDefEqProofs only [go_sem, hsl2]; repeat (refine GO ?_; simp -implicitDefEqProofs only [go_sem, hsl2]))
        refine VIF.split (fun h => absurd h (by decide)) (fun _ => ?_)
        (simp -implicitDefEqProofs only [go_sem]; repeat (refine GO ?_; simp -implicitDefEqProofs only [go_sem]))
        refine LOOP.mk (ι := { k : Nat // k ≤ z.length }) (fun p => mkS [(1, iA i), (5, setA z), (6, setA s), (10, iA p.1)] [] []) (fun p => z.length - p.1) ⟨0, Nat.zero_le _⟩ [] rfl rfl ?_ (fun p => ?_)
        · (simp -implicitDefEqProofs only [go_sem, setA, iA, so]; repeat (refine GO ?_; simp -implicitDefEqProofs only [go_sem, setA, iA, so]))
          exact ⟨id, ⟨by decide, _, rfl, so_leafy s, rfl, List.take_of_length_le (by simp; omega)⟩, rfl⟩
        · obtain ⟨k, hk⟩ := p
          (simp -implicitDefEqProofs only [go_sem, setA, iA, so]; repeat (refine GO ?_; simp -implicitDefEqProofs only [go_sem, setA, iA, so]))
          refine VIF.split (fun h3 => ?_) (fun h3 => ?_)
          · have h3 : k < z.length := by simpa using h3
            have h3s : k < s.length := by omega
            have hsk : s[k] = mulI i z[k] := by simp [hs]
            have w1 := wrap_add1 (show k < 4611686018427387904 by omega)
            have hb2 := hbw _ (List.getElem_mem h3)
            have w2 : IntKind.i64.wrap ((i : Int) * z[k].w) = (i : Int) * z[k].w := by rw [wrap_i64] <;> omega
            (simp -implicitDefEqProofs only [go_sem]; repeat (refine GO ?_; simp -implicitDefEqProofs only [go_sem]))
            refine EL.map h3s ?_
            (simp -implicitDefEqProofs only [go_sem, It.c]; repeat (refine GO ?_; simp -implicitDefEqProofs only [go_sem, It.c]))
            refine EL.map h3 ?_
            (simp -implicitDefEqProofs only [go_sem, It.c, iA, w2]; repeat (refine GO ?_; simp -implicitDefEqProofs only [go_sem, It.c, iA, w2]))
            rw [hsk]
            refine VIF.split (fun h4 => absurd h4 (by simp [mulI])) (fun _ => ?_)
            (simp -implicitDefEqProofs only [go_sem]; repeat (refine GO ?_; simp -implicitDefEqProofs only [go_sem]))
            refine EL.map h3s ?_
            (simp -implicitDefEqProofs only [go_sem, It.c]; repeat (refine GO ?_; simp -implicitDefEqProofs only [go_sem, It.c]))
            refine EL.map h3 ?_
            (simp -implicitDefEqProofs only [go_sem, It.c]; repeat (refine GO ?_; simp -implicitDefEqProofs only [go_sem, It.c]))
            refine .pure _ (s14 s[k].row z[k].row (by have := hsr _ (List.getElem_mem h3s); omega)) rfl fun q hq _ => ?_
            obtain ⟨e8, rfl, h8⟩ := hq
            have h8 := h8.2 (by rw [hsk]; rfl)
            subst h8
            (simp -implicitDefEqProofs only [go_sem, bA]; repeat (refine GO ?_; simp -implicitDefEqProofs only [go_sem, bA]))
            (simp -implicitDefEqProofs only [go_sem, w1]; repeat (refine GO ?_; simp -implicitDefEqProofs only [go_sem, w1]))
            refine BACK.mk ⟨k + 1, by omega⟩ [] rfl rfl (by show z.length - (k + 1) < z.length - k; omega) ?_
            (simp -implicitDefEqProofs only [go_sem, setA, iA, so, w1]; repeat (refine GO ?_; simp -implicitDefEqProofs only [go_sem, setA, iA, so, w1]))
            exact id
          · (simp -implicitDefEqProofs only [go_sem]; repeat (refine GO ?_; simp -implicitDefEqProofs only [go_sem]))
            refine .pure _ (s21 s (by omega) (fun t ht => by have := hsr t ht; omega)) rfl fun q hq _ => ?_
            obtain ⟨m1, rfl, hm1, _⟩ := hq
            have hm1 := hm1 hsg
            (simp -implicitDefEqProofs only [go_sem, iA]; repeat (refine GO ?_; simp -implicitDefEqProofs only [go_sem, iA]))
            refine .pure _ (s21 z (by omega) (fun t ht => by have := hzr t ht; omega)) rfl fun q hq _ => ?_
            obtain ⟨m2, rfl, hm2, _⟩ := hq
            have hm2 := hm2 tm.good
            have ha := abs_bound (k := 5940) (by decide) tm.small
            have ha0 := absS_pos z
            have hm2 : m2 = absS z := by rw [hm2]; simp only [topM]; omega
            have hmm : absS s = i * absS z := by rw [hs]; exact abs_mul i (by omega) z
            have hb5 : (i : Int) * absS z ≤ i * 356400 := Int.mul_le_mul_of_nonneg_left (by omega) (by omega)
            have hb6 : 0 ≤ (i : Int) * absS z := Int.mul_nonneg (by omega) ha0
            have hm1 : m1 = i * absS z := by rw [hm1, hmm]; simp only [topM]; omega
            have w5 : IntKind.i64.wrap ((i : Int) * absS z) = (i : Int) * absS z := by rw [wrap_i64] <;> omega
            subst hm2
            subst hm1
            (simp -implicitDefEqProofs only [go_sem, iA, w5]; repeat (refine GO ?_; simp -implicitDefEqProofs only [go_sem, iA, w5]))
            refine VIF.split (fun _ => ?_) (fun h => absurd h (by decide))
            (simp -implicitDefEqProofs only [go_sem]; repeat (refine GO ?_; simp -implicitDefEqProofs only [go_sem]))
            refine .pure _ s12 rfl fun q hq _ => ?_
            subst hq
            (simp -implicitDefEqProofs only [go_sem, bA]; repeat (refine GO ?_; simp -implicitDefEqProofs only [go_sem, bA]))
end Yt
