/- Is a set right; its size. What is proved: contracts of the program's functions over abstract values, or plain facts on which these lean; the conditions stand in each theorem. -/
import Derived.Test.YtpipfaegkgakiaaYtP
set_option linter.all false
/-! Is a set right; its size. -/
namespace Yt
open Go Go.Vc Go.Proofs
set_option maxRecDepth 10000
set_option maxHeartbeats 4000000
set_option linter.unusedSimpArgs false
set_option linter.unusedVariables false
/-- What a right set's item i is. -/
structure Goo (z : List It) (i : Nat) (h : i < z.length) : Prop where
  ok : okI z[i] = true
  nz : z[i].w ≠ 0
  up : ∀ h0 : 0 < i, cI z[i - 1] z[i] < 0
def Good (z : List It) : Prop := ∀ i (h : i < z.length), Goo z i h
theorem s16 (z : List It) (hl : z.length < 4611686018427387904) (hr : ∀ t ∈ z, t.row.length < 4611686018427387904) :
    Spec0 Try.prog 16 [setA z] (fun r => ∃ e : Int, r = iA e ∧ (e = 0 ∨ e = 1) ∧ (e = 0 ↔ Good z)) := by
  refine spec0_of_vc tabOk elems ord16 Try.func16 rfl (rl := [.tmp 2]) rfl (by kernel_rfl) rfl ?_
  (simp -implicitDefEqProofs only [go_sem, setA]; repeat (refine GO ?_; simp -implicitDefEqProofs only [go_sem, setA]))
  refine LOOP.mk (ι := { i : Nat // i ≤ z.length ∧ ∀ j (h : j < z.length), j < i → Goo z j h }) (fun p => mkS [(0, .im 2 (z.map It.c)), (5, .im 2 (z.map It.c)), (6, iA z.length), (7, iA p.1)] [] [])
    (fun p => z.length - p.1) ⟨0, Nat.zero_le _, fun j _ h => absurd h (Nat.not_lt_zero _)⟩ [] rfl rfl ?_ (fun p => ?_)
  · (simp -implicitDefEqProofs only [go_sem, iA]; repeat (refine GO ?_; simp -implicitDefEqProofs only [go_sem, iA]))
    exact ⟨id, rfl⟩
  · obtain ⟨i, hi, hg⟩ := p
    (simp -implicitDefEqProofs only [go_sem, iA]; repeat (refine GO ?_; simp -implicitDefEqProofs only [go_sem, iA]))
    refine VIF.split (fun h => ?_) (fun h => ?_)
    · have h : i < z.length := by simpa using h
      (simp -implicitDefEqProofs only [go_sem]; repeat (refine GO ?_; simp -implicitDefEqProofs only [go_sem]))
      refine EL.map h ?_
      (simp -implicitDefEqProofs only [go_sem, It.c]; repeat (refine GO ?_; simp -implicitDefEqProofs only [go_sem, It.c]))
      have bad : ¬ Goo z i h → ∃ e : Int, AV.pr (Value.int IntKind.i64 1) = iA e ∧ (e = 0 ∨ e = 1) ∧ (e = 0 ↔ Good z) := fun hn =>
        ⟨1, rfl, .inr rfl, fun h => absurd h (by decide), fun g => absurd (g i h) hn⟩
      refine .pure _ (s36 z[i].row (hr _ (List.getElem_mem h))) rfl fun r hr' _ => ?_
      subst hr'
      (simp -implicitDefEqProofs only [go_sem, iA]; repeat (refine GO ?_; simp -implicitDefEqProofs only [go_sem, iA]))
      refine VIF.split (fun h1 => ?_) (fun h1 => ?_)
      · have h1 : okR z[i].row ≠ 0 := by simpa using h1
        (simp -implicitDefEqProofs only [go_sem]; repeat (refine GO ?_; simp -implicitDefEqProofs only [go_sem]))
        exact bad fun g => h1 (by have := g.ok; simp [okI] at this; exact this.1)
      · have h1 : okR z[i].row = 0 := by simpa using h1
        (simp -implicitDefEqProofs only [go_sem]; repeat (refine GO ?_; simp -implicitDefEqProofs only [go_sem]))
        refine VIF.split (fun h2 => ?_) (fun h2 => ?_)
        · have h2 : z[i].w = 0 := by simpa using h2
          (simp -implicitDefEqProofs only [go_sem]; repeat (refine GO ?_; simp -implicitDefEqProofs only [go_sem]))
          exact bad fun g => g.nz h2
        · have h2 : z[i].w ≠ 0 := by simpa using h2
          (simp -implicitDefEqProofs only [go_sem]; repeat (refine GO ?_; simp -implicitDefEqProofs only [go_sem]))
          refine .pure _ (s37 z[i].w) rfl fun r hr' _ => ?_
          subst hr'
          (simp -implicitDefEqProofs only [go_sem, bA]; repeat (refine GO ?_; simp -implicitDefEqProofs only [go_sem, bA]))
          refine VIF.split (fun h3 => ?_) (fun h3 => ?_)
          · have h3 : okW z[i].w = false := by simpa using h3
            (simp -implicitDefEqProofs only [go_sem]; repeat (refine GO ?_; simp -implicitDefEqProofs only [go_sem]))
            exact bad fun g => by have := g.ok; simp [okI, h3] at this
          · have h3 : okW z[i].w = true := by simpa using h3
            have hok : okI z[i] = true := by simp [okI, h1, h3]
            (simp -implicitDefEqProofs only [go_sem]; repeat (refine GO ?_; simp -implicitDefEqProofs only [go_sem]))
            refine VIF.split (fun h4 => ?_) (fun h4 => ?_)
            · have h4 : 0 < i := by simp at h4; omega
              have w1 := wrap_sub1 (show 1 ≤ i from h4) (by omega)
              (simp -implicitDefEqProofs only [go_sem, w1]; repeat (refine GO ?_; simp -implicitDefEqProofs only [go_sem, w1]))
              refine EL.map (show i - 1 < z.length by omega) ?_
              (simp -implicitDefEqProofs only [go_sem, It.c]; repeat (refine GO ?_; simp -implicitDefEqProofs only [go_sem, It.c]))
              refine .pure _ (s13 z[i - 1].row z[i].row (hr _ (List.getElem_mem _))) rfl fun r hr' _ => ?_
              subst hr'
              (simp -implicitDefEqProofs only [go_sem]; repeat (refine GO ?_; simp -implicitDefEqProofs only [go_sem]))
              refine VIF.split (fun h5 => ?_) (fun h5 => ?_)
              · have h5 : 0 ≤ cI z[i - 1] z[i] := by simpa [cI] using h5
                (simp -implicitDefEqProofs only [go_sem]; repeat (refine GO ?_; simp -implicitDefEqProofs only [go_sem]))
                exact bad fun g => by have := g.up h4; omega
              · have h5 : cI z[i - 1] z[i] < 0 := by simpa [cI] using h5
                have w3 := wrap_add1 (show i < 4611686018427387904 by omega)
                (simp -implicitDefEqProofs only [go_sem, w3]; repeat (refine GO ?_; simp -implicitDefEqProofs only [go_sem, w3]))
                refine BACK.mk ⟨i + 1, by omega, fun j hj hji => ?_⟩ [] rfl rfl (by show z.length - (i + 1) < z.length - i; omega) ?_
                · by_cases e : j = i
                  · subst e; exact ⟨hok, h2, fun _ => h5⟩
                  · exact hg j hj (by omega)
                · (simp -implicitDefEqProofs only [go_sem, iA, w3]; repeat (refine GO ?_; simp -implicitDefEqProofs only [go_sem, iA, w3]))
                  exact id
            · have h4 : i = 0 := by simp at h4; omega
              have w3 := wrap_add1 (show i < 4611686018427387904 by omega)
              (simp -implicitDefEqProofs only [go_sem, w3]; repeat (refine GO ?_; simp -implicitDefEqProofs only [go_sem, w3]))
              refine BACK.mk ⟨i + 1, by omega, fun j hj hji => ?_⟩ [] rfl rfl (by show z.length - (i + 1) < z.length - i; omega) ?_
              · have e : j = i := by omega
                subst e; exact ⟨hok, h2, fun h0 => absurd h0 (by omega)⟩
              · (simp -implicitDefEqProofs only [go_sem, iA, w3]; repeat (refine GO ?_; simp -implicitDefEqProofs only [go_sem, iA, w3]))
                exact id
    · have h : i = z.length := by simp at h; omega
      (simp -implicitDefEqProofs only [go_sem]; repeat (refine GO ?_; simp -implicitDefEqProofs only [go_sem]))
      exact ⟨0, rfl, .inl rfl, fun _ j hj => hg j hj (by omega), fun _ => rfl⟩
/-- All weights' sizes. -/
def absS : List It → Int
  | [] => 0
  | t :: z => max t.w (-t.w) + absS z
theorem absS_append (x y : List It) : absS (x ++ y) = absS x + absS y := by
  induction x with
  | nil => simp [absS]
  | cons t x ih => simp only [List.cons_append, absS, ih]; omega
theorem absS_pos (x : List It) : 0 ≤ absS x := by
  induction x with
  | nil => simp [absS]
  | cons t x ih => simp only [absS]; omega
def topM : Int := 1152921504606846976
theorem absS_take {z : List It} {i : Nat} (h : i < z.length) : absS (z.take (i + 1)) = absS (z.take i) + max z[i].w (-z[i].w) := by
  rw [List.take_succ_eq_append_getElem h, absS_append]; simp [absS]
theorem s21 (z : List It) (hl : z.length < 4611686018427387904) (hr : ∀ t ∈ z, t.row.length < 4611686018427387904) :
    Spec0 Try.prog 21 [setA z] (fun r => ∃ n : Int, r = iA n ∧ (Good z → n = min (absS z) topM) ∧ (¬ Good z → n = 0)) := by
  refine spec0_of_vc tabOk elems ord21 Try.func21 rfl (rl := [.tmp 2]) rfl (by kernel_rfl) rfl ?_
  (simp -implicitDefEqProofs only [go_sem, setA]; repeat (refine GO ?_; simp -implicitDefEqProofs only [go_sem, setA]))
  refine .pure _ (s16 z hl hr) rfl fun r hr' _ => ?_
  obtain ⟨e, rfl, he, hg⟩ := hr'
  (simp -implicitDefEqProofs only [go_sem, iA]; repeat (refine GO ?_; simp -implicitDefEqProofs only [go_sem, iA]))
  refine VIF.split (fun h => ?_) (fun h => ?_)
  · have h : e ≠ 0 := by simpa using h
    (simp -implicitDefEqProofs only [go_sem]; repeat (refine GO ?_; simp -implicitDefEqProofs only [go_sem]))
    exact ⟨0, rfl, fun g => absurd (hg.2 g) h, fun _ => rfl⟩
  · have h : e = 0 := by simpa using h
    have hg := hg.1 h
    (simp -implicitDefEqProofs only [go_sem]; repeat (refine GO ?_; simp -implicitDefEqProofs only [go_sem]))
    refine LOOP.mk (ι := { i : Nat // i ≤ z.length }) (fun p => mkS [(3, iA (min (absS (z.take p.1)) topM)), (9, .im 2 (z.map It.c)), (10, iA z.length), (11, iA p.1)] [] [])
      (fun p => z.length - p.1) ⟨0, Nat.zero_le _⟩ [] rfl rfl ?_ (fun p => ?_)
    · (simp -implicitDefEqProofs only [go_sem, iA]; repeat (refine GO ?_; simp -implicitDefEqProofs only [go_sem, iA]))
      exact ⟨id, by simp only [List.take_zero, absS, topM]; rw [show min (0:Int) 1152921504606846976 = 0 by decide], rfl⟩
    · obtain ⟨i, hi⟩ := p
      have ha := absS_pos (z.take i)
      (simp -implicitDefEqProofs only [go_sem, iA]; repeat (refine GO ?_; simp -implicitDefEqProofs only [go_sem, iA]))
      refine VIF.split (fun h => ?_) (fun h => ?_)
      · have h : i < z.length := by simpa using h
        have hw := okW_le (w := z[i].w) (by have := (hg i h).ok; simp [okI] at this; exact this.2)
        (simp -implicitDefEqProofs only [go_sem]; repeat (refine GO ?_; simp -implicitDefEqProofs only [go_sem]))
        refine EL.map h ?_
        have w1 : IntKind.i64.wrap (0 - z[i].w) = -z[i].w := by rw [wrap_i64] <;> omega
        have w2 : IntKind.i64.wrap (min (absS (z.take i)) topM + max z[i].w (-z[i].w)) = min (absS (z.take i)) topM + max z[i].w (-z[i].w) := by
          simp only [topM]; rw [wrap_i64] <;> omega
        have w3 := wrap_add1 (show i < 4611686018427387904 by omega)
        (simp -implicitDefEqProofs only [go_sem, It.c, iA, w1, w2, w3]; repeat (refine GO ?_; simp -implicitDefEqProofs only [go_sem, It.c, iA, w1, w2, w3]))
        refine BACK.mk ⟨i + 1, by omega⟩ [] rfl rfl (by show z.length - (i + 1) < z.length - i; omega) ?_
        (simp -implicitDefEqProofs only [go_sem, iA, w1, w2, w3]; repeat (refine GO ?_; simp -implicitDefEqProofs only [go_sem, iA, w1, w2, w3]))
        refine ⟨id, ?_⟩
        rw [absS_take h]; congr 1; simp only [topM, Bool.false_eq_true, if_false]; omega
      · have h : i = z.length := by simp at h; omega
        subst h
        (simp -implicitDefEqProofs only [go_sem]; repeat (refine GO ?_; simp -implicitDefEqProofs only [go_sem]))
        exact ⟨_, rfl, fun _ => by rw [List.take_length], fun h => absurd hg h⟩
theorem s22 (n : Int) : Spec1 Try.prog 22 [iA n] (fun r o => r = .rf 0 0 1 ∧ o = ro3 [⟨3, n, ByteArray.empty⟩]) := by
  refine spec1_of_vc tabOk elems ord22 Try.func22 rfl (rl := [.tmp 2]) rfl (by kernel_rfl) rfl ?_
  (simp -implicitDefEqProofs only [go_sem, iA]; repeat (refine GO ?_; simp -implicitDefEqProofs only [go_sem, iA]))
  refine FINmk [(0, some 5)] [(2, .rf 0 0 1)] [(0, ro3 [⟨3, n, ByteArray.empty⟩])] [0] rfl ?_ ?_
  · (simp -implicitDefEqProofs only [go_sem, ro3]; repeat (refine GO ?_; simp -implicitDefEqProofs only [go_sem, ro3]))
    exact .same (ro3 [⟨3, n, ByteArray.empty⟩]) _ _ (ro3_leafy [⟨3, n, ByteArray.empty⟩]) rfl
  · exact ⟨ro3 _, ⟨⟨rfl, rfl⟩, rfl⟩, ro3_leafy _, rfl⟩
def wkZ : List It := [⟨[⟨3, 5, ByteArray.empty⟩], 2⟩, ⟨[⟨3, 1, ByteArray.empty⟩], 1⟩, ⟨[⟨3, 5, ByteArray.empty⟩], 3⟩, ⟨[⟨3, 7, ByteArray.empty⟩], 0⟩]
/-- TOG -/
theorem TOG {K : St → Prop} {s : St} (m : List (Nat × Option Nat)) (rl : List (Nat × AV)) (ol : List (Nat × Ob)) (ul : List Nat) (hm : nmOk m ul = true) (h : (0 ∈ s.used → 0 ∈ ul) ∧ ents s m rl ∧ eobs s m ol) (k : GOES K (mkS rl ol ul)) : GOES K s :=
  k.ent (ent_to m rfl hm h)
def wkO : List It := [⟨[⟨3, 1, ByteArray.empty⟩], 1⟩, ⟨[⟨3, 5, ByteArray.empty⟩], 5⟩]
theorem wk_made : Made wkO := by
  refine ⟨?_, ?_⟩
  · simp [wkO, cI, cmpR, cmpV, cmpI, nz]
  · simp [wkO, okW, inB]
theorem wk_tot (r : List V) : tot r wkO = tot r wkZ ∧ 0 ≤ tot r wkZ ∧ tot r wkZ ≤ 6 := by
  simp only [tot, wkO, wkZ]
  refine ⟨?_, ?_, ?_⟩ <;> split <;> split <;> (try split) <;> omega
theorem wk_out {out : List It} {err : Int} (h : MakeR wkZ out err) : out = wkO ∧ err = 0 := by
  have hok : (wkZ.any fun t => !okI t) = false := by
    simp [wkZ, okI, okR, okV, okW, inB]
    rfl
  rcases h with ⟨h, _⟩ | ⟨_, _, _, r, h⟩ | ⟨_, h, hm, ht, _⟩
  · rw [hok] at h; cases h
  · have := wk_tot r
    simp [okW, inB] at h; omega
  · exact ⟨made_eq hm wk_made fun r => (ht r).trans (wk_tot r).1.symm, h⟩
theorem wk_good : Good wkO := by
  intro i h
  have : i = 0 ∨ i = 1 := by simp [wkO] at h; omega
  rcases this with rfl | rfl
  · exact ⟨by simp [wkO, okI, okR, okV, okW, inB]; rfl, by simp [wkO], fun h => absurd h (by omega)⟩
  · exact ⟨by simp [wkO, okI, okR, okV, okW, inB]; rfl, by simp [wkO], fun _ => by simp [wkO, cI, cmpR, cmpV, cmpI, nz]⟩
theorem wk_wt : wt [⟨3, 5, ByteArray.empty⟩] wkO = 5 := by
  have h1 : cmpR [⟨3, 1, ByteArray.empty⟩] [⟨3, 5, ByteArray.empty⟩] = -1 := by simp [cmpR, cmpV, cmpI, nz]
  have h2 : cmpR [⟨3, 5, ByteArray.empty⟩] [⟨3, 5, ByteArray.empty⟩] = 0 := lin_cmpR.self _
  simp [wt, wkO, h1, h2, List.findIdx?_cons, wtI]
theorem s12 : Spec0 Try.prog 12 [] (· = bA true) := by
  refine spec0_of_vc tabOk elems ord12 Try.func12 rfl (rl := [.tmp 0]) rfl (by kernel_rfl) rfl ?_
  (simp -implicitDefEqProofs only [go_sem]; repeat (refine GO ?_; simp -implicitDefEqProofs only [go_sem]))
  refine .make 4 _ (s22 5) rfl (by simp) rfl fun r o hro _ => ?_
  obtain ⟨rfl, rfl⟩ := hro
  (simp -implicitDefEqProofs only [go_sem]; repeat (refine GO ?_; simp -implicitDefEqProofs only [go_sem]))
  refine .make 6 _ (s22 1) rfl (by simp) rfl fun r o hro _ => ?_
  obtain ⟨rfl, rfl⟩ := hro
  (simp -implicitDefEqProofs only [go_sem]; repeat (refine GO ?_; simp -implicitDefEqProofs only [go_sem]))
  refine .make 8 _ (s22 5) rfl (by simp) rfl fun r o hro _ => ?_
  obtain ⟨rfl, rfl⟩ := hro
  (simp -implicitDefEqProofs only [go_sem]; repeat (refine GO ?_; simp -implicitDefEqProofs only [go_sem]))
  refine .make 10 _ (s22 7) rfl (by simp) rfl fun r o hro _ => ?_
  obtain ⟨rfl, rfl⟩ := hro
  simp -implicitDefEqProofs only [go_sem]
  refine TOG [(12, some 12)] [(12, .rf 12 0 4)] [(12, so wkZ)] [12] rfl ?_ ?_
  · (simp -implicitDefEqProofs only [go_sem, so, ro3, wkZ]; repeat (refine GO ?_; simp -implicitDefEqProofs only [go_sem, so, ro3, wkZ]))
    refine ⟨id, .cons ?_ (.cons ?_ (.cons ?_ (.cons ?_ .nil)))⟩
    all_goals
      (simp -implicitDefEqProofs only [go_sem, It.c, rowA, iA]; repeat (refine GO ?_; simp -implicitDefEqProofs only [go_sem, It.c, rowA, iA]))
      exact ⟨by decide, _, rfl, ro3_leafy _, rfl, rfl⟩
  refine TO [] [(12, setA wkZ)] [] [] rfl ?_ ?_
  · (simp -implicitDefEqProofs only [go_sem, so, setA]; repeat (refine GO ?_; simp -implicitDefEqProofs only [go_sem, so, setA]))
    exact ⟨id, by decide, _, rfl, so_leafy wkZ, rfl, rfl⟩
  (simp -implicitDefEqProofs only [go_sem, setA]; repeat (refine GO ?_; simp -implicitDefEqProofs only [go_sem, setA]))
  refine .make 13 _ (s11 wkZ (by decide) (by simp [wkZ])) rfl (by simp) rfl fun r o hro _ => ?_
  obtain ⟨out, err, rfl, rfl, hm⟩ := hro
  obtain ⟨rfl, rfl⟩ := wk_out hm
  (simp -implicitDefEqProofs only [go_sem, iA, so, wkO, It.c]; repeat (refine GO ?_; simp -implicitDefEqProofs only [go_sem, iA, so, wkO, It.c]))
  refine VIF.split (fun _ => ?_) (fun h => by simp at h)
  (simp -implicitDefEqProofs only [go_sem]; repeat (refine GO ?_; simp -implicitDefEqProofs only [go_sem]))
  refine VIF.split (fun _ => ?_) (fun h => by simp at h)
  (simp -implicitDefEqProofs only [go_sem, It.c]; repeat (refine GO ?_; simp -implicitDefEqProofs only [go_sem, It.c]))
  refine ⟨by decide, EL.map (show Int.toNat 0 < wkO.length by decide) ?_⟩
  (simp -implicitDefEqProofs only [go_sem, It.c, iA]; repeat (refine GO ?_; simp -implicitDefEqProofs only [go_sem, It.c, iA]))
  refine VIF.split (fun _ => ?_) (fun h => absurd h (by decide))
  (simp -implicitDefEqProofs only [go_sem]; repeat (refine GO ?_; simp -implicitDefEqProofs only [go_sem]))
  refine ⟨by decide, EL.map (show Int.toNat 1 < wkO.length by decide) ?_⟩
  (simp -implicitDefEqProofs only [go_sem, It.c, iA]; repeat (refine GO ?_; simp -implicitDefEqProofs only [go_sem, It.c, iA]))
  refine VIF.split (fun _ => ?_) (fun h => absurd h (by decide))
  (simp -implicitDefEqProofs only [go_sem]; repeat (refine GO ?_; simp -implicitDefEqProofs only [go_sem]))
  refine .make 39 _ (s22 5) rfl (by simp) rfl fun r o hro _ => ?_
  obtain ⟨rfl, rfl⟩ := hro
  (simp -implicitDefEqProofs only [go_sem]; repeat (refine GO ?_; simp -implicitDefEqProofs only [go_sem]))
  refine .lendTo (s15 wkO [⟨3, 5, ByteArray.empty⟩] (by simp [wkO]) (by simp [wkO])) ?_ (by rintro _ rfl; rfl) fun r hr => ?_
  · (simp -implicitDefEqProofs only [go_sem, setA, rowA, ro3]; repeat (refine GO ?_; simp -implicitDefEqProofs only [go_sem, setA, rowA, ro3]))
    exact ⟨rfl, by simp [It.c, V.c, rowA, iA, leafs2, leafs, AV.leaf], by simp [It.c, V.c, rowA, iA, leafs2, leafs, AV.leaf]⟩
  subst hr
  rw [wk_wt]
  (simp -implicitDefEqProofs only [go_sem, iA]; repeat (refine GO ?_; simp -implicitDefEqProofs only [go_sem, iA]))
  refine VIF.split (fun _ => ?_) (fun h => absurd h (by decide))
  (simp -implicitDefEqProofs only [go_sem]; repeat (refine GO ?_; simp -implicitDefEqProofs only [go_sem]))
  refine .lendTo (s21 wkO (by simp [wkO]) (by simp [wkO])) ?_ (by rintro _ ⟨n, rfl, _⟩; rfl) fun r hr => ?_
  · (simp -implicitDefEqProofs only [go_sem, setA, rowA, ro3]; repeat (refine GO ?_; simp -implicitDefEqProofs only [go_sem, setA, rowA, ro3]))
    exact ⟨rfl, by simp [It.c, V.c, rowA, iA, leafs2, leafs, AV.leaf]⟩
  obtain ⟨n, rfl, hn, _⟩ := hr
  have hn := hn wk_good
  have : n = 6 := by rw [hn]; decide
  subst this
  (simp -implicitDefEqProofs only [go_sem, iA, bA]; repeat (refine GO ?_; simp -implicitDefEqProofs only [go_sem, iA, bA]))
  exact congrArg (fun b => AV.pr (Value.bool b)) (by decide)
end Yt
