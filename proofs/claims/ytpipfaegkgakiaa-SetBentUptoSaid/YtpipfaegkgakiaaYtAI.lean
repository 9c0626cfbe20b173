/- The law SetBent. What is proved: contracts of the program's functions over abstract values, or plain facts on which these lean; the conditions stand in each theorem. -/
import Derived.Test.YtpipfaegkgakiaaYtAG
set_option linter.all false
/-! The law SetBent. -/
namespace Yt
open Go Go.Vc Go.Proofs
set_option maxRecDepth 10000
set_option maxHeartbeats 8000000
set_option linter.unusedSimpArgs false
set_option linter.unusedVariables false
/-- Where a list of nothing will do, nil does. -/
theorem spec1_nl {P : Program} {f : Nat} {x : AV} {sz : Nat} {R : AV → Ob → Prop} (h : Spec1 P f [x, .im sz []] R) : Spec1 P f [x, .nl] R := by
  refine ⟨h.1, fun F φ w vs h1 h2 h3 H hs ha => h.2 F φ w vs h1 h2 h3 H hs fun j av hj => ?_⟩
  match j, hj with
  | 0, hj => exact ha 0 av hj
  | 1, hj =>
    have h4 := ha 1 .nl rfl
    simp only [List.getElem?_cons_succ, List.getElem?_cons_zero, Option.some.injEq] at hj
    subst hj
    generalize vs.getD 1 undef = v at h4 ⊢
    cases h4 with
    | rd r => cases r; exact .rd (.im0 none 0 sz)
  | j + 2, hj => simp at hj
theorem VIF_joinB {P : Program} {T : Nat → Go.Vc.TI} {G : Ords} {n : Nat} {b : Bool} {x y : Code} {K : St → Prop} {Q : Exit → St → Prop} {st : St} {ι : Type} (inv : ι → St) (h1 : b = true → vc P T G x (exBlk n (exThen (fun s => JB inv s) Q)) st) (h2 : b = false → vc P T G y (exBlk n (exThen (fun s => JB inv s) Q)) st)
    (k : ∀ i, GOES K (inv i)) : VIF b (vc P T G x (exBlk n (exThen (fun s => sq true K s) Q)) st) (vc P T G y (exBlk n (exThen (fun s => sq true K s) Q)) st) :=
  ⟨fun h => vc_mono _ (exBlk_mono (exThen_mono (fun _ => JB.go k) fun _ _ h => h)) (h1 h), fun h => vc_mono _ (exBlk_mono (exThen_mono (fun _ => JB.go k) fun _ _ h => h)) (h2 h)⟩
theorem s9 (l : List It) (what k0 : Int) (hl : l.length < 4611686018427387904) (hr : ∀ t ∈ l, t.row.length < 4611686018427387904) :
    Spec0 Try.prog 9 [setA l, iA what, iA k0] (· = bA true) := by
  refine spec0_of_vc tabOk elems ord9 Try.func9 rfl (rl := [.tmp 6]) rfl (by kernel_rfl) rfl ?_
  (simp -implicitDefEqProofs only [go_sem, setA, iA]; repeat (refine GO ?_; simp -implicitDefEqProofs only [go_sem, setA, iA]))
  refine .lendTo (s10 [l] (by simp) (by simpa using hl) (by simpa using hr)) ?_ (by rintro _ rfl; rfl) fun q hq => ?_
  · (simp -implicitDefEqProofs only [go_sem, setsA, setA]; repeat (refine GO ?_; simp -implicitDefEqProofs only [go_sem, setsA, setA]))
    rfl
  subst hq
  have e0 : [l].any heavyS = heavyS l := by simp
  rw [e0]
  (simp -implicitDefEqProofs only [go_sem, bA]; repeat (refine GO ?_; simp -implicitDefEqProofs only [go_sem, bA]))
  refine VIF.split (fun hb => ?_) (fun hb => ?_)
  · (simp -implicitDefEqProofs only [go_sem, bA]; repeat (refine GO ?_; simp -implicitDefEqProofs only [go_sem, bA]))
  obtain ⟨hll, hlr⟩ := not_heavyS hb
  (simp -implicitDefEqProofs only [go_sem]; repeat (refine GO ?_; simp -implicitDefEqProofs only [go_sem]))
  refine .make 16 _ (s24 l (by omega) (fun t ht => by have := hlr t ht; omega)) rfl (by simp) rfl fun q ob hq _ => ?_
  obtain ⟨z, rfl, rfl, tm⟩ := hq
  have sm := tm.sm hlr
  have zl := tm.len
  have rw40 : ∀ {z : List It} {k : Nat}, Sm z k → ∀ t ∈ z, t.row.length < 1073741824 := fun h t ht => by have := (h.rows t ht).2; omega
  have rw62 : ∀ {z : List It} {k : Nat}, Sm z k → ∀ t ∈ z, t.row.length < 4611686018427387904 := fun h t ht => by have := (h.rows t ht).2; omega
  have tk : ∀ z : List It, List.take z.length (List.map It.c z) = List.map It.c z := fun z => List.take_of_length_le (by simp)
  have lnd : ∀ z : List It, leafs2 (z.map It.c) := fun z => by
    have := so_leafy z
    rw [so, leafy_do] at this; exact this
  (simp -implicitDefEqProofs only [go_sem]; repeat (refine GO ?_; simp -implicitDefEqProofs only [go_sem]))
  refine .lendTo (s16 z (by omega) (rw62 sm)) ?_ (by rintro _ ⟨e, rfl, _⟩; rfl) fun q hq => ?_
  · (simp -implicitDefEqProofs only [go_sem, setA, so]; repeat (refine GO ?_; simp -implicitDefEqProofs only [go_sem, setA, so]))
    exact ⟨by rw [tk], lnd z⟩
  obtain ⟨e1, rfl, _, h1⟩ := hq
  have h1 := h1.2 sm.good
  subst h1
  (simp -implicitDefEqProofs only [go_sem, iA, so]; repeat (refine GO ?_; simp -implicitDefEqProofs only [go_sem, iA, so]))
  refine VIF.split (fun h => absurd h (by decide)) (fun _ => ?_)
  (simp -implicitDefEqProofs only [go_sem]; repeat (refine GO ?_; simp -implicitDefEqProofs only [go_sem]))
  refine VIF.split (fun h2 => ?_) (fun h2 => ?_)
  · (simp -implicitDefEqProofs only [go_sem]; repeat (refine GO ?_; simp -implicitDefEqProofs only [go_sem]))
    refine .lendTo (s16 z (by omega) (rw62 sm)) ?_ (by rintro _ ⟨e, rfl, _⟩; rfl) fun q hq => ?_
    · (simp -implicitDefEqProofs only [go_sem, setA, so]; repeat (refine GO ?_; simp -implicitDefEqProofs only [go_sem, setA, so]))
      exact ⟨by rw [tk], lnd z⟩
    obtain ⟨e1, rfl, _, h1⟩ := hq
    have h1 := h1.2 sm.good
    subst h1
    (simp -implicitDefEqProofs only [go_sem, iA]; repeat (refine GO ?_; simp -implicitDefEqProofs only [go_sem, iA]))
    refine VIF.split (fun _ => ?_) (fun h => absurd h (by decide))
    (simp -implicitDefEqProofs only [go_sem]; repeat (refine GO ?_; simp -implicitDefEqProofs only [go_sem]))
    refine .pure _ s12 rfl fun q hq _ => ?_
    subst hq
    (simp -implicitDefEqProofs only [go_sem, bA]; repeat (refine GO ?_; simp -implicitDefEqProofs only [go_sem, bA]))
  · have h2 : 2 ≤ z.length := by simp at h2; omega
    have w1 := wrap_sub1 (show 1 ≤ z.length by omega) (by omega)
    have w2 : IntKind.u64.wrap ((z.length - 1 : Nat) : Int) = ((z.length - 1 : Nat) : Int) := by simp [IntKind.wrap, IntKind.signed, IntKind.bits]; omega
    obtain ⟨k1, hk, hk0, hk1⟩ := u64_mod k0 ((z.length - 1 : Nat) : Int) (by omega) (by omega)
    obtain ⟨k, rfl⟩ := Int.eq_ofNat_of_zero_le hk0
    obtain ⟨wh, hw, hw0, hw1⟩ := u64_mod what 4 (by decide) (by decide)
    (simp -implicitDefEqProofs only [go_sem, w1, w2, hk]; repeat (refine GO ?_; simp -implicitDefEqProofs only [go_sem, w1, w2, hk]))
    refine ⟨by omega, by decide, ?_⟩
    have hkl : k + 1 < z.length := by omega
    have hkl0 : k < z.length := by omega
    have w3 := wrap_add1 (show k < 4611686018427387904 by omega)
    refine VIF_joinB (ι := { y : List It // ¬ Good y ∧ y.length = z.length ∧ ∀ t ∈ y, t.row.length ≤ 40 }) (fun y => mkS [(7, .rf 1000 0 y.1.length)] [(1000, so y.1)] [1000]) (fun h3 => ?_) (fun h3 => ?_) (fun y => ?_)
    · (simp -implicitDefEqProofs only [go_sem, w3]; repeat (refine GO ?_; simp -implicitDefEqProofs only [go_sem, w3]))
      refine ⟨by omega, EL.map hkl ?_⟩
      (simp -implicitDefEqProofs only [go_sem, It.c, w3]; repeat (refine GO ?_; simp -implicitDefEqProofs only [go_sem, It.c, w3]))
      refine ⟨by omega, EL.map hkl0 ?_⟩
      (simp -implicitDefEqProofs only [go_sem, It.c, w3]; repeat (refine GO ?_; simp -implicitDefEqProofs only [go_sem, It.c, w3]))
      refine ⟨by omega, EL.map hkl0 ?_⟩
      (simp -implicitDefEqProofs only [go_sem, It.c, w3]; repeat (refine GO ?_; simp -implicitDefEqProofs only [go_sem, It.c, w3]))
      refine ⟨by omega, EL.setmap (by omega) hkl ?_⟩
      (simp -implicitDefEqProofs only [go_sem, It.c, w3]; repeat (refine GO ?_; simp -implicitDefEqProofs only [go_sem, It.c, w3]))
      refine JB.mk ⟨swp z k (k + 1) hkl0 hkl, fun g => ?_, by simp [swp], fun t ht => ?_⟩ [(1000, some 16)] rfl rfl ?_
      · have h4 := (g (k + 1) (by simpa [swp] using hkl)).up (by omega)
        have e1 : (swp z k (k + 1) hkl0 hkl)[k + 1]'(by simpa [swp] using hkl) = z[k] := by simp [swp]
        have e2 : (swp z k (k + 1) hkl0 hkl)[k + 1 - 1]'(by simp [swp]; omega) = z[k + 1] := by simp [swp]
        rw [e1, e2] at h4
        have h5 := List.pairwise_iff_getElem.1 sm.made.pw k (k + 1) hkl0 hkl (by omega)
        have h6 := cI_neg z[k] z[k + 1]
        omega
      · have : t ∈ z := (swp_win (z := z) (a := 0) (b := z.length) hkl0 hkl (by omega) (by omega) (by omega) (by omega)).perm.mem_iff.1 ht
        exact (sm.rows t this).2
      · (simp -implicitDefEqProofs only [go_sem, so]; repeat (refine GO ?_; simp -implicitDefEqProofs only [go_sem, so]))
        exact ⟨id, by simp [swp], .same (so []) _ _ (fun x hx => so_leafy (swp z k (k + 1) hkl0 hkl) x (by rw [so, ← swp_map]; exact hx)) (swp_map hkl0 hkl)⟩
    · (simp -implicitDefEqProofs only [go_sem]; repeat (refine GO ?_; simp -implicitDefEqProofs only [go_sem]))
      refine VIF.split (fun h4 => ?_) (fun h4 => ?_)
      · (simp -implicitDefEqProofs only [go_sem, w3]; repeat (refine GO ?_; simp -implicitDefEqProofs only [go_sem, w3]))
        refine ⟨by omega, EL.map hkl0 ?_⟩
        (simp -implicitDefEqProofs only [go_sem, It.c, w3]; repeat (refine GO ?_; simp -implicitDefEqProofs only [go_sem, It.c, w3]))
        refine ⟨by omega, EL.map hkl ?_⟩
        (simp -implicitDefEqProofs only [go_sem, It.c, w3]; repeat (refine GO ?_; simp -implicitDefEqProofs only [go_sem, It.c, w3]))
        refine JB.mk ⟨z.set (k + 1) z[k], fun g => ?_, by simp, fun t ht => ?_⟩ [(1000, some 16)] rfl rfl ?_
        · have h4 := (g (k + 1) (by simpa using hkl)).up (by omega)
          have e1 : (z.set (k + 1) z[k])[k + 1]'(by simpa using hkl) = z[k] := by simp
          have e2 : (z.set (k + 1) z[k])[k + 1 - 1]'(by simp; omega) = z[k] := by simp
          rw [e1, e2] at h4
          have h5 := cI_eq.2 (rfl : z[k].row = z[k].row)
          omega
        · rcases List.mem_or_eq_of_mem_set ht with h | h
          · exact (sm.rows t h).2
          · rw [h]; exact (sm.rows z[k] (List.getElem_mem hkl0)).2
        · (simp -implicitDefEqProofs only [go_sem, so]; repeat (refine GO ?_; simp -implicitDefEqProofs only [go_sem, so]))
          exact ⟨id, by simp, .same (so []) _ _ (fun x hx => so_leafy (z.set (k + 1) z[k]) x (by rw [so, List.map_set]; exact hx)) (List.map_set).symm⟩
      · (simp -implicitDefEqProofs only [go_sem]; repeat (refine GO ?_; simp -implicitDefEqProofs only [go_sem]))
        refine VIF.split (fun h5 => ?_) (fun h5 => ?_)
        · (simp -implicitDefEqProofs only [go_sem]; repeat (refine GO ?_; simp -implicitDefEqProofs only [go_sem]))
          refine ⟨by omega, EL.map hkl0 ?_⟩
          (simp -implicitDefEqProofs only [go_sem, It.c]; repeat (refine GO ?_; simp -implicitDefEqProofs only [go_sem, It.c]))
          refine JB.mk ⟨z.set k ⟨z[k].row, 0⟩, fun g => ?_, by simp, fun t ht => ?_⟩ [(1000, some 16)] rfl rfl ?_
          · have h4 := (g k (by simpa using hkl0)).nz
            simp at h4
          · rcases List.mem_or_eq_of_mem_set ht with h | h
            · exact (sm.rows t h).2
            · rw [h]; exact (sm.rows z[k] (List.getElem_mem hkl0)).2
          · (simp -implicitDefEqProofs only [go_sem, so]; repeat (refine GO ?_; simp -implicitDefEqProofs only [go_sem, so]))
            exact ⟨id, by simp, .same (so []) _ _ (fun x hx => so_leafy (z.set k ⟨z[k].row, 0⟩) x (by rw [so, List.map_set]; exact hx)) ((List.map_set (f := It.c) (l := z) (i := k) (a := ⟨z[k].row, 0⟩)).symm)⟩
        · (simp -implicitDefEqProofs only [go_sem]; repeat (refine GO ?_; simp -implicitDefEqProofs only [go_sem]))
          refine ⟨by omega, EL.map hkl0 ?_⟩
          (simp -implicitDefEqProofs only [go_sem, It.c]; repeat (refine GO ?_; simp -implicitDefEqProofs only [go_sem, It.c]))
          refine JB.mk ⟨z.set k ⟨z[k].row, 72057594037927937⟩, fun g => ?_, by simp, fun t ht => ?_⟩ [(1000, some 16)] rfl rfl ?_
          · have h4 := (g k (by simpa using hkl0)).ok
            simp [okI, okW, inB] at h4
          · rcases List.mem_or_eq_of_mem_set ht with h | h
            · exact (sm.rows t h).2
            · rw [h]; exact (sm.rows z[k] (List.getElem_mem hkl0)).2
          · (simp -implicitDefEqProofs only [go_sem, so]; repeat (refine GO ?_; simp -implicitDefEqProofs only [go_sem, so]))
            exact ⟨id, by simp, .same (so []) _ _ (fun x hx => so_leafy (z.set k ⟨z[k].row, 72057594037927937⟩) x (by rw [so, List.map_set]; exact hx)) ((List.map_set (f := It.c) (l := z) (i := k) (a := ⟨z[k].row, 72057594037927937⟩)).symm)⟩
    · obtain ⟨y, hng, hyl, hyr⟩ := y
      have y40 : ∀ t ∈ y, t.row.length < 1073741824 := fun t ht => by have := hyr t ht; omega
      have y62 : ∀ t ∈ y, t.row.length < 4611686018427387904 := fun t ht => by have := hyr t ht; omega
      simp -implicitDefEqProofs only [go_sem, so]
      refine GO ?_
      simp -implicitDefEqProofs only [go_sem, so]
      refine TO [] [(7, setA y), (81, setA y)] [] [] rfl ?_ ?_
      · (simp -implicitDefEqProofs only [go_sem, setA]; repeat (refine GO ?_; simp -implicitDefEqProofs only [go_sem, setA]))
        exact ⟨id, ⟨by decide, _, rfl, so_leafy y, rfl, tk y⟩, ⟨by decide, _, rfl, so_leafy y, rfl, tk y⟩⟩
      (simp -implicitDefEqProofs only [go_sem, setA]; repeat (refine GO ?_; simp -implicitDefEqProofs only [go_sem, setA]))
      refine .make 82 _ (s31 y (by omega) y40) rfl (by simp) rfl fun q ob hq _ => ?_
      obtain ⟨n, err, rfl, rfl, hn⟩ := hq
      obtain ⟨rfl, rfl⟩ : n = [] ∧ err = 1 := by
        rcases hn with ⟨_, h⟩ | ⟨h, _⟩
        · exact h
        · exact absurd h hng
      simp -implicitDefEqProofs only [go_sem, iA, so]
      refine TO [] [(7, setA y), (8, setA []), (9, iA 1), (86, setA y)] [] [] rfl ?_ ?_
      · (simp -implicitDefEqProofs only [go_sem, setA, iA]; repeat (refine GO ?_; simp -implicitDefEqProofs only [go_sem, setA, iA]))
        exact ⟨id, by decide, _, rfl, so_leafy [], rfl, rfl⟩
      (simp -implicitDefEqProofs only [go_sem, setA, iA]; repeat (refine GO ?_; simp -implicitDefEqProofs only [go_sem, setA, iA]))
      refine .make 87 _ (spec1_nl (s23 y [] (by simp; omega) y40 (by simp))) rfl (by simp) rfl fun q ob hq _ => ?_
      obtain ⟨a, err, rfl, rfl, ha⟩ := hq
      obtain ⟨rfl, rfl⟩ : a = [] ∧ err = 1 := by
        rcases ha with ⟨_, h⟩ | ⟨h, _⟩
        · exact h
        · exact absurd h hng
      (simp -implicitDefEqProofs only [go_sem, iA, so]; repeat (refine GO ?_; simp -implicitDefEqProofs only [go_sem, iA, so]))
      refine .pure _ (s16 y (by omega) y62) rfl fun q hq _ => ?_
      obtain ⟨e1, rfl, he1, h1⟩ := hq
      have h1 : e1 = 1 := by
        rcases he1 with h | h
        · exact absurd (h1.1 h) hng
        · exact h
      subst h1
      (simp -implicitDefEqProofs only [go_sem, iA]; repeat (refine GO ?_; simp -implicitDefEqProofs only [go_sem, iA]))
      refine VIF.split (fun _ => ?_) (fun h => absurd h (by decide))
      (simp -implicitDefEqProofs only [go_sem]; repeat (refine GO ?_; simp -implicitDefEqProofs only [go_sem]))
      refine VIF.split (fun _ => ?_) (fun h => absurd h (by decide))
      (simp -implicitDefEqProofs only [go_sem]; repeat (refine GO ?_; simp -implicitDefEqProofs only [go_sem]))
      refine VIF.split (fun _ => ?_) (fun h => absurd h (by decide))
      (simp -implicitDefEqProofs only [go_sem]; repeat (refine GO ?_; simp -implicitDefEqProofs only [go_sem]))
      refine VIF.split (fun _ => ?_) (fun h => absurd h (by decide))
      (simp -implicitDefEqProofs only [go_sem]; repeat (refine GO ?_; simp -implicitDefEqProofs only [go_sem]))
      refine .pure _ (s21 y (by omega) y62) rfl fun q hq _ => ?_
      obtain ⟨m, rfl, _, hm⟩ := hq
      obtain rfl := hm hng
      (simp -implicitDefEqProofs only [go_sem, iA]; repeat (refine GO ?_; simp -implicitDefEqProofs only [go_sem, iA]))
      refine VIF.split (fun _ => ?_) (fun h => absurd h (by decide))
      (simp -implicitDefEqProofs only [go_sem]; repeat (refine GO ?_; simp -implicitDefEqProofs only [go_sem]))
      refine .pure _ s12 rfl fun q hq _ => ?_
      subst hq
      (simp -implicitDefEqProofs only [go_sem, bA]; repeat (refine GO ?_; simp -implicitDefEqProofs only [go_sem, bA]))
end Yt
