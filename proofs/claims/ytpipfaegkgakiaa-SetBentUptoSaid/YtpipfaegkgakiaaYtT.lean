/- Sets added; sets compared. What is proved: contracts of the program's functions over abstract values, or plain facts on which these lean; the conditions stand in each theorem. -/
import Derived.Test.YtpipfaegkgakiaaYtR
set_option linter.all false
/-! Sets added; sets compared. -/
namespace Yt
open Go Go.Vc Go.Proofs
set_option maxRecDepth 10000
set_option maxHeartbeats 4000000
set_option linter.unusedSimpArgs false
set_option linter.unusedVariables false
theorem zeros_leafy (n : Nat) : (Ob.mk 2 (List.replicate n [.nl, iA 0])).leafy := by
  intro x hx a ha
  rw [(List.mem_replicate.1 hx).2] at ha
  simp only [List.mem_cons, List.not_mem_nil, or_false] at ha
  rcases ha with rfl | rfl <;> rfl
theorem s65 (n : Nat) (hn : n ≤ 1073741824) : Spec1 Try.prog 65 [.nl, iA n] (fun r o => r = .rf 0 0 0 ∧ o.sz = 2) := by
  refine spec1_of_vc tabOk elems ord65 Try.func65 rfl (rl := [.tmp 4]) rfl (by kernel_rfl) rfl ?_
  (simp -implicitDefEqProofs only [go_sem, iA]; repeat (refine GO ?_; simp -implicitDefEqProofs only [go_sem, iA]))
  refine VIF.split (fun h => by simp at h; omega) (fun _ => ?_)
  have w0 : IntKind.i64.wrap (0 - 0) = 0 := by rw [wrap_i64] <;> omega
  have w1 : IntKind.i64.wrap ((n : Int) - 0) = n := by rw [wrap_i64] <;> omega
  (simp -implicitDefEqProofs only [go_sem, w0, w1]; repeat (refine GO ?_; simp -implicitDefEqProofs only [go_sem, w0, w1]))
  refine VIF.split (fun h => ?_) (fun h => ?_)
  · have h : 0 < n := by simpa using h
    (simp -implicitDefEqProofs only [go_sem]; repeat (refine GO ?_; simp -implicitDefEqProofs only [go_sem]))
    refine ⟨by decide, ⟨_, rfl⟩, ⟨by omega, by omega⟩, by decide, ?_⟩
    (simp -implicitDefEqProofs only [go_sem]; repeat (refine GO ?_; simp -implicitDefEqProofs only [go_sem]))
    refine FINmk [(0, some 22)] [(4, .rf 0 0 0)] [(0, ⟨2, List.replicate n [.nl, iA 0]⟩)] [0] rfl ?_ ?_
    · (simp -implicitDefEqProofs only [go_sem, iA]; repeat (refine GO ?_; simp -implicitDefEqProofs only [go_sem, iA]))
      exact ⟨⟨rfl, rfl⟩, .same ⟨2, List.replicate n [.nl, iA 0]⟩ _ _ (zeros_leafy n) (by simp [iA])⟩
    · exact ⟨_, ⟨⟨rfl, rfl⟩, rfl⟩, zeros_leafy n, rfl⟩
  · (simp -implicitDefEqProofs only [go_sem]; repeat (refine GO ?_; simp -implicitDefEqProofs only [go_sem]))
    refine FINmk [(0, none)] [(4, .rf 0 0 0)] [(0, so [])] [0] rfl ?_ ?_
    · (simp -implicitDefEqProofs only [go_sem]; repeat (refine GO ?_; simp -implicitDefEqProofs only [go_sem]))
      simp [so]
    · exact ⟨so [], ⟨⟨rfl, rfl⟩, rfl⟩, so_leafy [], rfl⟩
/-- All of them, one behind the other. -/
def cat : List (List It) → List It
  | [] => []
  | z :: r => z ++ cat r
theorem s18 (a b : List It) (ha : a.length < 4611686018427387904) (hb : b.length < 4611686018427387904) (hr : ∀ t ∈ a, t.row.length < 4611686018427387904) :
    Spec0 Try.prog 18 [setA a, setA b] (fun r => ∃ e : Bool, r = bA e ∧ (e = true ↔ a = b)) := by
  refine spec0_of_vc tabOk elems ord18 Try.func18 rfl (rl := [.tmp 4]) rfl (by kernel_rfl) rfl ?_
  (simp -implicitDefEqProofs only [go_sem, setA]; repeat (refine GO ?_; simp -implicitDefEqProofs only [go_sem, setA]))
  refine VIF.split (fun h => ?_) (fun h => ?_)
  · have h : a.length ≠ b.length := by simp at h; omega
    (simp -implicitDefEqProofs only [go_sem]; repeat (refine GO ?_; simp -implicitDefEqProofs only [go_sem]))
    exact ⟨false, rfl, by simp; intro e; exact h (by rw [e])⟩
  · have h : a.length = b.length := by simp at h; omega
    (simp -implicitDefEqProofs only [go_sem]; repeat (refine GO ?_; simp -implicitDefEqProofs only [go_sem]))
    refine LOOP.mk (ι := { i : Nat // i ≤ a.length ∧ ∀ j (h1 : j < a.length) (h2 : j < b.length), j < i → a[j] = b[j] }) (fun p => mkS [(0, setA a), (1, setA b), (5, iA p.1)] [] [])
      (fun p => a.length - p.1) ⟨0, Nat.zero_le _, fun j _ _ h => absurd h (Nat.not_lt_zero _)⟩ [] rfl rfl ?_ (fun p => ?_)
    · (simp -implicitDefEqProofs only [go_sem, setA, iA]; repeat (refine GO ?_; simp -implicitDefEqProofs only [go_sem, setA, iA]))
      exact ⟨id, rfl⟩
    · obtain ⟨i, hi, hg⟩ := p
      (simp -implicitDefEqProofs only [go_sem, setA, iA]; repeat (refine GO ?_; simp -implicitDefEqProofs only [go_sem, setA, iA]))
      refine VIF.split (fun h3 => ?_) (fun h3 => ?_)
      · have h3 : i < a.length := by simpa using h3
        have h4 : i < b.length := by omega
        have w1 := wrap_add1 (show i < 4611686018427387904 by omega)
        have bad : a[i] ≠ b[i] → ∃ e : Bool, AV.pr (Value.bool false) = bA e ∧ (e = true ↔ a = b) := fun hne => by
          refine ⟨false, rfl, ?_⟩
          simp only [Bool.false_eq_true, false_iff]
          intro e; subst e; exact hne rfl
        (simp -implicitDefEqProofs only [go_sem]; repeat (refine GO ?_; simp -implicitDefEqProofs only [go_sem]))
        refine EL.map h3 ?_
        (simp -implicitDefEqProofs only [go_sem, It.c]; repeat (refine GO ?_; simp -implicitDefEqProofs only [go_sem, It.c]))
        refine EL.map h4 ?_
        (simp -implicitDefEqProofs only [go_sem, It.c, iA]; repeat (refine GO ?_; simp -implicitDefEqProofs only [go_sem, It.c, iA]))
        refine VIF.split (fun h5 => ?_) (fun h5 => ?_)
        · have h5 : a[i].w ≠ b[i].w := by simpa using h5
          (simp -implicitDefEqProofs only [go_sem]; repeat (refine GO ?_; simp -implicitDefEqProofs only [go_sem]))
          exact bad fun e => h5 (by rw [e])
        · have h5 : a[i].w = b[i].w := by simpa using h5
          (simp -implicitDefEqProofs only [go_sem]; repeat (refine GO ?_; simp -implicitDefEqProofs only [go_sem]))
          refine EL.map h3 ?_
          (simp -implicitDefEqProofs only [go_sem, It.c]; repeat (refine GO ?_; simp -implicitDefEqProofs only [go_sem, It.c]))
          refine EL.map h4 ?_
          (simp -implicitDefEqProofs only [go_sem, It.c]; repeat (refine GO ?_; simp -implicitDefEqProofs only [go_sem, It.c]))
          refine .pure _ (s14 a[i].row b[i].row (hr _ (List.getElem_mem h3))) rfl fun q hq _ => ?_
          obtain ⟨e, rfl, he⟩ := hq
          (simp -implicitDefEqProofs only [go_sem, bA]; repeat (refine GO ?_; simp -implicitDefEqProofs only [go_sem, bA]))
          refine VIF.split (fun h6 => ?_) (fun h6 => ?_)
          · have h6 : e = false := by simpa using h6
            (simp -implicitDefEqProofs only [go_sem]; repeat (refine GO ?_; simp -implicitDefEqProofs only [go_sem]))
            refine bad fun e2 => ?_
            rw [e2] at he
            rw [h6] at he
            simp at he
          · have h6 : e = true := by simpa using h6
            (simp -implicitDefEqProofs only [go_sem, w1]; repeat (refine GO ?_; simp -implicitDefEqProofs only [go_sem, w1]))
            refine BACK.mk ⟨i + 1, by omega, fun j g1 g2 hj => ?_⟩ [] rfl rfl (by show a.length - (i + 1) < a.length - i; omega) ?_
            · by_cases e2 : j = i
              · subst e2
                have h7 := he.1 h6
                show a[j] = b[j]
                generalize a[j] = x at h5 h7
                generalize b[j] = y at h5 h7
                obtain ⟨r1, w1⟩ := x; obtain ⟨r2, w2⟩ := y
                simp only at h5 h7
                subst h5; subst h7; rfl
              · exact hg j g1 g2 (by omega)
            · (simp -implicitDefEqProofs only [go_sem, setA, iA, w1]; repeat (refine GO ?_; simp -implicitDefEqProofs only [go_sem, setA, iA, w1]))
              exact id
      · have h3 : i = a.length := by simp at h3; omega
        (simp -implicitDefEqProofs only [go_sem]; repeat (refine GO ?_; simp -implicitDefEqProofs only [go_sem]))
        refine ⟨true, rfl, fun _ => ?_, fun _ => rfl⟩
        exact List.ext_getElem h fun j h1 h2 => hg j h1 h2 (by omega)
theorem cat_append (x y : List (List It)) : cat (x ++ y) = cat x ++ cat y := by
  induction x with
  | nil => rfl
  | cons z x ih => simp only [List.cons_append, cat, ih, List.append_assoc]
theorem cat_take {zs : List (List It)} {i : Nat} (h : i < zs.length) : (cat (zs.take (i + 1))).length = (cat (zs.take i)).length + zs[i].length := by
  rw [List.take_succ_eq_append_getElem h, cat_append]; simp [cat]
theorem cat_le (zs : List (List It)) (i : Nat) : (cat (zs.take i)).length ≤ (cat zs).length := by
  have : cat zs = cat (zs.take i) ++ cat (zs.drop i) := by rw [← cat_append, List.take_append_drop]
  rw [this]; simp
theorem s51 (zs : List (List It)) (hl : zs.length ≤ 1073741824) (hc : (cat zs).length ≤ 1048576) :
    Spec1 Try.prog 51 [setsA zs] (fun r o => r = .rf 0 0 (cat zs).length ∧ o.sz = 2 ∧ o.es.take (cat zs).length = (cat zs).map It.c) := by
  refine spec1_of_vc tabOk elems ord51 Try.func51 rfl (rl := [.tmp 2]) rfl (by kernel_rfl) rfl ?_
  (simp -implicitDefEqProofs only [go_sem, setsA]; repeat (refine GO ?_; simp -implicitDefEqProofs only [go_sem, setsA]))
  refine LOOP.mk (ι := { i : Nat // i ≤ zs.length }) (fun p => mkS [(0, setsA zs), (3, iA (cat (zs.take p.1)).length), (9, setsA zs), (10, iA zs.length), (11, iA p.1)] [] [])
    (fun p => zs.length - p.1) ⟨0, Nat.zero_le _⟩ [] rfl rfl ?_ (fun p => ?_)
  · (simp -implicitDefEqProofs only [go_sem, setsA, iA]; repeat (refine GO ?_; simp -implicitDefEqProofs only [go_sem, setsA, iA]))
    exact ⟨id, rfl, rfl⟩
  · obtain ⟨i, hi⟩ := p
    (simp -implicitDefEqProofs only [go_sem, setsA, iA]; repeat (refine GO ?_; simp -implicitDefEqProofs only [go_sem, setsA, iA]))
    refine VIF.split (fun h => ?_) (fun h => ?_)
    · have h : i < zs.length := by simpa using h
      (simp -implicitDefEqProofs only [go_sem]; repeat (refine GO ?_; simp -implicitDefEqProofs only [go_sem]))
      refine EL.map h ?_
      have hct := cat_take h
      have hcl := cat_le zs (i + 1)
      rw [hct] at hcl
      have w1 : IntKind.i64.wrap (((cat (zs.take i)).length : Int) + (zs[i].length : Int)) = ((cat (zs.take (i + 1))).length : Int) := by
        rw [hct, wrap_i64] <;> omega
      have w2 := wrap_add1 (show i < 4611686018427387904 by omega)
      (simp -implicitDefEqProofs only [go_sem, setA, w1, w2]; repeat (refine GO ?_; simp -implicitDefEqProofs only [go_sem, setA, w1, w2]))
      refine VIF.split (fun h => by simp at h; omega) (fun _ => ?_)
      (simp -implicitDefEqProofs only [go_sem, w1, w2]; repeat (refine GO ?_; simp -implicitDefEqProofs only [go_sem, w1, w2]))
      refine BACK.mk ⟨i + 1, by omega⟩ [] rfl rfl (by show zs.length - (i + 1) < zs.length - i; omega) ?_
      (simp -implicitDefEqProofs only [go_sem, setsA, iA, w1, w2]; repeat (refine GO ?_; simp -implicitDefEqProofs only [go_sem, setsA, iA, w1, w2]))
      exact ⟨id, rfl, rfl⟩
    · have h : i = zs.length := by simp at h; omega
      subst h
      (simp -implicitDefEqProofs only [go_sem, List.take_length]; repeat (refine GO ?_; simp -implicitDefEqProofs only [go_sem, List.take_length]))
      refine .make 24 _ (s65 (cat zs).length (by omega)) rfl (by simp) rfl fun q o hq hlf => ?_
      obtain ⟨rfl, ho⟩ := hq
      (simp -implicitDefEqProofs only [go_sem]; repeat (refine GO ?_; simp -implicitDefEqProofs only [go_sem]))
      refine LOOP.mk (ι := { p : Nat × Ob // p.1 ≤ zs.length ∧ p.2.sz = 2 ∧ p.2.leafy ∧ p.2.es.take (cat (zs.take p.1)).length = (cat (zs.take p.1)).map It.c })
        (fun p => mkS [(6, .rf 1000 0 (cat (zs.take p.1.1)).length), (25, setsA zs), (26, iA zs.length), (27, iA p.1.1)] [(1000, p.1.2)] [1000])
        (fun p => zs.length - p.1.1) ⟨(0, o), Nat.zero_le _, ho, hlf, rfl⟩ [(1000, some 24)] rfl rfl ?_ (fun p => ?_)
      · (simp -implicitDefEqProofs only [go_sem, setsA, iA]; repeat (refine GO ?_; simp -implicitDefEqProofs only [go_sem, setsA, iA]))
        exact ⟨id, ⟨rfl, rfl⟩, .same o _ _ hlf rfl⟩
      · obtain ⟨⟨i, o2⟩, hi, hsz, hlf2, hes⟩ := p
        simp only at hi hsz hlf2 hes
        (simp -implicitDefEqProofs only [go_sem, setsA, iA]; repeat (refine GO ?_; simp -implicitDefEqProofs only [go_sem, setsA, iA]))
        refine VIF.split (fun h => ?_) (fun h => ?_)
        · have h : i < zs.length := by simpa using h
          have hct := cat_take h
          have hcl := cat_le zs (i + 1)
          rw [hct] at hcl
          have w2 := wrap_add1 (show i < 4611686018427387904 by omega)
          (simp -implicitDefEqProofs only [go_sem]; repeat (refine GO ?_; simp -implicitDefEqProofs only [go_sem]))
          refine EL.map h ?_
          (simp -implicitDefEqProofs only [go_sem, setA, w2]; repeat (refine GO ?_; simp -implicitDefEqProofs only [go_sem, setA, w2]))
          refine ⟨⟨hsz, by omega⟩, ?_⟩
          have hlf3 : (Ob.mk 2 (o2.es.take (cat (zs.take i)).length ++ zs[i].map It.c)).leafy := by
            rw [hes, ← List.map_append]; exact so_leafy _
          refine BACK.mk ⟨(i + 1, ⟨2, o2.es.take (cat (zs.take i)).length ++ zs[i].map It.c⟩), by omega, rfl, hlf3, by
            show (o2.es.take (cat (zs.take i)).length ++ zs[i].map It.c).take (cat (zs.take (i + 1))).length = (cat (zs.take (i + 1))).map It.c
            rw [hes, ← List.map_append, List.take_succ_eq_append_getElem h, cat_append]
            simp only [cat, List.append_nil]
            exact List.take_of_length_le (by simp)⟩ [(1000, some 33)] rfl rfl (by show zs.length - (i + 1) < zs.length - i; omega) ?_
          (simp -implicitDefEqProofs only [go_sem, setsA, iA, w2]; repeat (refine GO ?_; simp -implicitDefEqProofs only [go_sem, setsA, iA, w2]))
          refine ⟨id, ⟨by rw [hct], rfl⟩, .same (Ob.mk 2 (o2.es.take (cat (zs.take i)).length ++ zs[i].map It.c)) _ _ hlf3 rfl⟩
        · have h : i = zs.length := by simp at h; omega
          subst h
          rw [List.take_length] at hes
          (simp -implicitDefEqProofs only [go_sem, List.take_length]; repeat (refine GO ?_; simp -implicitDefEqProofs only [go_sem, List.take_length]))
          refine FINmk [(0, some 1000)] [(2, .rf 0 0 (cat zs).length)] [(0, o2)] [0] rfl ?_ ?_
          · (simp -implicitDefEqProofs only [go_sem]; repeat (refine GO ?_; simp -implicitDefEqProofs only [go_sem]))
            exact .same o2 _ _ hlf2 rfl
          · exact ⟨o2, ⟨⟨rfl, hsz, hes⟩, rfl⟩, hlf2, rfl⟩
end Yt
