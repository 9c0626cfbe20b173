/- The law SetEnds. What is proved: contracts of the program's functions over abstract values, or plain facts on which these lean; the conditions stand in each theorem. -/
import Derived.Test.YtpipfaegkgakiaaYtU
set_option linter.all false
/-! The law SetEnds. -/
namespace Yt
open Go Go.Vc Go.Proofs
set_option maxRecDepth 10000
set_option maxHeartbeats 4000000
set_option linter.unusedSimpArgs false
set_option linter.unusedVariables false
theorem made_okW {o : List It} (h : Made o) (r : List V) : okW (tot r o) = true := by
  by_cases hn : tot r o = 0
  · rw [hn]; simp [okW, inB]
  · obtain ⟨t, ht, rfl⟩ := (tot_there h r).1 hn
    rw [tot_made h ht]; exact (h.nz t ht).2
theorem makeR_bad {z out : List It} {err : Int} (h : MakeR z out err) (hb : (z.any fun t => !okI t) = true) : out = [] ∧ err = 1 := by
  rcases h with ⟨_, h⟩ | ⟨h, _⟩ | ⟨h, _⟩
  · exact h
  · rw [hb] at h; cases h
  · rw [hb] at h; cases h
theorem makeR_over {z out : List It} {err : Int} (h : MakeR z out err) (hb : (z.any fun t => !okI t) = false) {r : List V} (hr : okW (tot r z) = false) : out = [] ∧ err = 11 := by
  rcases h with ⟨h, _⟩ | ⟨_, h1, h2, _⟩ | ⟨_, _, hm, ht, _⟩
  · rw [hb] at h; cases h
  · exact ⟨h1, h2⟩
  · rw [← ht r, made_okW hm r] at hr; cases hr
theorem makeR_ok {z out o : List It} {err : Int} (h : MakeR z out err) (hb : (z.any fun t => !okI t) = false) (ho : Made o) (hr : ∀ r, tot r o = tot r z) : out = o ∧ err = 0 := by
  rcases h with ⟨h, _⟩ | ⟨_, h1, h2, r, h3⟩ | ⟨_, h1, hm, ht, _⟩
  · rw [hb] at h; cases h
  · rw [← hr r, made_okW ho r] at h3; cases h3
  · exact ⟨made_eq hm ho fun r => (ht r).trans (hr r).symm, h1⟩
def r1 : List V := [⟨3, 1, ByteArray.empty⟩]
theorem r1_ok : okR r1 = 0 := by simp [r1, okR, okV, inB]; rfl
theorem one_made {w : Int} (h0 : w ≠ 0) (h : okW w = true) : Made [⟨r1, w⟩] := ⟨List.pairwise_singleton _ _, by simpa using ⟨h0, h⟩⟩
theorem one_good {w : Int} : Good [⟨r1, w⟩] ↔ w ≠ 0 ∧ okW w = true := by
  rw [good_made]
  constructor
  · rintro ⟨h, _⟩; simpa using h.nz ⟨r1, w⟩ (by simp)
  · rintro ⟨h0, h⟩; exact ⟨one_made h0 h, by simpa using r1_ok⟩
def MW : Int := 72057594037927936
theorem u64_mod (x k : Int) (hk : 0 < k) (hk' : k ≤ 4611686018427387904) : ∃ o : Int, IntKind.i64.wrap ((IntKind.u64.wrap x).tmod k) = o ∧ 0 ≤ o ∧ o < k := by
  have h0 : 0 ≤ IntKind.u64.wrap x := by simp [IntKind.wrap, IntKind.signed, IntKind.bits]; omega
  have h1 : (IntKind.u64.wrap x).tmod k = (IntKind.u64.wrap x) % k := Int.tmod_eq_emod_of_nonneg h0
  have h2 := Int.emod_nonneg (IntKind.u64.wrap x) (show k ≠ 0 by omega)
  have h3 := Int.emod_lt_of_pos (IntKind.u64.wrap x) hk
  refine ⟨_, ?_, h2, h3⟩
  rw [h1, wrap_i64] <;> omega
theorem s5 (over : Int) (neg : Bool) (hov : -9223372036854775808 ≤ over ∧ over ≤ 9223372036854775807) : Spec0 Try.prog 5 [iA over, bA neg] (· = bA true) := by
  refine spec0_of_vc tabOk elems ord5 Try.func5 rfl (rl := [.tmp 4]) rfl (by kernel_rfl) rfl ?_
  obtain ⟨o, ho, ho2⟩ := u64_mod over 2 (by decide) (by decide)
  have ho2 : o = 0 ∨ o = 1 := by omega
  (simp -implicitDefEqProofs only [go_sem, iA, bA, ho]; repeat (refine GO ?_; simp -implicitDefEqProofs only [go_sem, iA, bA, ho]))
  refine ⟨by decide, ?_⟩
  refine VIF.join (ι := { p : Int × Int // (p.1 = MW ∧ p.2 = o) ∨ (p.1 = -MW ∧ p.2 = -o) }) (fun p => mkS [(0, iA o), (5, iA p.1.1), (6, iA p.1.2)] [] []) (fun h => ?_) (fun h => ?_) (fun p => ?_)
  · have w1 : IntKind.i64.wrap (0 - 72057594037927936) = -MW := by rw [MW, wrap_i64] <;> omega
    have w2 : IntKind.i64.wrap (0 - o) = -o := by rw [wrap_i64] <;> omega
    (simp -implicitDefEqProofs only [go_sem, ho, w1, w2]; repeat (refine GO ?_; simp -implicitDefEqProofs only [go_sem, ho, w1, w2]))
    refine JB.mk ⟨(-MW, -o), .inr ⟨rfl, rfl⟩⟩ [] rfl rfl ?_
    (simp -implicitDefEqProofs only [go_sem, ho, w1, w2, iA]; repeat (refine GO ?_; simp -implicitDefEqProofs only [go_sem, ho, w1, w2, iA]))
    exact id
  · (simp -implicitDefEqProofs only [go_sem]; repeat (refine GO ?_; simp -implicitDefEqProofs only [go_sem]))
    refine JB.mk ⟨(MW, o), .inl ⟨rfl, rfl⟩⟩ [] rfl rfl ?_
    (simp -implicitDefEqProofs only [go_sem, ho, iA]; repeat (refine GO ?_; simp -implicitDefEqProofs only [go_sem, ho, iA]))
    exact ⟨id, rfl⟩
  · obtain ⟨⟨w, m⟩, hp⟩ := p
    simp only at hp
    (simp -implicitDefEqProofs only [go_sem, iA]; repeat (refine GO ?_; simp -implicitDefEqProofs only [go_sem, iA]))
    refine .make 26 _ (s22 1) rfl (by simp) rfl fun q o hq _ => ?_
    obtain ⟨rfl, rfl⟩ := hq
    have hw0 : w ≠ 0 := by simp only [MW] at hp; omega
    have hwk : okW w = true := by simp only [MW] at hp; simp [okW, inB]; omega
    simp -implicitDefEqProofs only [go_sem]
    refine TOG [(29, some 29)] [(0, iA o), (5, iA w), (6, iA m), (29, .rf 29 0 1)] [(29, so [⟨r1, w⟩])] [29] rfl ?_ ?_
    · (simp -implicitDefEqProofs only [go_sem, so, iA]; repeat (refine GO ?_; simp -implicitDefEqProofs only [go_sem, so, iA]))
      refine ⟨id, .cons ?_ .nil⟩
      (simp -implicitDefEqProofs only [go_sem, It.c, rowA, iA]; repeat (refine GO ?_; simp -implicitDefEqProofs only [go_sem, It.c, rowA, iA]))
      exact ⟨by decide, _, rfl, ro3_leafy _, rfl, rfl⟩
    refine TO [] [(0, iA o), (5, iA w), (6, iA m), (29, setA [⟨r1, w⟩])] [] [] rfl ?_ ?_
    · (simp -implicitDefEqProofs only [go_sem, so, setA, iA]; repeat (refine GO ?_; simp -implicitDefEqProofs only [go_sem, so, setA, iA]))
      exact ⟨id, by decide, _, rfl, so_leafy [⟨r1, w⟩], rfl, rfl⟩
    (simp -implicitDefEqProofs only [go_sem, setA, iA]; repeat (refine GO ?_; simp -implicitDefEqProofs only [go_sem, setA, iA]))
    have any1 : ([⟨r1, w⟩].any fun t => !okI t) = false := by simp [okI, r1_ok, hwk]
    refine .make 30 _ (s11 [⟨r1, w⟩] (by simp) (by simp [r1])) rfl (by simp) rfl fun q ob hq _ => ?_
    obtain ⟨out, err, rfl, rfl, hm⟩ := hq
    obtain ⟨rfl, rfl⟩ := makeR_ok hm any1 (one_made hw0 hwk) fun r => rfl
    (simp -implicitDefEqProofs only [go_sem, iA, so]; repeat (refine GO ?_; simp -implicitDefEqProofs only [go_sem, iA, so]))
    refine VIF.split (fun h => absurd h (by decide)) (fun _ => ?_)
    (simp -implicitDefEqProofs only [go_sem]; repeat (refine GO ?_; simp -implicitDefEqProofs only [go_sem]))
    refine VIF.split (fun h => absurd h (by decide)) (fun _ => ?_)
    (simp -implicitDefEqProofs only [go_sem]; repeat (refine GO ?_; simp -implicitDefEqProofs only [go_sem]))
    refine ⟨by decide, EL.map (show Int.toNat 0 < [(⟨r1, w⟩ : It)].length by simp) ?_⟩
    (simp -implicitDefEqProofs only [go_sem, It.c, iA]; repeat (refine GO ?_; simp -implicitDefEqProofs only [go_sem, It.c, iA]))
    refine VIF.split (fun h => absurd h (by simp)) (fun _ => ?_)
    (simp -implicitDefEqProofs only [go_sem]; repeat (refine GO ?_; simp -implicitDefEqProofs only [go_sem]))
    refine .lendTo (s16 [⟨r1, w⟩] (by simp) (by simp [r1])) ?_ (by rintro _ ⟨e, rfl, _⟩; rfl) fun q hq => ?_
    · (simp -implicitDefEqProofs only [go_sem, setA]; repeat (refine GO ?_; simp -implicitDefEqProofs only [go_sem, setA]))
      exact ⟨rfl, by simp [It.c, rowA, iA, leafs2, leafs, AV.leaf]⟩
    obtain ⟨e, rfl, _, he⟩ := hq
    have he := he.2 (one_good.2 ⟨hw0, hwk⟩)
    subst he
    (simp -implicitDefEqProofs only [go_sem, iA]; repeat (refine GO ?_; simp -implicitDefEqProofs only [go_sem, iA]))
    refine VIF.split (fun h => absurd h (by decide)) (fun _ => ?_)
    simp -implicitDefEqProofs only [go_sem]
    refine TO [] [(0, iA o), (5, iA w), (6, iA m), (7, setA [⟨r1, w⟩])] [] [] rfl ?_ ?_
    · (simp -implicitDefEqProofs only [go_sem, so, setA, iA]; repeat (refine GO ?_; simp -implicitDefEqProofs only [go_sem, so, setA, iA]))
      exact ⟨id, by decide, _, rfl, so_leafy [⟨r1, w⟩], rfl, rfl⟩
    (simp -implicitDefEqProofs only [go_sem, iA]; repeat (refine GO ?_; simp -implicitDefEqProofs only [go_sem, iA]))
    refine .make 54 _ (s22 1) rfl (by simp) rfl fun q ob hq _ => ?_
    obtain ⟨rfl, rfl⟩ := hq
    (simp -implicitDefEqProofs only [go_sem]; repeat (refine GO ?_; simp -implicitDefEqProofs only [go_sem]))
    refine .make 57 _ (s22 1) rfl (by simp) rfl fun q ob hq _ => ?_
    obtain ⟨rfl, rfl⟩ := hq
    simp -implicitDefEqProofs only [go_sem]
    refine TOG [(60, some 60)] [(0, iA o), (5, iA w), (6, iA m), (7, setA [⟨r1, w⟩]), (60, .rf 60 0 2)] [(60, so [⟨r1, w⟩, ⟨r1, m⟩])] [60] rfl ?_ ?_
    · (simp -implicitDefEqProofs only [go_sem, so, iA, setA]; repeat (refine GO ?_; simp -implicitDefEqProofs only [go_sem, so, iA, setA]))
      refine ⟨id, .cons ?_ (.cons ?_ .nil)⟩
      all_goals
        (simp -implicitDefEqProofs only [go_sem, It.c, rowA, iA]; repeat (refine GO ?_; simp -implicitDefEqProofs only [go_sem, It.c, rowA, iA]))
        exact ⟨by decide, _, rfl, ro3_leafy _, rfl, rfl⟩
    refine TO [] [(0, iA o), (5, iA w), (6, iA m), (7, setA [⟨r1, w⟩]), (60, setA [⟨r1, w⟩, ⟨r1, m⟩])] [] [] rfl ?_ ?_
    · (simp -implicitDefEqProofs only [go_sem, so, setA, iA]; repeat (refine GO ?_; simp -implicitDefEqProofs only [go_sem, so, setA, iA]))
      exact ⟨id, by decide, _, rfl, so_leafy [⟨r1, w⟩, ⟨r1, m⟩], rfl, rfl⟩
    (simp -implicitDefEqProofs only [go_sem, setA, iA]; repeat (refine GO ?_; simp -implicitDefEqProofs only [go_sem, setA, iA]))
    have hmk : okW m = true := by simp [okW, inB]; omega
    have any2 : ([⟨r1, w⟩, ⟨r1, m⟩].any fun t => !okI t) = false := by simp [okI, r1_ok, hwk, hmk]
    refine .make 61 _ (s11 [⟨r1, w⟩, ⟨r1, m⟩] (by simp) (by simp [r1])) rfl (by simp) rfl fun q ob hq _ => ?_
    obtain ⟨out2, err2, rfl, rfl, hm2⟩ := hq
    have tot2 : tot r1 [⟨r1, w⟩, ⟨r1, m⟩] = w + m := by
      have := lin_cmpR.self r1
      simp [tot, this]
    have h2 : (o = 1 → out2 = [] ∧ err2 = 11) ∧ (o = 0 → out2 = [⟨r1, w⟩] ∧ err2 = 0) := by
      refine ⟨fun h => makeR_over hm2 any2 (r := r1) ?_, fun h => makeR_ok hm2 any2 (one_made hw0 hwk) fun r => ?_⟩
      · rw [tot2]; simp only [MW] at hp; simp [okW, inB]; omega
      · have : m = 0 := by omega
        subst this
        simp only [tot]; split <;> omega
    simp -implicitDefEqProofs only [go_sem, iA, so]
    refine TO [] [(0, iA o), (5, iA w), (6, iA m), (7, setA [⟨r1, w⟩]), (8, iA err2), (9, setA out2), (65, setA [⟨r1, w⟩]), (66, setA [⟨r1, w⟩])] [] [] rfl ?_ ?_
    · (simp -implicitDefEqProofs only [go_sem, so, setA, iA]; repeat (refine GO ?_; simp -implicitDefEqProofs only [go_sem, so, setA, iA]))
      exact ⟨id, by decide, _, rfl, so_leafy out2, rfl, List.take_of_length_le (by simp)⟩
    (simp -implicitDefEqProofs only [go_sem, iA]; repeat (refine GO ?_; simp -implicitDefEqProofs only [go_sem, iA]))
    refine .make 67 _ (s23 [⟨r1, w⟩] [⟨r1, w⟩] (by simp) (by simp [r1]) (by simp [r1])) rfl (by simp) rfl fun q ob hq _ => ?_
    obtain ⟨out3, err3, rfl, rfl, hm3⟩ := hq
    have h3 : out3 = [] ∧ err3 = 11 := by
      rcases hm3 with ⟨h, _⟩ | ⟨_, _, h⟩
      · exact absurd ⟨one_good.2 ⟨hw0, hwk⟩, one_good.2 ⟨hw0, hwk⟩⟩ h
      · refine makeR_over h (by simp [okI, r1_ok, hwk]) (r := r1) ?_
        have := lin_cmpR.self r1
        simp only [MW] at hp
        simp [tot, this, okW, inB]; omega
    obtain ⟨rfl, rfl⟩ := h3
    have w3 : IntKind.i64.wrap (w + m) = w + m := by simp only [MW] at hp; rw [wrap_i64] <;> omega
    (simp -implicitDefEqProofs only [go_sem, iA, so, w3]; repeat (refine GO ?_; simp -implicitDefEqProofs only [go_sem, iA, so, w3]))
    refine .make 70 _ (s22 1) rfl (by simp) rfl fun q ob hq _ => ?_
    obtain ⟨rfl, rfl⟩ := hq
    simp -implicitDefEqProofs only [go_sem, w3]
    refine TOG [(75, some 75)] [(0, iA o), (5, iA w), (6, iA m), (7, setA [⟨r1, w⟩]), (8, iA err2), (9, setA out2), (10, setA []), (11, iA 11), (75, .rf 75 0 1)] [(75, so [⟨r1, w + m⟩])] [75] rfl ?_ ?_
    · (simp -implicitDefEqProofs only [go_sem, so, iA, setA]; repeat (refine GO ?_; simp -implicitDefEqProofs only [go_sem, so, iA, setA]))
      refine ⟨id, ⟨by decide, _, rfl, so_leafy [], rfl, rfl⟩, .cons ?_ .nil⟩
      (simp -implicitDefEqProofs only [go_sem, It.c, rowA, iA]; repeat (refine GO ?_; simp -implicitDefEqProofs only [go_sem, It.c, rowA, iA]))
      exact ⟨by decide, _, rfl, ro3_leafy _, rfl, rfl⟩
    refine TO [] [(0, iA o), (5, iA w), (6, iA m), (7, setA [⟨r1, w⟩]), (8, iA err2), (9, setA out2), (10, setA []), (11, iA 11), (75, setA [⟨r1, w + m⟩])] [] [] rfl ?_ ?_
    · (simp -implicitDefEqProofs only [go_sem, so, setA, iA]; repeat (refine GO ?_; simp -implicitDefEqProofs only [go_sem, so, setA, iA]))
      exact ⟨id, by decide, _, rfl, so_leafy [⟨r1, w + m⟩], rfl, rfl⟩
    (simp -implicitDefEqProofs only [go_sem, setA, iA]; repeat (refine GO ?_; simp -implicitDefEqProofs only [go_sem, setA, iA]))
    refine .pure _ (s16 [⟨r1, w + m⟩] (by simp) (by simp [r1])) rfl fun q hq _ => ?_
    obtain ⟨e4, rfl, he4, hg4⟩ := hq
    rw [one_good] at hg4
    (simp -implicitDefEqProofs only [go_sem, iA, w3]; repeat (refine GO ?_; simp -implicitDefEqProofs only [go_sem, iA, w3]))
    refine .make 78 _ (s22 1) rfl (by simp) rfl fun q ob hq _ => ?_
    obtain ⟨rfl, rfl⟩ := hq
    simp -implicitDefEqProofs only [go_sem, w3]
    refine TOG [(83, some 83)] [(0, iA o), (5, iA w), (6, iA m), (7, setA [⟨r1, w⟩]), (8, iA err2), (9, setA out2), (10, setA []), (11, iA 11), (12, iA e4), (83, .rf 83 0 1)] [(83, so [⟨r1, w + m⟩])] [83] rfl ?_ ?_
    · (simp -implicitDefEqProofs only [go_sem, so, iA, setA]; repeat (refine GO ?_; simp -implicitDefEqProofs only [go_sem, so, iA, setA]))
      refine ⟨id, .cons ?_ .nil⟩
      (simp -implicitDefEqProofs only [go_sem, It.c, rowA, iA]; repeat (refine GO ?_; simp -implicitDefEqProofs only [go_sem, It.c, rowA, iA]))
      exact ⟨by decide, _, rfl, ro3_leafy _, rfl, rfl⟩
    refine TO [] [(0, iA o), (5, iA w), (6, iA m), (7, setA [⟨r1, w⟩]), (8, iA err2), (9, setA out2), (10, setA []), (11, iA 11), (12, iA e4), (83, setA [⟨r1, w + m⟩])] [] [] rfl ?_ ?_
    · (simp -implicitDefEqProofs only [go_sem, so, setA, iA]; repeat (refine GO ?_; simp -implicitDefEqProofs only [go_sem, so, setA, iA]))
      exact ⟨id, by decide, _, rfl, so_leafy [⟨r1, w + m⟩], rfl, rfl⟩
    (simp -implicitDefEqProofs only [go_sem, setA, iA]; repeat (refine GO ?_; simp -implicitDefEqProofs only [go_sem, setA, iA]))
    refine .make 84 _ (s11 [⟨r1, w + m⟩] (by simp) (by simp [r1])) rfl (by simp) rfl fun q ob hq _ => ?_
    obtain ⟨out5, err5, rfl, rfl, hm5⟩ := hq
    (simp -implicitDefEqProofs only [go_sem, iA, so]; repeat (refine GO ?_; simp -implicitDefEqProofs only [go_sem, iA, so]))
    refine VIF.split (fun h => absurd h (by decide)) (fun _ => ?_)
    (simp -implicitDefEqProofs only [go_sem]; repeat (refine GO ?_; simp -implicitDefEqProofs only [go_sem]))
    refine VIF.split (fun h => absurd h (by decide)) (fun _ => ?_)
    (simp -implicitDefEqProofs only [go_sem]; repeat (refine GO ?_; simp -implicitDefEqProofs only [go_sem]))
    refine VIF.split (fun h => ?_) (fun h => ?_)
    · have ho1 : o = 1 := by simp at h; omega
      obtain ⟨rfl, rfl⟩ := h2.1 ho1
      have hbad : okW (w + m) = false := by simp only [MW] at hp; simp [okW, inB]; omega
      have he41 : e4 = 1 := by
        rcases he4 with h | h
        · have := (hg4.1 h).2; rw [hbad] at this; cases this
        · exact h
      subst he41
      obtain ⟨rfl, rfl⟩ := makeR_bad hm5 (by simp [okI, hbad])
      (simp -implicitDefEqProofs only [go_sem]; repeat (refine GO ?_; simp -implicitDefEqProofs only [go_sem]))
      refine VIF.split (fun _ => ?_) (fun h => absurd h (by decide))
      (simp -implicitDefEqProofs only [go_sem]; repeat (refine GO ?_; simp -implicitDefEqProofs only [go_sem]))
      refine VIF.split (fun _ => ?_) (fun h => absurd h (by decide))
      (simp -implicitDefEqProofs only [go_sem]; repeat (refine GO ?_; simp -implicitDefEqProofs only [go_sem]))
      refine VIF.split (fun _ => ?_) (fun h => absurd h (by decide))
      (simp -implicitDefEqProofs only [go_sem]; repeat (refine GO ?_; simp -implicitDefEqProofs only [go_sem]))
      refine VIF.split (fun _ => ?_) (fun h => absurd h (by decide))
      (simp -implicitDefEqProofs only [go_sem]; repeat (refine GO ?_; simp -implicitDefEqProofs only [go_sem]))
      refine .pure _ s12 rfl fun q hq _ => ?_
      subst hq
      (simp -implicitDefEqProofs only [go_sem, bA]; repeat (refine GO ?_; simp -implicitDefEqProofs only [go_sem, bA]))
    · have ho1 : o = 0 := by simp at h; omega
      have hm0 : m = 0 := by omega
      subst hm0
      obtain ⟨rfl, rfl⟩ := h2.2 ho1
      rw [Int.add_zero] at hm5 hg4
      have he40 : e4 = 0 := hg4.2 ⟨hw0, hwk⟩
      subst he40
      obtain ⟨rfl, rfl⟩ := makeR_ok hm5 any1 (one_made hw0 hwk) fun r => rfl
      (simp -implicitDefEqProofs only [go_sem]; repeat (refine GO ?_; simp -implicitDefEqProofs only [go_sem]))
      refine VIF.split (fun _ => ?_) (fun h => absurd h (by decide))
      (simp -implicitDefEqProofs only [go_sem]; repeat (refine GO ?_; simp -implicitDefEqProofs only [go_sem]))
      refine .pure _ (s18 [⟨r1, w⟩] [⟨r1, w⟩] (by simp) (by simp) (by simp [r1])) rfl fun q hq _ => ?_
      obtain ⟨e6, rfl, h6⟩ := hq
      have h6 := h6.2 rfl
      subst h6
      (simp -implicitDefEqProofs only [go_sem, bA]; repeat (refine GO ?_; simp -implicitDefEqProofs only [go_sem, bA]))
      refine VIF.split (fun _ => ?_) (fun h => absurd h (by decide))
      (simp -implicitDefEqProofs only [go_sem]; repeat (refine GO ?_; simp -implicitDefEqProofs only [go_sem]))
      refine VIF.split (fun _ => ?_) (fun h => absurd h (by decide))
      (simp -implicitDefEqProofs only [go_sem]; repeat (refine GO ?_; simp -implicitDefEqProofs only [go_sem]))
      refine .pure _ s12 rfl fun q hq _ => ?_
      subst hq
      (simp -implicitDefEqProofs only [go_sem, bA]; repeat (refine GO ?_; simp -implicitDefEqProofs only [go_sem, bA]))
end Yt
