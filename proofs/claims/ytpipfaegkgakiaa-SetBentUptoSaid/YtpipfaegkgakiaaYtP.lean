/- What is made of items: the walk. What is proved: contracts of the program's functions over abstract values, or plain facts on which these lean; the conditions stand in each theorem. -/
import Derived.Test.YtpipfaegkgakiaaYtO
set_option linter.all false
/-! What is made of items: the walk. -/
namespace Yt
open Go Go.Vc Go.Proofs
set_option maxRecDepth 10000
set_option maxHeartbeats 4000000
set_option linter.unusedSimpArgs false
set_option linter.unusedVariables false
/-- What is made of z: out, and the refusal. -/
def MakeR (z out : List It) (err : Int) : Prop :=
  ((z.any fun t => !okI t) = true ∧ out = [] ∧ err = 1) ∨
  ((z.any fun t => !okI t) = false ∧ out = [] ∧ err = 11 ∧ ∃ r, okW (tot r z) = false) ∨
  ((z.any fun t => !okI t) = false ∧ err = 0 ∧ Made out ∧ (∀ r, tot r out = tot r z) ∧ (∀ t ∈ out, okR t.row = 0 ∧ ∃ u ∈ z, u.row = t.row) ∧ out.length ≤ z.length)
theorem Es_snoc {st : St} {m : List (Nat × Option Nat)} {l : List (List AV)} {cs cs' : List AV} (hl : ∀ x ∈ l, ∀ a ∈ x, a.leaf = true) (h : wk.wks st m cs cs') : Es st m (l ++ [cs]) (l ++ [cs']) := by
  induction l with
  | nil => exact .cons h .nil
  | cons x r ih => exact .cons (wks_leaf (hl x (by simp))) (ih fun y hy => hl y (by simp [hy]))
/-- What the first i items from off on come to, in two parts. -/
structure TI (y : List It) (off i : Nat) (h l : Int) : Prop where
  le : off + i ≤ y.length
  same : ∀ j (hj : j < y.length) (h0 : off < y.length), off ≤ j → j < off + i → cI y[j] y[off] = 0
  sum : h * 268435456 + l = sumW ((y.drop off).take i)
  hb : -((i : Int) * 536870912) ≤ h ∧ h ≤ (i : Int) * 536870912
  lb : 0 ≤ l ∧ l ≤ (i : Int) * 268435456
theorem TI.start {y : List It} {off : Nat} (h : off ≤ y.length) : TI y off 0 0 0 :=
  ⟨h, fun j _ _ h1 h2 => by omega, by simp [sumW], by omega, by omega⟩
theorem okW_le {w : Int} (h : okW w = true) : -72057594037927936 ≤ w ∧ w ≤ 72057594037927936 := by
  simp [okW, inB] at h; omega
theorem TI.step {y : List It} {off i : Nat} {h l : Int} (t : TI y off i h l) (hi : off + i < y.length) (e : ∀ h0 : off < y.length, cI y[off + i] y[off] = 0) (hw : okW y[off + i].w = true) :
    TI y off (i + 1) (h + y[off + i].w / 268435456) (l + y[off + i].w % 268435456) := by
  have hw := okW_le hw
  obtain ⟨t1, t2, t3, t4, t5⟩ := t
  refine ⟨by omega, fun j hj h0 h1 h2 => ?_, ?_, by omega, by omega⟩
  · by_cases hji : j = off + i
    · subst hji; exact e h0
    · exact t2 j hj h0 h1 (by omega)
  · have hd : i < (y.drop off).length := by rw [List.length_drop]; omega
    rw [List.take_succ_eq_append_getElem hd, sumW_append, ← t3]
    simp only [sumW, List.getElem_drop]
    omega
theorem TI.run {y : List It} {off i : Nat} {h l : Int} (t : TI y off i h l) (h0 : off < y.length) (hn : ∀ hi : off + i < y.length, cI y[off + i] y[off] ≠ 0) : Run y off (off + i) := by
  refine ⟨?_, t.le, t.same, fun hi h0 => hn hi⟩
  apply Classical.byContradiction
  intro hlt
  have : i = 0 := by omega
  subst this
  exact hn h0 (cI_eq.2 rfl)
def to2 (h l : Int) : Ob := ⟨2, [[iA h, iA l]]⟩
theorem to2_leafy (h l : Int) : (to2 h l).leafy := by
  rw [to2, leafy_do]; simp [leafs2, leafs, iA, AV.leaf]
theorem s11 (z : List It) (hl : z.length ≤ 1048576) (hr : ∀ t ∈ z, t.row.length < 1073741824) :
    Spec1 Try.prog 11 [setA z] (fun r o => ∃ (out : List It) (err : Int), r = .tu [.rf 0 0 out.length, iA err] ∧ o = so out ∧ MakeR z out err) := by
  refine spec1_of_vc tabOk elems ord11 Try.func11 rfl (rl := [.tmp 2, .tmp 3]) rfl (by kernel_rfl) rfl ?_
  (simp -implicitDefEqProofs only [go_sem, setA]; repeat (refine GO ?_; simp -implicitDefEqProofs only [go_sem, setA]))
  refine .pure _ (s34 z (fun t ht => by have := hr t ht; omega) (by omega)) rfl fun r hr' _ => ?_
  subst hr'
  (simp -implicitDefEqProofs only [go_sem, bA]; repeat (refine GO ?_; simp -implicitDefEqProofs only [go_sem, bA]))
  refine VIF.split (fun h => ?_) (fun hbad => ?_)
  · (simp -implicitDefEqProofs only [go_sem]; repeat (refine GO ?_; simp -implicitDefEqProofs only [go_sem]))
    refine FINmk [(0, none)] [(2, .rf 0 0 0), (3, iA 1)] [(0, so [])] [0] rfl ?_ ?_
    · (simp -implicitDefEqProofs only [go_sem, iA]; repeat (refine GO ?_; simp -implicitDefEqProofs only [go_sem, iA]))
      simp [so]
    · exact ⟨so [], ⟨⟨[], 1, rfl, rfl, .inl ⟨h, rfl, rfl⟩⟩, rfl⟩, so_leafy [], rfl⟩
  · (simp -implicitDefEqProofs only [go_sem]; repeat (refine GO ?_; simp -implicitDefEqProofs only [go_sem]))
    refine .make 13 _ (s38 z (by omega)) rfl (by simp) rfl fun r o hro _ => ?_
    obtain ⟨rfl, rfl⟩ := hro
    (simp -implicitDefEqProofs only [go_sem]; repeat (refine GO ?_; simp -implicitDefEqProofs only [go_sem]))
    refine .obj 13 (so z) _ [.rf 0 0 z.length, .fn 40 []] (s39 40 cI cmp_cI (fun t => t.row.length < 4611686018427387904) (fun x y hx _ => s40 x y hx) z (fun t ht => by have := hr t ht; omega) (by omega)) rfl (so_leafy z) rfl rfl fun r o' hro _ _ => ?_
    obtain ⟨rfl, y, rfl, hw, hs⟩ := hro
    have hlen := hw.len
    have hry : ∀ t ∈ y, t.row.length < 1073741824 := fun t ht => hr t (hw.perm.mem_iff.1 ht)
    have hok : ∀ t ∈ y, okI t = true := fun t ht => by
      have h1 : ∀ u ∈ z, okI u = true := by simpa using hbad
      exact h1 t (hw.perm.mem_iff.1 ht)
    have hs : SR cI y 0 y.length := by rw [hlen]; exact hs
    rw [← hlen]
    (simp -implicitDefEqProofs only [go_sem]; repeat (refine GO ?_; simp -implicitDefEqProofs only [go_sem]))
    refine LOOP.mk (ι := { p : Nat × List It // GI y p.1 p.2 ∧ p.2.length ≤ p.1 }) (fun p => mkS [(4, .rf 1000 p.1.1 (y.length - p.1.1)), (5, .rf 1001 0 p.1.2.length)] [(1000, so y), (1001, so p.1.2)] [1000, 1001])
      (fun p => y.length - p.1.1) ⟨(0, []), .start y, Nat.le_refl _⟩ [(1000, some 13), (1001, none)] rfl rfl ?_ (fun p => ?_)
    · (simp -implicitDefEqProofs only [go_sem, so]; repeat (refine GO ?_; simp -implicitDefEqProofs only [go_sem, so]))
      exact ⟨id, .same (so y) _ _ (so_leafy y) rfl, rfl⟩
    · obtain ⟨⟨off, out⟩, g, hol⟩ := p
      have hle := g.le
      simp only at hle hol
      (simp -implicitDefEqProofs only [go_sem, so]; repeat (refine GO ?_; simp -implicitDefEqProofs only [go_sem, so]))
      refine VIF.split (fun h1 => ?_) (fun h1 => ?_)
      · have h0 : off < y.length := by simp at h1; omega
        (simp -implicitDefEqProofs only [go_sem]; repeat (refine GO ?_; simp -implicitDefEqProofs only [go_sem]))
        refine LOOP.join (ι := { q : Nat × Int × Int // TI y off q.1 q.2.1 q.2.2 ∧ Run y off (off + q.1) })
          (fun q => mkS [(4, .rf 1000 off (y.length - off)), (5, .rf 1001 0 out.length), (6, iA q.1.1), (7, .pt 1002 0 0)] [(1000, so y), (1001, so out), (1002, to2 q.1.2.1 q.1.2.2)] [1000, 1001, 1002]) ?_ (fun q => ?_)
        · refine LOOP.mk (ι := { q : Nat × Int × Int // TI y off q.1 q.2.1 q.2.2 })
            (fun q => mkS [(4, .rf 1000 off (y.length - off)), (5, .rf 1001 0 out.length), (6, iA q.1.1), (7, .pt 1002 0 0)] [(1000, so y), (1001, so out), (1002, to2 q.1.2.1 q.1.2.2)] [1000, 1001, 1002])
            (fun q => y.length - off - q.1.1) ⟨(0, 0, 0), .start hle⟩ [(1000, some 1000), (1001, some 1001), (1002, some 7)] rfl rfl ?_ (fun q => ?_)
          · (simp -implicitDefEqProofs only [go_sem, iA, to2, so]; repeat (refine GO ?_; simp -implicitDefEqProofs only [go_sem, iA, to2, so]))
            exact ⟨id, rfl, .same (so y) _ _ (so_leafy y) rfl, .same (so out) _ _ (so_leafy out) rfl, .same (to2 0 0) _ _ (to2_leafy 0 0) rfl⟩
          · obtain ⟨⟨i, h, l⟩, ti⟩ := q
            simp only at ti
            have til := ti.le
            (simp -implicitDefEqProofs only [go_sem, iA, to2, so]; repeat (refine GO ?_; simp -implicitDefEqProofs only [go_sem, iA, to2, so]))
            refine VIF.split (fun h2 => ?_) (fun h2 => ?_)
            · have hi : off + i < y.length := by simp at h2; omega
              (simp -implicitDefEqProofs only [go_sem]; repeat (refine GO ?_; simp -implicitDefEqProofs only [go_sem]))
              refine ⟨by omega, EL.map hi ?_⟩
              (simp -implicitDefEqProofs only [go_sem, It.c]; repeat (refine GO ?_; simp -implicitDefEqProofs only [go_sem, It.c]))
              refine ⟨by omega, EL.map (show off + 0 < y.length by omega) ?_⟩
              (simp -implicitDefEqProofs only [go_sem, It.c]; repeat (refine GO ?_; simp -implicitDefEqProofs only [go_sem, It.c]))
              refine .pure _ (s13 y[off + i].row y[off + Int.toNat 0].row (by have := hry y[off + i] (List.getElem_mem hi); omega)) rfl fun r hr _ => ?_
              subst hr
              (simp -implicitDefEqProofs only [go_sem]; repeat (refine GO ?_; simp -implicitDefEqProofs only [go_sem]))
              refine VIF.split (fun h3 => ?_) (fun h3 => ?_)
              · have h3 : cI y[off + i] y[off] = 0 := by simpa [cI] using h3
                (simp -implicitDefEqProofs only [go_sem]; repeat (refine GO ?_; simp -implicitDefEqProofs only [go_sem]))
                refine ⟨by omega, EL.map hi ?_⟩
                (simp -implicitDefEqProofs only [go_sem, It.c]; repeat (refine GO ?_; simp -implicitDefEqProofs only [go_sem, It.c]))
                have hbb : i ≤ 1048576 := by omega
                have hb1 := ti.hb
                have hb2 := ti.lb
                have hoi := hok y[off + i] (List.getElem_mem hi)
                have hwi : okW y[off + i].w = true := by
                  simp only [okI, Bool.and_eq_true] at hoi; exact hoi.2
                have hwl := okW_le hwi
                refine .obj 1002 (to2 h l) _ [.pt 0 0 0, iA y[off + i].w] (s41 h l y[off + i].w (by omega) (by omega) (by omega)) rfl (to2_leafy h l) rfl rfl fun r o' hr _ _ => ?_
                obtain ⟨rfl, rfl⟩ := hr
                have w3 := wrap_add1 (show i < 4611686018427387904 by omega)
                (simp -implicitDefEqProofs only [go_sem, w3]; repeat (refine GO ?_; simp -implicitDefEqProofs only [go_sem, w3]))
                refine BACK.mk ⟨(i + 1, h + y[off + i].w / 268435456, l + y[off + i].w % 268435456), ti.step hi (fun _ => h3) hwi⟩ [(1000, some 1000), (1001, some 1001), (1002, some 1002)] rfl rfl (by show y.length - off - (i + 1) < y.length - off - i; omega) ?_
                (simp -implicitDefEqProofs only [go_sem, iA, to2, so, w3]; repeat (refine GO ?_; simp -implicitDefEqProofs only [go_sem, iA, to2, so, w3]))
                exact ⟨id, .same (so y) _ _ (so_leafy y) rfl, .same (so out) _ _ (so_leafy out) rfl, .same (to2 (h + y[off + i].w / 268435456) (l + y[off + i].w % 268435456)) _ _ (to2_leafy (h + y[off + i].w / 268435456) (l + y[off + i].w % 268435456)) rfl⟩
              · have h3 : cI y[off + i] y[off] ≠ 0 := by simpa [cI] using h3
                (simp -implicitDefEqProofs only [go_sem]; repeat (refine GO ?_; simp -implicitDefEqProofs only [go_sem]))
                refine JB.mk ⟨(i, h, l), ti, ti.run h0 (fun hi => h3)⟩ [(1000, some 1000), (1001, some 1001), (1002, some 1002)] rfl rfl ?_
                (simp -implicitDefEqProofs only [go_sem, iA, to2, so]; repeat (refine GO ?_; simp -implicitDefEqProofs only [go_sem, iA, to2, so]))
                exact ⟨id, .same (so y) _ _ (so_leafy y) rfl, .same (so out) _ _ (so_leafy out) rfl, .same (to2 h l) _ _ (to2_leafy h l) rfl⟩
            · have hi : off + i = y.length := by simp at h2; omega
              (simp -implicitDefEqProofs only [go_sem]; repeat (refine GO ?_; simp -implicitDefEqProofs only [go_sem]))
              refine JB.mk ⟨(i, h, l), ti, ti.run h0 (fun hi => by omega)⟩ [(1000, some 1000), (1001, some 1001), (1002, some 1002)] rfl rfl ?_
              (simp -implicitDefEqProofs only [go_sem, iA, to2, so]; repeat (refine GO ?_; simp -implicitDefEqProofs only [go_sem, iA, to2, so]))
              exact ⟨id, .same (so y) _ _ (so_leafy y) rfl, .same (so out) _ _ (so_leafy out) rfl, .same (to2 h l) _ _ (to2_leafy h l) rfl⟩
        · obtain ⟨⟨i, h, l⟩, ti, ru⟩ := q
          simp only at ti ru
          (simp -implicitDefEqProofs only [go_sem, iA, to2, so]; repeat (refine GO ?_; simp -implicitDefEqProofs only [go_sem, iA, to2, so]))
          have hbb : i ≤ 1048576 := by have := ti.le; omega
          have hb1 := ti.hb
          have hb2 := ti.lb
          refine .pure _ (s42 h l (by omega) (by omega)) rfl fun r hr _ => ?_
          obtain ⟨v, rfl, hv⟩ := hr
          (simp -implicitDefEqProofs only [go_sem, iA, bA]; repeat (refine GO ?_; simp -implicitDefEqProofs only [go_sem, iA, bA]))
          have hoff : off + i - off = i := by omega
          have htot := g.total hs ru h0
          have hsum := ti.sum
          rw [hoff] at htot
          refine VIF.split (fun h3 => ?_) (fun h3 => ?_)
          · have h3 : okW (h * 268435456 + l) = false := by simpa using h3
            (simp -implicitDefEqProofs only [go_sem]; repeat (refine GO ?_; simp -implicitDefEqProofs only [go_sem]))
            refine FINmk [(0, none)] [(2, .rf 0 0 0), (3, iA 11)] [(0, so [])] [0] rfl ?_ ?_
            · (simp -implicitDefEqProofs only [go_sem, iA]; repeat (refine GO ?_; simp -implicitDefEqProofs only [go_sem, iA]))
              simp [so]
            · refine ⟨so [], ⟨⟨[], 11, rfl, rfl, .inr (.inl ⟨hbad, rfl, rfl, y[off].row, ?_⟩)⟩, rfl⟩, so_leafy [], rfl⟩
              rw [← tot_perm hw.perm, htot, ← hsum]; exact h3
          · have h3 : okW (h * 268435456 + l) = true := by simpa using h3
            have hv := hv h3
            have gs := g.step hs ru h0 (by rw [hoff, ← hsum]; exact h3)
            rw [hoff, ← hsum, ← hv] at gs
            have hle2 := ru.le
            have hlt2 := ru.lt
            (simp -implicitDefEqProofs only [go_sem]; repeat (refine GO ?_; simp -implicitDefEqProofs only [go_sem]))
            refine VIF.split (fun h4 => ?_) (fun h4 => ?_)
            · have h4 : v ≠ 0 := by simpa using h4
              rw [if_neg h4] at gs
              (simp -implicitDefEqProofs only [go_sem]; repeat (refine GO ?_; simp -implicitDefEqProofs only [go_sem]))
              refine ⟨by omega, EL.map (show off + 0 < y.length by omega) ?_⟩
              (simp -implicitDefEqProofs only [go_sem, It.c]; repeat (refine GO ?_; simp -implicitDefEqProofs only [go_sem, It.c]))
              refine .make 61 _ (s43 y[off + Int.toNat 0].row (by have := hry y[off] (List.getElem_mem h0); simp; omega)) rfl (by simp) rfl fun r o hro _ => ?_
              obtain ⟨rfl, rfl⟩ := hro
              (simp -implicitDefEqProofs only [go_sem]; repeat (refine GO ?_; simp -implicitDefEqProofs only [go_sem]))
              refine ⟨by omega, ?_⟩
              (simp -implicitDefEqProofs only [go_sem]; repeat (refine GO ?_; simp -implicitDefEqProofs only [go_sem]))
              refine ⟨by omega, ?_⟩
              refine BACK.mk ⟨(off + i, out ++ [⟨y[off].row, v⟩]), gs, by simp; omega⟩ [(1000, some 1000), (1001, some 65)] rfl rfl (by show y.length - (off + i) < y.length - off; omega) ?_
              (simp -implicitDefEqProofs only [go_sem, iA, so]; repeat (refine GO ?_; simp -implicitDefEqProofs only [go_sem, iA, so]))
              refine ⟨id, ⟨by omega, by simp⟩, .same (so y) _ _ (so_leafy y) rfl, ?_⟩
              rw [List.map_append, show List.take out.length (List.map It.c out) = List.map It.c out from List.take_of_length_le (by simp)]
              refine Es_snoc (fun x hx a ha => ?_) ?_
              · exact so_leafy out x hx a ha
              · (simp -implicitDefEqProofs only [go_sem, It.c, rowA, iA]; repeat (refine GO ?_; simp -implicitDefEqProofs only [go_sem, It.c, rowA, iA]))
                exact ⟨by decide, _, rfl, ro3_leafy _, rfl, List.take_of_length_le (by simp [ro3])⟩
            · have h4 : v = 0 := by simpa using h4
              rw [if_pos h4] at gs
              (simp -implicitDefEqProofs only [go_sem]; repeat (refine GO ?_; simp -implicitDefEqProofs only [go_sem]))
              refine ⟨by omega, ?_⟩
              refine BACK.mk ⟨(off + i, out), gs, by show out.length ≤ off + i; omega⟩ [(1000, some 1000), (1001, some 1001)] rfl rfl (by show y.length - (off + i) < y.length - off; omega) ?_
              (simp -implicitDefEqProofs only [go_sem, iA, so]; repeat (refine GO ?_; simp -implicitDefEqProofs only [go_sem, iA, so]))
              exact ⟨id, by omega, .same (so y) _ _ (so_leafy y) rfl, .same (so out) _ _ (so_leafy out) rfl⟩
      · have h0 : off = y.length := by simp at h1; omega
        (simp -implicitDefEqProofs only [go_sem]; repeat (refine GO ?_; simp -implicitDefEqProofs only [go_sem]))
        subst h0
        have hgt := g.tot
        rw [List.take_length] at hgt
        refine FINmk [(0, some 1001)] [(2, .rf 0 0 out.length), (3, iA 0)] [(0, so out)] [0] rfl ?_ ?_
        · (simp -implicitDefEqProofs only [go_sem, iA, so]; repeat (refine GO ?_; simp -implicitDefEqProofs only [go_sem, iA, so]))
          exact .same (so out) _ _ (so_leafy out) rfl
        · refine ⟨so out, ⟨⟨out, 0, rfl, rfl, .inr (.inr ⟨hbad, rfl, g.made, fun r => (hgt r).trans (tot_perm hw.perm), fun t ht => ?_, by omega⟩)⟩, rfl⟩, so_leafy out, rfl⟩
          obtain ⟨u, hu, e⟩ := g.src t ht
          have := hok u hu
          refine ⟨?_, u, hw.perm.mem_iff.1 hu, e⟩
          rw [← e]
          simp [okI] at this
          exact this.1
end Yt
