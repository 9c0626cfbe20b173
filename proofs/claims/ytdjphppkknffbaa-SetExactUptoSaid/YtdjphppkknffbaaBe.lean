/- Contracts of the program's functions over abstract values and states, plain facts on which these lean, and the framework of these values over the model: What is made of items: the walk. Is a set right; its size. The law SetSorted. Sets added; sets compared. Rows and values by the page; the set of rows. The page's comparison of rows, its check of sets. The page's sort. What is made of items, by the page; tame sets. Sets added. The law SetEnds. The law SetMakes. Tame sets. The law SetMany. Sets twinned and turned about. The law SetGroup. The law SetBent. Predicates; items deleted; sets filtered. Items deleted in place; sets filtered. Sets filtered, united, taken off. Columns picked; sets projected. The wake of chapter 16; what is left aside. Freezing; what is filtered is small. Plain facts of what is projected. Distinct rows; sets as what their makers answer, let go. Plain facts of distinct rows; the wake of chapter 18. Plain facts, gathered. Sets whose rows are objects, too. What is made, its rows new. Sets whose rows are objects: twinned, cloned, deleted from. Sets twinned; the outer array cloned. Items deleted in place, where rows are objects. Distinct rows, and what is filtered, the rows new. A set spoilt. Twins of sets; the page's Distinct, Add, Neg, Minus. Sums, and sets turned about, their rows new. The conditions stand in each theorem. -/
import Derived.Test.YtdjphppkknffbaaBd
import Derived.Test.YtdjphppkknffbaaBb
import Derived.Test.YtdjphppkknffbaaBc
set_option linter.all false
namespace Yt
open Go Go.Vc Go.Proofs
set_option maxRecDepth 10000
set_option maxHeartbeats 4000000
set_option linter.unusedSimpArgs false
set_option linter.unusedVariables false
def MakeR (z out : List It) (err : Int) : Prop :=
  ((z.any fun t => !okI t) = true ∧ out = [] ∧ err = 1) ∨
  ((z.any fun t => !okI t) = false ∧ out = [] ∧ err = 11 ∧ ∃ r, okW (tot r z) = false) ∨
  ((z.any fun t => !okI t) = false ∧ err = 0 ∧ Made out ∧ (∀ r, tot r out = tot r z) ∧ (∀ t ∈ out, okR t.row = 0 ∧ ∃ u ∈ z, u.row = t.row) ∧ out.length ≤ z.length)
theorem Es_snoc {st : St} {m : List (Nat × Option Nat)} {l : List (List AV)} {cs cs' : List AV} (hl : ∀ x ∈ l, ∀ a ∈ x, a.leaf = true) (h : wk.wks st m cs cs') : Es st m (l ++ [cs]) (l ++ [cs']) := by
  induction l with
  | nil => exact .cons h .nil
  | cons x r ih => exact .cons (wks_leaf (hl x (by simp))) (ih fun y hy => hl y (by simp [hy]))
structure TI (y : List It) (off i : Nat) (h l : Int) : Prop where
  le : off + i ≤ y.length
  same : ∀ j (hj : j < y.length) (h0 : off < y.length), off ≤ j → j < off + i → cI y[j] y[off] = 0
  sum : h * 268435456 + l = sumW ((y.drop off).take i)
  hb : -((i : Int) * 536870912) ≤ h ∧ h ≤ (i : Int) * 536870912
  lb : 0 ≤ l ∧ l ≤ (i : Int) * 268435456
theorem TI.start {y : List It} {off : Nat} (h : off ≤ y.length) : TI y off 0 0 0 :=
  ⟨h, fun j _ _ h1 h2 => by omega, by simp [sumW], by omega, by omega⟩
theorem okW_le {w : Int} (h : okW w = true) : -72057594037927936 ≤ w ∧ w ≤ 72057594037927936 := by
  simp [okW, inB] at h; omega
theorem TI.step {y : List It} {off i : Nat} {h l : Int} (t : TI y off i h l) (hi : off + i < y.length) (e : ∀ h0 : off < y.length, cI y[off + i] y[off] = 0) (hw : okW y[off + i].w = true) :
    TI y off (i + 1) (h + y[off + i].w / 268435456) (l + y[off + i].w % 268435456) := by
  have hw := okW_le hw
  obtain ⟨t1, t2, t3, t4, t5⟩ := t
  refine ⟨by omega, fun j hj h0 h1 h2 => ?_, ?_, by omega, by omega⟩
  · by_cases hji : j = off + i
    · subst hji; exact e h0
    · exact t2 j hj h0 h1 (by omega)
  · have hd : i < (y.drop off).length := by rw [List.length_drop]; omega
    rw [List.take_succ_eq_append_getElem hd, sumW_append, ← t3]
    simp only [sumW, List.getElem_drop]
    omega
theorem TI.run {y : List It} {off i : Nat} {h l : Int} (t : TI y off i h l) (h0 : off < y.length) (hn : ∀ hi : off + i < y.length, cI y[off + i] y[off] ≠ 0) : Run y off (off + i) := by
  refine ⟨?_, t.le, t.same, fun hi h0 => hn hi⟩
  apply Classical.byContradiction
  intro hlt
  have : i = 0 := by omega
  subst this
  exact hn h0 (cI_eq.2 rfl)
def to2 (h l : Int) : Ob := ⟨2, [[iA h, iA l]]⟩
theorem to2_leafy (h l : Int) : (to2 h l).leafy := by
  rw [to2, leafy_do]; simp [leafs2, leafs, iA, AV.leaf]
theorem s11 (z : List It) (hl : z.length ≤ 1048576) (hr : ∀ t ∈ z, t.row.length < 1073741824) :
    Spec1 Try.prog 7 [setA z] (fun r o => ∃ (out : List It) (err : Int), r = .tu [.rf 0 0 out.length, iA err] ∧ o = so out ∧ MakeR z out err) := by
  refine spec1_of_vc tabOk elems ord7 Try.func7 rfl (rl := [.tmp 2, .tmp 3]) rfl (by kernel_rfl) rfl ?_
  (simp -implicitDefEqProofs only [go_sem, setA]; repeat (refine GO ?_; simp -implicitDefEqProofs only [go_sem, setA]))
  refine .pure _ (s34 z (fun t ht => by have := hr t ht; omega) (by omega)) rfl fun r hr' _ => ?_
  subst hr'
  (simp -implicitDefEqProofs only [go_sem, bA]; repeat (refine GO ?_; simp -implicitDefEqProofs only [go_sem, bA]))
  refine VIF.split (fun h => ?_) (fun hbad => ?_)
  · (simp -implicitDefEqProofs only [go_sem]; repeat (refine GO ?_; simp -implicitDefEqProofs only [go_sem]))
    refine FINmk [(0, none)] [(2, .rf 0 0 0), (3, iA 1)] [(0, so [])] [0] rfl ?_ ?_
    · (simp -implicitDefEqProofs only [go_sem, iA]; repeat (refine GO ?_; simp -implicitDefEqProofs only [go_sem, iA]))
      simp [so]
    · exact ⟨so [], ⟨⟨[], 1, rfl, rfl, .inl ⟨h, rfl, rfl⟩⟩, rfl⟩, so_leafy [], rfl⟩
  · (simp -implicitDefEqProofs only [go_sem]; repeat (refine GO ?_; simp -implicitDefEqProofs only [go_sem]))
    refine .make 13 _ (s38 z (by omega)) rfl (by simp) rfl fun r o hro _ => ?_
    obtain ⟨rfl, rfl⟩ := hro
    (simp -implicitDefEqProofs only [go_sem]; repeat (refine GO ?_; simp -implicitDefEqProofs only [go_sem]))
    refine .obj 13 (so z) _ [.rf 0 0 z.length, .fn 30 []] (s39 30 cI cmp_cI (fun t => t.row.length < 4611686018427387904) (fun x y hx _ => s40 x y hx) z (fun t ht => by have := hr t ht; omega) (by omega)) rfl (so_leafy z) rfl rfl fun r o' hro _ _ => ?_
    obtain ⟨rfl, y, rfl, hw, hs⟩ := hro
    have hlen := hw.len
    have hry : ∀ t ∈ y, t.row.length < 1073741824 := fun t ht => hr t (hw.perm.mem_iff.1 ht)
    have hok : ∀ t ∈ y, okI t = true := fun t ht => by
      have h1 : ∀ u ∈ z, okI u = true := by simpa using hbad
      exact h1 t (hw.perm.mem_iff.1 ht)
    have hs : SR cI y 0 y.length := by rw [hlen]; exact hs
    rw [← hlen]
    (simp -implicitDefEqProofs only [go_sem]; repeat (refine GO ?_; simp -implicitDefEqProofs only [go_sem]))
    refine LOOP.mk (ι := { p : Nat × List It // GI y p.1 p.2 ∧ p.2.length ≤ p.1 }) (fun p => mkS [(4, .rf 1000 p.1.1 (y.length - p.1.1)), (5, .rf 1001 0 p.1.2.length)] [(1000, so y), (1001, so p.1.2)] [1000, 1001])
      (fun p => y.length - p.1.1) ⟨(0, []), .start y, Nat.le_refl _⟩ [(1000, some 13), (1001, none)] rfl rfl ?_ (fun p => ?_)
    · (simp -implicitDefEqProofs only [go_sem, so]; repeat (refine GO ?_; simp -implicitDefEqProofs only [go_sem, so]))
      exact ⟨id, .same (so y) _ _ (so_leafy y) rfl, rfl⟩
    · obtain ⟨⟨off, out⟩, g, hol⟩ := p
      have hle := g.le
      simp only at hle hol
      (simp -implicitDefEqProofs only [go_sem, so]; repeat (refine GO ?_; simp -implicitDefEqProofs only [go_sem, so]))
      refine VIF.split (fun h1 => ?_) (fun h1 => ?_)
      · have h0 : off < y.length := by simp at h1; omega
        (simp -implicitDefEqProofs only [go_sem]; repeat (refine GO ?_; simp -implicitDefEqProofs only [go_sem]))
        refine LOOP.join (ι := { q : Nat × Int × Int // TI y off q.1 q.2.1 q.2.2 ∧ Run y off (off + q.1) })
          (fun q => mkS [(4, .rf 1000 off (y.length - off)), (5, .rf 1001 0 out.length), (6, iA q.1.1), (7, .pt 1002 0 0)] [(1000, so y), (1001, so out), (1002, to2 q.1.2.1 q.1.2.2)] [1000, 1001, 1002]) ?_ (fun q => ?_)
        · refine LOOP.mk (ι := { q : Nat × Int × Int // TI y off q.1 q.2.1 q.2.2 })
            (fun q => mkS [(4, .rf 1000 off (y.length - off)), (5, .rf 1001 0 out.length), (6, iA q.1.1), (7, .pt 1002 0 0)] [(1000, so y), (1001, so out), (1002, to2 q.1.2.1 q.1.2.2)] [1000, 1001, 1002])
            (fun q => y.length - off - q.1.1) ⟨(0, 0, 0), .start hle⟩ [(1000, some 1000), (1001, some 1001), (1002, some 7)] rfl rfl ?_ (fun q => ?_)
          · (simp -implicitDefEqProofs only [go_sem, iA, to2, so]; repeat (refine GO ?_; simp -implicitDefEqProofs only [go_sem, iA, to2, so]))
            exact ⟨id, rfl, .same (so y) _ _ (so_leafy y) rfl, .same (so out) _ _ (so_leafy out) rfl, .same (to2 0 0) _ _ (to2_leafy 0 0) rfl⟩
          · obtain ⟨⟨i, h, l⟩, ti⟩ := q
            simp only at ti
            have til := ti.le
            (simp -implicitDefEqProofs only [go_sem, iA, to2, so]; repeat (refine GO ?_; simp -implicitDefEqProofs only [go_sem, iA, to2, so]))
            refine VIF.split (fun h2 => ?_) (fun h2 => ?_)
            · have hi : off + i < y.length := by simp at h2; omega
              (simp -implicitDefEqProofs only [go_sem]; repeat (refine GO ?_; simp -implicitDefEqProofs only [go_sem]))
              refine ⟨by omega, EL.map hi ?_⟩
              (simp -implicitDefEqProofs only [go_sem, It.c]; repeat (refine GO ?_; simp -implicitDefEqProofs only [go_sem, It.c]))
              refine ⟨by omega, EL.map (show off + 0 < y.length by omega) ?_⟩
              (simp -implicitDefEqProofs only [go_sem, It.c]; repeat (refine GO ?_; simp -implicitDefEqProofs only [go_sem, It.c]))
              refine .pure _ (s13 y[off + i].row y[off + Int.toNat 0].row (by have := hry y[off + i] (List.getElem_mem hi); omega)) rfl fun r hr _ => ?_
              subst hr
              (simp -implicitDefEqProofs only [go_sem]; repeat (refine GO ?_; simp -implicitDefEqProofs only [go_sem]))
              refine VIF.split (fun h3 => ?_) (fun h3 => ?_)
              · have h3 : cI y[off + i] y[off] = 0 := by simpa [cI] using h3
                (simp -implicitDefEqProofs only [go_sem]; repeat (refine GO ?_; simp -implicitDefEqProofs only [go_sem]))
                refine ⟨by omega, EL.map hi ?_⟩
                (simp -implicitDefEqProofs only [go_sem, It.c]; repeat (refine GO ?_; simp -implicitDefEqProofs only [go_sem, It.c]))
                have hbb : i ≤ 1048576 := by omega
                have hb1 := ti.hb
                have hb2 := ti.lb
                have hoi := hok y[off + i] (List.getElem_mem hi)
                have hwi : okW y[off + i].w = true := by
                  simp only [okI, Bool.and_eq_true] at hoi; exact hoi.2
                have hwl := okW_le hwi
                refine .obj 1002 (to2 h l) _ [.pt 0 0 0, iA y[off + i].w] (s41 h l y[off + i].w (by omega) (by omega) (by omega)) rfl (to2_leafy h l) rfl rfl fun r o' hr _ _ => ?_
                obtain ⟨rfl, rfl⟩ := hr
                have w3 := wrap_add1 (show i < 4611686018427387904 by omega)
                (simp -implicitDefEqProofs only [go_sem, w3]; repeat (refine GO ?_; simp -implicitDefEqProofs only [go_sem, w3]))
                refine BACK.mk ⟨(i + 1, h + y[off + i].w / 268435456, l + y[off + i].w % 268435456), ti.step hi (fun _ => h3) hwi⟩ [(1000, some 1000), (1001, some 1001), (1002, some 1002)] rfl rfl (by show y.length - off - (i + 1) < y.length - off - i; omega) ?_
                (simp -implicitDefEqProofs only [go_sem, iA, to2, so, w3]; repeat (refine GO ?_; simp -implicitDefEqProofs only [go_sem, iA, to2, so, w3]))
                exact ⟨id, .same (so y) _ _ (so_leafy y) rfl, .same (so out) _ _ (so_leafy out) rfl, .same (to2 (h + y[off + i].w / 268435456) (l + y[off + i].w % 268435456)) _ _ (to2_leafy (h + y[off + i].w / 268435456) (l + y[off + i].w % 268435456)) rfl⟩
              · have h3 : cI y[off + i] y[off] ≠ 0 := by simpa [cI] using h3
                (simp -implicitDefEqProofs only [go_sem]; repeat (refine GO ?_; simp -implicitDefEqProofs only [go_sem]))
                refine JB.mk ⟨(i, h, l), ti, ti.run h0 (fun hi => h3)⟩ [(1000, some 1000), (1001, some 1001), (1002, some 1002)] rfl rfl ?_
                (simp -implicitDefEqProofs only [go_sem, iA, to2, so]; repeat (refine GO ?_; simp -implicitDefEqProofs only [go_sem, iA, to2, so]))
                exact ⟨id, .same (so y) _ _ (so_leafy y) rfl, .same (so out) _ _ (so_leafy out) rfl, .same (to2 h l) _ _ (to2_leafy h l) rfl⟩
            · have hi : off + i = y.length := by simp at h2; omega
              (simp -implicitDefEqProofs only [go_sem]; repeat (refine GO ?_; simp -implicitDefEqProofs only [go_sem]))
              refine JB.mk ⟨(i, h, l), ti, ti.run h0 (fun hi => by omega)⟩ [(1000, some 1000), (1001, some 1001), (1002, some 1002)] rfl rfl ?_
              (simp -implicitDefEqProofs only [go_sem, iA, to2, so]; repeat (refine GO ?_; simp -implicitDefEqProofs only [go_sem, iA, to2, so]))
              exact ⟨id, .same (so y) _ _ (so_leafy y) rfl, .same (so out) _ _ (so_leafy out) rfl, .same (to2 h l) _ _ (to2_leafy h l) rfl⟩
        · obtain ⟨⟨i, h, l⟩, ti, ru⟩ := q
          simp only at ti ru
          (simp -implicitDefEqProofs only [go_sem, iA, to2, so]; repeat (refine GO ?_; simp -implicitDefEqProofs only [go_sem, iA, to2, so]))
          have hbb : i ≤ 1048576 := by have := ti.le; omega
          have hb1 := ti.hb
          have hb2 := ti.lb
          refine .pure _ (s42 h l (by omega) (by omega)) rfl fun r hr _ => ?_
          obtain ⟨v, rfl, hv⟩ := hr
          (simp -implicitDefEqProofs only [go_sem, iA, bA]; repeat (refine GO ?_; simp -implicitDefEqProofs only [go_sem, iA, bA]))
          have hoff : off + i - off = i := by omega
          have htot := g.total hs ru h0
          have hsum := ti.sum
          rw [hoff] at htot
          refine VIF.split (fun h3 => ?_) (fun h3 => ?_)
          · have h3 : okW (h * 268435456 + l) = false := by simpa using h3
            (simp -implicitDefEqProofs only [go_sem]; repeat (refine GO ?_; simp -implicitDefEqProofs only [go_sem]))
            refine FINmk [(0, none)] [(2, .rf 0 0 0), (3, iA 11)] [(0, so [])] [0] rfl ?_ ?_
            · (simp -implicitDefEqProofs only [go_sem, iA]; repeat (refine GO ?_; simp -implicitDefEqProofs only [go_sem, iA]))
              simp [so]
            · refine ⟨so [], ⟨⟨[], 11, rfl, rfl, .inr (.inl ⟨hbad, rfl, rfl, y[off].row, ?_⟩)⟩, rfl⟩, so_leafy [], rfl⟩
              rw [← tot_perm hw.perm, htot, ← hsum]; exact h3
          · have h3 : okW (h * 268435456 + l) = true := by simpa using h3
            have hv := hv h3
            have gs := g.step hs ru h0 (by rw [hoff, ← hsum]; exact h3)
            rw [hoff, ← hsum, ← hv] at gs
            have hle2 := ru.le
            have hlt2 := ru.lt
            (simp -implicitDefEqProofs only [go_sem]; repeat (refine GO ?_; simp -implicitDefEqProofs only [go_sem]))
            refine VIF.split (fun h4 => ?_) (fun h4 => ?_)
            · have h4 : v ≠ 0 := by simpa using h4
              rw [if_neg h4] at gs
              (simp -implicitDefEqProofs only [go_sem]; repeat (refine GO ?_; simp -implicitDefEqProofs only [go_sem]))
              refine ⟨by omega, EL.map (show off + 0 < y.length by omega) ?_⟩
              (simp -implicitDefEqProofs only [go_sem, It.c]; repeat (refine GO ?_; simp -implicitDefEqProofs only [go_sem, It.c]))
              refine .make 61 _ (s43 y[off + Int.toNat 0].row (by have := hry y[off] (List.getElem_mem h0); simp; omega)) rfl (by simp) rfl fun r o hro _ => ?_
              obtain ⟨rfl, rfl⟩ := hro
              (simp -implicitDefEqProofs only [go_sem]; repeat (refine GO ?_; simp -implicitDefEqProofs only [go_sem]))
              refine ⟨by omega, ?_⟩
              (simp -implicitDefEqProofs only [go_sem]; repeat (refine GO ?_; simp -implicitDefEqProofs only [go_sem]))
              refine ⟨by omega, ?_⟩
              refine BACK.mk ⟨(off + i, out ++ [⟨y[off].row, v⟩]), gs, by simp; omega⟩ [(1000, some 1000), (1001, some 65)] rfl rfl (by show y.length - (off + i) < y.length - off; omega) ?_
              (simp -implicitDefEqProofs only [go_sem, iA, so]; repeat (refine GO ?_; simp -implicitDefEqProofs only [go_sem, iA, so]))
              refine ⟨id, ⟨by omega, by simp⟩, .same (so y) _ _ (so_leafy y) rfl, ?_⟩
              rw [List.map_append, show List.take out.length (List.map It.c out) = List.map It.c out from List.take_of_length_le (by simp)]
              refine Es_snoc (fun x hx a ha => ?_) ?_
              · exact so_leafy out x hx a ha
              · (simp -implicitDefEqProofs only [go_sem, It.c, rowA, iA]; repeat (refine GO ?_; simp -implicitDefEqProofs only [go_sem, It.c, rowA, iA]))
                exact ⟨by decide, _, rfl, ro3_leafy _, rfl, List.take_of_length_le (by simp [ro3])⟩
            · have h4 : v = 0 := by simpa using h4
              rw [if_pos h4] at gs
              (simp -implicitDefEqProofs only [go_sem]; repeat (refine GO ?_; simp -implicitDefEqProofs only [go_sem]))
              refine ⟨by omega, ?_⟩
              refine BACK.mk ⟨(off + i, out), gs, by show out.length ≤ off + i; omega⟩ [(1000, some 1000), (1001, some 1001)] rfl rfl (by show y.length - (off + i) < y.length - off; omega) ?_
              (simp -implicitDefEqProofs only [go_sem, iA, so]; repeat (refine GO ?_; simp -implicitDefEqProofs only [go_sem, iA, so]))
              exact ⟨id, by omega, .same (so y) _ _ (so_leafy y) rfl, .same (so out) _ _ (so_leafy out) rfl⟩
      · have h0 : off = y.length := by simp at h1; omega
        (simp -implicitDefEqProofs only [go_sem]; repeat (refine GO ?_; simp -implicitDefEqProofs only [go_sem]))
        subst h0
        have hgt := g.tot
        rw [List.take_length] at hgt
        refine FINmk [(0, some 1001)] [(2, .rf 0 0 out.length), (3, iA 0)] [(0, so out)] [0] rfl ?_ ?_
        · (simp -implicitDefEqProofs only [go_sem, iA, so]; repeat (refine GO ?_; simp -implicitDefEqProofs only [go_sem, iA, so]))
          exact .same (so out) _ _ (so_leafy out) rfl
        · refine ⟨so out, ⟨⟨out, 0, rfl, rfl, .inr (.inr ⟨hbad, rfl, g.made, fun r => (hgt r).trans (tot_perm hw.perm), fun t ht => ?_, by omega⟩)⟩, rfl⟩, so_leafy out, rfl⟩
          obtain ⟨u, hu, e⟩ := g.src t ht
          have := hok u hu
          refine ⟨?_, u, hw.perm.mem_iff.1 hu, e⟩
          rw [← e]
          simp [okI] at this
          exact this.1
end Yt
namespace Yt
open Go Go.Vc Go.Proofs
set_option maxRecDepth 10000
set_option maxHeartbeats 4000000
set_option linter.unusedSimpArgs false
set_option linter.unusedVariables false
structure Goo (z : List It) (i : Nat) (h : i < z.length) : Prop where
  ok : okI z[i] = true
  nz : z[i].w ≠ 0
  up : ∀ h0 : 0 < i, cI z[i - 1] z[i] < 0
def Good (z : List It) : Prop := ∀ i (h : i < z.length), Goo z i h
theorem s16 (z : List It) (hl : z.length < 4611686018427387904) (hr : ∀ t ∈ z, t.row.length < 4611686018427387904) :
    Spec0 Try.prog 18 [setA z] (fun r => ∃ e : Int, r = iA e ∧ (e = 0 ∨ e = 1) ∧ (e = 0 ↔ Good z)) := by
  refine spec0_of_vc tabOk elems ord18 Try.func18 rfl (rl := [.tmp 2]) rfl (by kernel_rfl) rfl ?_
  (simp -implicitDefEqProofs only [go_sem, setA]; repeat (refine GO ?_; simp -implicitDefEqProofs only [go_sem, setA]))
  refine LOOP.mk (ι := { i : Nat // i ≤ z.length ∧ ∀ j (h : j < z.length), j < i → Goo z j h }) (fun p => mkS [(0, .im 2 (z.map It.c)), (5, .im 2 (z.map It.c)), (6, iA z.length), (7, iA p.1)] [] [])
    (fun p => z.length - p.1) ⟨0, Nat.zero_le _, fun j _ h => absurd h (Nat.not_lt_zero _)⟩ [] rfl rfl ?_ (fun p => ?_)
  · (simp -implicitDefEqProofs only [go_sem, iA]; repeat (refine GO ?_; simp -implicitDefEqProofs only [go_sem, iA]))
    exact ⟨id, rfl⟩
  · obtain ⟨i, hi, hg⟩ := p
    (simp -implicitDefEqProofs only [go_sem, iA]; repeat (refine GO ?_; simp -implicitDefEqProofs only [go_sem, iA]))
    refine VIF.split (fun h => ?_) (fun h => ?_)
    · have h : i < z.length := by simpa using h
      (simp -implicitDefEqProofs only [go_sem]; repeat (refine GO ?_; simp -implicitDefEqProofs only [go_sem]))
      refine EL.map h ?_
      (simp -implicitDefEqProofs only [go_sem, It.c]; repeat (refine GO ?_; simp -implicitDefEqProofs only [go_sem, It.c]))
      have bad : ¬ Goo z i h → ∃ e : Int, AV.pr (Value.int IntKind.i64 1) = iA e ∧ (e = 0 ∨ e = 1) ∧ (e = 0 ↔ Good z) := fun hn =>
        ⟨1, rfl, .inr rfl, fun h => absurd h (by decide), fun g => absurd (g i h) hn⟩
      refine .pure _ (s36 z[i].row (hr _ (List.getElem_mem h))) rfl fun r hr' _ => ?_
      subst hr'
      (simp -implicitDefEqProofs only [go_sem, iA]; repeat (refine GO ?_; simp -implicitDefEqProofs only [go_sem, iA]))
      refine VIF.split (fun h1 => ?_) (fun h1 => ?_)
      · have h1 : okR z[i].row ≠ 0 := by simpa using h1
        (simp -implicitDefEqProofs only [go_sem]; repeat (refine GO ?_; simp -implicitDefEqProofs only [go_sem]))
        exact bad fun g => h1 (by have := g.ok; simp [okI] at this; exact this.1)
      · have h1 : okR z[i].row = 0 := by simpa using h1
        (simp -implicitDefEqProofs only [go_sem]; repeat (refine GO ?_; simp -implicitDefEqProofs only [go_sem]))
        refine VIF.split (fun h2 => ?_) (fun h2 => ?_)
        · have h2 : z[i].w = 0 := by simpa using h2
          (simp -implicitDefEqProofs only [go_sem]; repeat (refine GO ?_; simp -implicitDefEqProofs only [go_sem]))
          exact bad fun g => g.nz h2
        · have h2 : z[i].w ≠ 0 := by simpa using h2
          (simp -implicitDefEqProofs only [go_sem]; repeat (refine GO ?_; simp -implicitDefEqProofs only [go_sem]))
          refine .pure _ (s37 z[i].w) rfl fun r hr' _ => ?_
          subst hr'
          (simp -implicitDefEqProofs only [go_sem, bA]; repeat (refine GO ?_; simp -implicitDefEqProofs only [go_sem, bA]))
          refine VIF.split (fun h3 => ?_) (fun h3 => ?_)
          · have h3 : okW z[i].w = false := by simpa using h3
            (simp -implicitDefEqProofs only [go_sem]; repeat (refine GO ?_; simp -implicitDefEqProofs only [go_sem]))
            exact bad fun g => by have := g.ok; simp [okI, h3] at this
          · have h3 : okW z[i].w = true := by simpa using h3
            have hok : okI z[i] = true := by simp [okI, h1, h3]
            (simp -implicitDefEqProofs only [go_sem]; repeat (refine GO ?_; simp -implicitDefEqProofs only [go_sem]))
            refine VIF.split (fun h4 => ?_) (fun h4 => ?_)
            · have h4 : 0 < i := by simp at h4; omega
              have w1 := wrap_sub1 (show 1 ≤ i from h4) (by omega)
              (simp -implicitDefEqProofs only [go_sem, w1]; repeat (refine GO ?_; simp -implicitDefEqProofs only [go_sem, w1]))
              refine EL.map (show i - 1 < z.length by omega) ?_
              (simp -implicitDefEqProofs only [go_sem, It.c]; repeat (refine GO ?_; simp -implicitDefEqProofs only [go_sem, It.c]))
              refine .pure _ (s13 z[i - 1].row z[i].row (hr _ (List.getElem_mem _))) rfl fun r hr' _ => ?_
              subst hr'
              (simp -implicitDefEqProofs only [go_sem]; repeat (refine GO ?_; simp -implicitDefEqProofs only [go_sem]))
              refine VIF.split (fun h5 => ?_) (fun h5 => ?_)
              · have h5 : 0 ≤ cI z[i - 1] z[i] := by simpa [cI] using h5
                (simp -implicitDefEqProofs only [go_sem]; repeat (refine GO ?_; simp -implicitDefEqProofs only [go_sem]))
                exact bad fun g => by have := g.up h4; omega
              · have h5 : cI z[i - 1] z[i] < 0 := by simpa [cI] using h5
                have w3 := wrap_add1 (show i < 4611686018427387904 by omega)
                (simp -implicitDefEqProofs only [go_sem, w3]; repeat (refine GO ?_; simp -implicitDefEqProofs only [go_sem, w3]))
                refine BACK.mk ⟨i + 1, by omega, fun j hj hji => ?_⟩ [] rfl rfl (by show z.length - (i + 1) < z.length - i; omega) ?_
                · by_cases e : j = i
                  · subst e; exact ⟨hok, h2, fun _ => h5⟩
                  · exact hg j hj (by omega)
                · (simp -implicitDefEqProofs only [go_sem, iA, w3]; repeat (refine GO ?_; simp -implicitDefEqProofs only [go_sem, iA, w3]))
                  exact id
            · have h4 : i = 0 := by simp at h4; omega
              have w3 := wrap_add1 (show i < 4611686018427387904 by omega)
              (simp -implicitDefEqProofs only [go_sem, w3]; repeat (refine GO ?_; simp -implicitDefEqProofs only [go_sem, w3]))
              refine BACK.mk ⟨i + 1, by omega, fun j hj hji => ?_⟩ [] rfl rfl (by show z.length - (i + 1) < z.length - i; omega) ?_
              · have e : j = i := by omega
                subst e; exact ⟨hok, h2, fun h0 => absurd h0 (by omega)⟩
              · (simp -implicitDefEqProofs only [go_sem, iA, w3]; repeat (refine GO ?_; simp -implicitDefEqProofs only [go_sem, iA, w3]))
                exact id
    · have h : i = z.length := by simp at h; omega
      (simp -implicitDefEqProofs only [go_sem]; repeat (refine GO ?_; simp -implicitDefEqProofs only [go_sem]))
      exact ⟨0, rfl, .inl rfl, fun _ j hj => hg j hj (by omega), fun _ => rfl⟩
def absS : List It → Int
  | [] => 0
  | t :: z => max t.w (-t.w) + absS z
theorem absS_append (x y : List It) : absS (x ++ y) = absS x + absS y := by
  induction x with
  | nil => simp [absS]
  | cons t x ih => simp only [List.cons_append, absS, ih]; omega
theorem absS_pos (x : List It) : 0 ≤ absS x := by
  induction x with
  | nil => simp [absS]
  | cons t x ih => simp only [absS]; omega
def topM : Int := 1152921504606846976
theorem absS_take {z : List It} {i : Nat} (h : i < z.length) : absS (z.take (i + 1)) = absS (z.take i) + max z[i].w (-z[i].w) := by
  rw [List.take_succ_eq_append_getElem h, absS_append]; simp [absS]
theorem s21 (z : List It) (hl : z.length < 4611686018427387904) (hr : ∀ t ∈ z, t.row.length < 4611686018427387904) :
    Spec0 Try.prog 12 [setA z] (fun r => ∃ n : Int, r = iA n ∧ (Good z → n = min (absS z) topM) ∧ (¬ Good z → n = 0)) := by
  refine spec0_of_vc tabOk elems ord12 Try.func12 rfl (rl := [.tmp 2]) rfl (by kernel_rfl) rfl ?_
  (simp -implicitDefEqProofs only [go_sem, setA]; repeat (refine GO ?_; simp -implicitDefEqProofs only [go_sem, setA]))
  refine .pure _ (s16 z hl hr) rfl fun r hr' _ => ?_
  obtain ⟨e, rfl, he, hg⟩ := hr'
  (simp -implicitDefEqProofs only [go_sem, iA]; repeat (refine GO ?_; simp -implicitDefEqProofs only [go_sem, iA]))
  refine VIF.split (fun h => ?_) (fun h => ?_)
  · have h : e ≠ 0 := by simpa using h
    (simp -implicitDefEqProofs only [go_sem]; repeat (refine GO ?_; simp -implicitDefEqProofs only [go_sem]))
    exact ⟨0, rfl, fun g => absurd (hg.2 g) h, fun _ => rfl⟩
  · have h : e = 0 := by simpa using h
    have hg := hg.1 h
    (simp -implicitDefEqProofs only [go_sem]; repeat (refine GO ?_; simp -implicitDefEqProofs only [go_sem]))
    refine LOOP.mk (ι := { i : Nat // i ≤ z.length }) (fun p => mkS [(3, iA (min (absS (z.take p.1)) topM)), (9, .im 2 (z.map It.c)), (10, iA z.length), (11, iA p.1)] [] [])
      (fun p => z.length - p.1) ⟨0, Nat.zero_le _⟩ [] rfl rfl ?_ (fun p => ?_)
    · (simp -implicitDefEqProofs only [go_sem, iA]; repeat (refine GO ?_; simp -implicitDefEqProofs only [go_sem, iA]))
      exact ⟨id, by simp only [List.take_zero, absS, topM]; rw [show min (0:Int) 1152921504606846976 = 0 by decide], rfl⟩
    · obtain ⟨i, hi⟩ := p
      have ha := absS_pos (z.take i)
      (simp -implicitDefEqProofs only [go_sem, iA]; repeat (refine GO ?_; simp -implicitDefEqProofs only [go_sem, iA]))
      refine VIF.split (fun h => ?_) (fun h => ?_)
      · have h : i < z.length := by simpa using h
        have hw := okW_le (w := z[i].w) (by have := (hg i h).ok; simp [okI] at this; exact this.2)
        (simp -implicitDefEqProofs only [go_sem]; repeat (refine GO ?_; simp -implicitDefEqProofs only [go_sem]))
        refine EL.map h ?_
        have w1 : IntKind.i64.wrap (0 - z[i].w) = -z[i].w := by rw [wrap_i64] <;> omega
        have w2 : IntKind.i64.wrap (min (absS (z.take i)) topM + max z[i].w (-z[i].w)) = min (absS (z.take i)) topM + max z[i].w (-z[i].w) := by
          simp only [topM]; rw [wrap_i64] <;> omega
        have w3 := wrap_add1 (show i < 4611686018427387904 by omega)
        (simp -implicitDefEqProofs only [go_sem, It.c, iA, w1, w2, w3]; repeat (refine GO ?_; simp -implicitDefEqProofs only [go_sem, It.c, iA, w1, w2, w3]))
        refine BACK.mk ⟨i + 1, by omega⟩ [] rfl rfl (by show z.length - (i + 1) < z.length - i; omega) ?_
        (simp -implicitDefEqProofs only [go_sem, iA, w1, w2, w3]; repeat (refine GO ?_; simp -implicitDefEqProofs only [go_sem, iA, w1, w2, w3]))
        refine ⟨id, ?_⟩
        rw [absS_take h]; congr 1; simp only [topM, Bool.false_eq_true, if_false]; omega
      · have h : i = z.length := by simp at h; omega
        subst h
        (simp -implicitDefEqProofs only [go_sem]; repeat (refine GO ?_; simp -implicitDefEqProofs only [go_sem]))
        exact ⟨_, rfl, fun _ => by rw [List.take_length], fun h => absurd hg h⟩
theorem s22 (n : Int) : Spec1 Try.prog 45 [iA n] (fun r o => r = .rf 0 0 1 ∧ o = ro3 [⟨3, n, ByteArray.empty⟩]) := by
  refine spec1_of_vc tabOk elems ord45 Try.func45 rfl (rl := [.tmp 2]) rfl (by kernel_rfl) rfl ?_
  (simp -implicitDefEqProofs only [go_sem, iA]; repeat (refine GO ?_; simp -implicitDefEqProofs only [go_sem, iA]))
  refine FINmk [(0, some 5)] [(2, .rf 0 0 1)] [(0, ro3 [⟨3, n, ByteArray.empty⟩])] [0] rfl ?_ ?_
  · (simp -implicitDefEqProofs only [go_sem, ro3]; repeat (refine GO ?_; simp -implicitDefEqProofs only [go_sem, ro3]))
    exact .same (ro3 [⟨3, n, ByteArray.empty⟩]) _ _ (ro3_leafy [⟨3, n, ByteArray.empty⟩]) rfl
  · exact ⟨ro3 _, ⟨⟨rfl, rfl⟩, rfl⟩, ro3_leafy _, rfl⟩
def wkZ : List It := [⟨[⟨3, 5, ByteArray.empty⟩], 2⟩, ⟨[⟨3, 1, ByteArray.empty⟩], 1⟩, ⟨[⟨3, 5, ByteArray.empty⟩], 3⟩, ⟨[⟨3, 7, ByteArray.empty⟩], 0⟩]
theorem TOG {K : St → Prop} {s : St} (m : List (Nat × Option Nat)) (rl : List (Nat × AV)) (ol : List (Nat × Ob)) (ul : List Nat) (hm : nmOk m ul = true) (h : (0 ∈ s.used → 0 ∈ ul) ∧ ents s m rl ∧ eobs s m ol) (k : GOES K (mkS rl ol ul)) : GOES K s :=
  k.ent (ent_to m rfl hm h)
def wkO : List It := [⟨[⟨3, 1, ByteArray.empty⟩], 1⟩, ⟨[⟨3, 5, ByteArray.empty⟩], 5⟩]
theorem wk_made : Made wkO := by
  refine ⟨?_, ?_⟩
  · simp [wkO, cI, cmpR, cmpV, cmpI, nz]
  · simp [wkO, okW, inB]
theorem wk_tot (r : List V) : tot r wkO = tot r wkZ ∧ 0 ≤ tot r wkZ ∧ tot r wkZ ≤ 6 := by
  simp only [tot, wkO, wkZ]
  refine ⟨?_, ?_, ?_⟩ <;> split <;> split <;> (try split) <;> omega
theorem wk_out {out : List It} {err : Int} (h : MakeR wkZ out err) : out = wkO ∧ err = 0 := by
  have hok : (wkZ.any fun t => !okI t) = false := by
    simp [wkZ, okI, okR, okV, okW, inB]
    rfl
  rcases h with ⟨h, _⟩ | ⟨_, _, _, r, h⟩ | ⟨_, h, hm, ht, _⟩
  · rw [hok] at h; cases h
  · have := wk_tot r
    simp [okW, inB] at h; omega
  · exact ⟨made_eq hm wk_made fun r => (ht r).trans (wk_tot r).1.symm, h⟩
theorem wk_good : Good wkO := by
  intro i h
  have : i = 0 ∨ i = 1 := by simp [wkO] at h; omega
  rcases this with rfl | rfl
  · exact ⟨by simp [wkO, okI, okR, okV, okW, inB]; rfl, by simp [wkO], fun h => absurd h (by omega)⟩
  · exact ⟨by simp [wkO, okI, okR, okV, okW, inB]; rfl, by simp [wkO], fun _ => by simp [wkO, cI, cmpR, cmpV, cmpI, nz]⟩
theorem wk_wt : wt [⟨3, 5, ByteArray.empty⟩] wkO = 5 := by
  have h1 : cmpR [⟨3, 1, ByteArray.empty⟩] [⟨3, 5, ByteArray.empty⟩] = -1 := by simp [cmpR, cmpV, cmpI, nz]
  have h2 : cmpR [⟨3, 5, ByteArray.empty⟩] [⟨3, 5, ByteArray.empty⟩] = 0 := lin_cmpR.self _
  simp [wt, wkO, h1, h2, List.findIdx?_cons, wtI]
theorem s12 : Spec0 Try.prog 21 [] (· = bA true) := by
  refine spec0_of_vc tabOk elems ord21 Try.func21 rfl (rl := [.tmp 0]) rfl (by kernel_rfl) rfl ?_
  (simp -implicitDefEqProofs only [go_sem]; repeat (refine GO ?_; simp -implicitDefEqProofs only [go_sem]))
  refine .make 4 _ (s22 5) rfl (by simp) rfl fun r o hro _ => ?_
  obtain ⟨rfl, rfl⟩ := hro
  (simp -implicitDefEqProofs only [go_sem]; repeat (refine GO ?_; simp -implicitDefEqProofs only [go_sem]))
  refine .make 6 _ (s22 1) rfl (by simp) rfl fun r o hro _ => ?_
  obtain ⟨rfl, rfl⟩ := hro
  (simp -implicitDefEqProofs only [go_sem]; repeat (refine GO ?_; simp -implicitDefEqProofs only [go_sem]))
  refine .make 8 _ (s22 5) rfl (by simp) rfl fun r o hro _ => ?_
  obtain ⟨rfl, rfl⟩ := hro
  (simp -implicitDefEqProofs only [go_sem]; repeat (refine GO ?_; simp -implicitDefEqProofs only [go_sem]))
  refine .make 10 _ (s22 7) rfl (by simp) rfl fun r o hro _ => ?_
  obtain ⟨rfl, rfl⟩ := hro
  simp -implicitDefEqProofs only [go_sem]
  refine TOG [(12, some 12)] [(12, .rf 12 0 4)] [(12, so wkZ)] [12] rfl ?_ ?_
  · (simp -implicitDefEqProofs only [go_sem, so, ro3, wkZ]; repeat (refine GO ?_; simp -implicitDefEqProofs only [go_sem, so, ro3, wkZ]))
    refine ⟨id, .cons ?_ (.cons ?_ (.cons ?_ (.cons ?_ .nil)))⟩
    all_goals
      (simp -implicitDefEqProofs only [go_sem, It.c, rowA, iA]; repeat (refine GO ?_; simp -implicitDefEqProofs only [go_sem, It.c, rowA, iA]))
      exact ⟨by decide, _, rfl, ro3_leafy _, rfl, rfl⟩
  refine TO [] [(12, setA wkZ)] [] [] rfl ?_ ?_
  · (simp -implicitDefEqProofs only [go_sem, so, setA]; repeat (refine GO ?_; simp -implicitDefEqProofs only [go_sem, so, setA]))
    exact ⟨id, by decide, _, rfl, so_leafy wkZ, rfl, rfl⟩
  (simp -implicitDefEqProofs only [go_sem, setA]; repeat (refine GO ?_; simp -implicitDefEqProofs only [go_sem, setA]))
  refine .make 13 _ (s11 wkZ (by decide) (by simp [wkZ])) rfl (by simp) rfl fun r o hro _ => ?_
  obtain ⟨out, err, rfl, rfl, hm⟩ := hro
  obtain ⟨rfl, rfl⟩ := wk_out hm
  (simp -implicitDefEqProofs only [go_sem, iA, so, wkO, It.c]; repeat (refine GO ?_; simp -implicitDefEqProofs only [go_sem, iA, so, wkO, It.c]))
  refine VIF.split (fun _ => ?_) (fun h => by simp at h)
  (simp -implicitDefEqProofs only [go_sem]; repeat (refine GO ?_; simp -implicitDefEqProofs only [go_sem]))
  refine VIF.split (fun _ => ?_) (fun h => by simp at h)
  (simp -implicitDefEqProofs only [go_sem, It.c]; repeat (refine GO ?_; simp -implicitDefEqProofs only [go_sem, It.c]))
  refine ⟨by decide, EL.map (show Int.toNat 0 < wkO.length by decide) ?_⟩
  (simp -implicitDefEqProofs only [go_sem, It.c, iA]; repeat (refine GO ?_; simp -implicitDefEqProofs only [go_sem, It.c, iA]))
  refine VIF.split (fun _ => ?_) (fun h => absurd h (by decide))
  (simp -implicitDefEqProofs only [go_sem]; repeat (refine GO ?_; simp -implicitDefEqProofs only [go_sem]))
  refine ⟨by decide, EL.map (show Int.toNat 1 < wkO.length by decide) ?_⟩
  (simp -implicitDefEqProofs only [go_sem, It.c, iA]; repeat (refine GO ?_; simp -implicitDefEqProofs only [go_sem, It.c, iA]))
  refine VIF.split (fun _ => ?_) (fun h => absurd h (by decide))
  (simp -implicitDefEqProofs only [go_sem]; repeat (refine GO ?_; simp -implicitDefEqProofs only [go_sem]))
  refine .make 39 _ (s22 5) rfl (by simp) rfl fun r o hro _ => ?_
  obtain ⟨rfl, rfl⟩ := hro
  (simp -implicitDefEqProofs only [go_sem]; repeat (refine GO ?_; simp -implicitDefEqProofs only [go_sem]))
  refine .lendTo (s15 wkO [⟨3, 5, ByteArray.empty⟩] (by simp [wkO]) (by simp [wkO])) ?_ (by rintro _ rfl; rfl) fun r hr => ?_
  · (simp -implicitDefEqProofs only [go_sem, setA, rowA, ro3]; repeat (refine GO ?_; simp -implicitDefEqProofs only [go_sem, setA, rowA, ro3]))
    exact ⟨rfl, by simp [It.c, V.c, rowA, iA, leafs2, leafs, AV.leaf], by simp [It.c, V.c, rowA, iA, leafs2, leafs, AV.leaf]⟩
  subst hr
  rw [wk_wt]
  (simp -implicitDefEqProofs only [go_sem, iA]; repeat (refine GO ?_; simp -implicitDefEqProofs only [go_sem, iA]))
  refine VIF.split (fun _ => ?_) (fun h => absurd h (by decide))
  (simp -implicitDefEqProofs only [go_sem]; repeat (refine GO ?_; simp -implicitDefEqProofs only [go_sem]))
  refine .lendTo (s21 wkO (by simp [wkO]) (by simp [wkO])) ?_ (by rintro _ ⟨n, rfl, _⟩; rfl) fun r hr => ?_
  · (simp -implicitDefEqProofs only [go_sem, setA, rowA, ro3]; repeat (refine GO ?_; simp -implicitDefEqProofs only [go_sem, setA, rowA, ro3]))
    exact ⟨rfl, by simp [It.c, V.c, rowA, iA, leafs2, leafs, AV.leaf]⟩
  obtain ⟨n, rfl, hn, _⟩ := hr
  have hn := hn wk_good
  have : n = 6 := by rw [hn]; decide
  subst this
  (simp -implicitDefEqProofs only [go_sem, iA, bA]; repeat (refine GO ?_; simp -implicitDefEqProofs only [go_sem, iA, bA]))
  exact congrArg (fun b => AV.pr (Value.bool b)) (by decide)
end Yt
namespace Yt
open Go Go.Vc Go.Proofs
set_option maxRecDepth 10000
set_option maxHeartbeats 4000000
set_option linter.unusedSimpArgs false
set_option linter.unusedVariables false
theorem not_heavyR {r : List V} (h : heavyR r = false) : r.length ≤ 40 := by
  simp [heavyR] at h; omega
theorem not_heavyS {z : List It} (h : heavyS z = false) : z.length ≤ 300 ∧ ∀ t ∈ z, t.row.length ≤ 40 := by
  simp only [heavyS, Bool.or_eq_false_iff, List.any_eq_false, decide_eq_false_iff_not] at h
  exact ⟨by omega, fun t ht => not_heavyR (by have := h.2 t ht; simpa [heavyI] using this)⟩
theorem tot_there {o : List It} (h : Made o) (r : List V) : tot r o ≠ 0 ↔ ∃ t ∈ o, t.row = r := by
  constructor
  · intro hn
    apply Classical.byContradiction
    intro hno
    exact hn (tot_none fun t ht e => hno ⟨t, ht, lin_cmpR.eq _ _ e⟩)
  · rintro ⟨t, ht, rfl⟩
    rw [tot_made h ht]
    exact (h.nz t ht).1
theorem good_made {z : List It} : Good z ↔ Made z ∧ ∀ t ∈ z, okR t.row = 0 := by
  constructor
  · intro h
    refine ⟨⟨?_, ?_⟩, ?_⟩
    · rw [List.pairwise_iff_getElem]
      intro i j hi hj hij
      induction j with
      | zero => omega
      | succ j ih =>
        have h1 := (h (j + 1) hj).up (by omega)
        simp only [Nat.add_sub_cancel] at h1
        by_cases e : i = j
        · subst e; exact h1
        · exact lin_cmpR.trans _ _ _ (ih (by omega) (by omega)) h1
    · intro t ht
      obtain ⟨i, hi, rfl⟩ := List.mem_iff_getElem.1 ht
      have := (h i hi).ok
      simp only [okI, Bool.and_eq_true] at this
      exact ⟨(h i hi).nz, this.2⟩
    · intro t ht
      obtain ⟨i, hi, rfl⟩ := List.mem_iff_getElem.1 ht
      have := (h i hi).ok
      simp [okI] at this
      exact this.1
  · rintro ⟨hm, ho⟩ i hi
    have h1 := hm.nz _ (List.getElem_mem hi)
    refine ⟨by simp [okI, ho _ (List.getElem_mem hi), h1.2], h1.1, fun h0 => ?_⟩
    exact List.pairwise_iff_getElem.1 hm.pw (i - 1) i (by omega) hi (by omega)
end Yt
namespace Yt
open Go Go.Vc Go.Proofs
set_option maxRecDepth 10000
set_option maxHeartbeats 4000000
set_option linter.unusedSimpArgs false
set_option linter.unusedVariables false
theorem zeros_leafy (n : Nat) : (Ob.mk 2 (List.replicate n [.nl, iA 0])).leafy := by
  intro x hx a ha
  rw [(List.mem_replicate.1 hx).2] at ha
  simp only [List.mem_cons, List.not_mem_nil, or_false] at ha
  rcases ha with rfl | rfl <;> rfl
theorem s65 (n : Nat) (hn : n ≤ 1073741824) : Spec1 Try.prog 55 [.nl, iA n] (fun r o => r = .rf 0 0 0 ∧ o.sz = 2) := by
  refine spec1_of_vc tabOk elems ord55 Try.func55 rfl (rl := [.tmp 4]) rfl (by kernel_rfl) rfl ?_
  (simp -implicitDefEqProofs only [go_sem, iA]; repeat (refine GO ?_; simp -implicitDefEqProofs only [go_sem, iA]))
  refine VIF.split (fun h => by simp at h; omega) (fun _ => ?_)
  have w0 : IntKind.i64.wrap (0 - 0) = 0 := by rw [wrap_i64] <;> omega
  have w1 : IntKind.i64.wrap ((n : Int) - 0) = n := by rw [wrap_i64] <;> omega
  (simp -implicitDefEqProofs only [go_sem, w0, w1]; repeat (refine GO ?_; simp -implicitDefEqProofs only [go_sem, w0, w1]))
  refine VIF.split (fun h => ?_) (fun h => ?_)
  · have h : 0 < n := by simpa using h
    (simp -implicitDefEqProofs only [go_sem]; repeat (refine GO ?_; simp -implicitDefEqProofs only [go_sem]))
    refine ⟨by decide, ⟨_, rfl⟩, ⟨by omega, by omega⟩, by decide, ?_⟩
    (simp -implicitDefEqProofs only [go_sem]; repeat (refine GO ?_; simp -implicitDefEqProofs only [go_sem]))
    refine FINmk [(0, some 22)] [(4, .rf 0 0 0)] [(0, ⟨2, List.replicate n [.nl, iA 0]⟩)] [0] rfl ?_ ?_
    · (simp -implicitDefEqProofs only [go_sem, iA]; repeat (refine GO ?_; simp -implicitDefEqProofs only [go_sem, iA]))
      exact ⟨⟨rfl, rfl⟩, .same ⟨2, List.replicate n [.nl, iA 0]⟩ _ _ (zeros_leafy n) (by simp [iA])⟩
    · exact ⟨_, ⟨⟨rfl, rfl⟩, rfl⟩, zeros_leafy n, rfl⟩
  · (simp -implicitDefEqProofs only [go_sem]; repeat (refine GO ?_; simp -implicitDefEqProofs only [go_sem]))
    refine FINmk [(0, none)] [(4, .rf 0 0 0)] [(0, so [])] [0] rfl ?_ ?_
    · (simp -implicitDefEqProofs only [go_sem]; repeat (refine GO ?_; simp -implicitDefEqProofs only [go_sem]))
      simp [so]
    · exact ⟨so [], ⟨⟨rfl, rfl⟩, rfl⟩, so_leafy [], rfl⟩
def cat : List (List It) → List It
  | [] => []
  | z :: r => z ++ cat r
theorem s18 (a b : List It) (ha : a.length < 4611686018427387904) (hb : b.length < 4611686018427387904) (hr : ∀ t ∈ a, t.row.length < 4611686018427387904) :
    Spec0 Try.prog 9 [setA a, setA b] (fun r => ∃ e : Bool, r = bA e ∧ (e = true ↔ a = b)) := by
  refine spec0_of_vc tabOk elems ord9 Try.func9 rfl (rl := [.tmp 4]) rfl (by kernel_rfl) rfl ?_
  (simp -implicitDefEqProofs only [go_sem, setA]; repeat (refine GO ?_; simp -implicitDefEqProofs only [go_sem, setA]))
  refine VIF.split (fun h => ?_) (fun h => ?_)
  · have h : a.length ≠ b.length := by simp at h; omega
    (simp -implicitDefEqProofs only [go_sem]; repeat (refine GO ?_; simp -implicitDefEqProofs only [go_sem]))
    exact ⟨false, rfl, by simp; intro e; exact h (by rw [e])⟩
  · have h : a.length = b.length := by simp at h; omega
    (simp -implicitDefEqProofs only [go_sem]; repeat (refine GO ?_; simp -implicitDefEqProofs only [go_sem]))
    refine LOOP.mk (ι := { i : Nat // i ≤ a.length ∧ ∀ j (h1 : j < a.length) (h2 : j < b.length), j < i → a[j] = b[j] }) (fun p => mkS [(0, setA a), (1, setA b), (5, iA p.1)] [] [])
      (fun p => a.length - p.1) ⟨0, Nat.zero_le _, fun j _ _ h => absurd h (Nat.not_lt_zero _)⟩ [] rfl rfl ?_ (fun p => ?_)
    · (simp -implicitDefEqProofs only [go_sem, setA, iA]; repeat (refine GO ?_; simp -implicitDefEqProofs only [go_sem, setA, iA]))
      exact ⟨id, rfl⟩
    · obtain ⟨i, hi, hg⟩ := p
      (simp -implicitDefEqProofs only [go_sem, setA, iA]; repeat (refine GO ?_; simp -implicitDefEqProofs only [go_sem, setA, iA]))
      refine VIF.split (fun h3 => ?_) (fun h3 => ?_)
      · have h3 : i < a.length := by simpa using h3
        have h4 : i < b.length := by omega
        have w1 := wrap_add1 (show i < 4611686018427387904 by omega)
        have bad : a[i] ≠ b[i] → ∃ e : Bool, AV.pr (Value.bool false) = bA e ∧ (e = true ↔ a = b) := fun hne => by
          refine ⟨false, rfl, ?_⟩
          simp only [Bool.false_eq_true, false_iff]
          intro e; subst e; exact hne rfl
        (simp -implicitDefEqProofs only [go_sem]; repeat (refine GO ?_; simp -implicitDefEqProofs only [go_sem]))
        refine EL.map h3 ?_
        (simp -implicitDefEqProofs only [go_sem, It.c]; repeat (refine GO ?_; simp -implicitDefEqProofs only [go_sem, It.c]))
        refine EL.map h4 ?_
        (simp -implicitDefEqProofs only [go_sem, It.c, iA]; repeat (refine GO ?_; simp -implicitDefEqProofs only [go_sem, It.c, iA]))
        refine VIF.split (fun h5 => ?_) (fun h5 => ?_)
        · have h5 : a[i].w ≠ b[i].w := by simpa using h5
          (simp -implicitDefEqProofs only [go_sem]; repeat (refine GO ?_; simp -implicitDefEqProofs only [go_sem]))
          exact bad fun e => h5 (by rw [e])
        · have h5 : a[i].w = b[i].w := by simpa using h5
          (simp -implicitDefEqProofs only [go_sem]; repeat (refine GO ?_; simp -implicitDefEqProofs only [go_sem]))
          refine EL.map h3 ?_
          (simp -implicitDefEqProofs only [go_sem, It.c]; repeat (refine GO ?_; simp -implicitDefEqProofs only [go_sem, It.c]))
          refine EL.map h4 ?_
          (simp -implicitDefEqProofs only [go_sem, It.c]; repeat (refine GO ?_; simp -implicitDefEqProofs only [go_sem, It.c]))
          refine .pure _ (s14 a[i].row b[i].row (hr _ (List.getElem_mem h3))) rfl fun q hq _ => ?_
          obtain ⟨e, rfl, he⟩ := hq
          (simp -implicitDefEqProofs only [go_sem, bA]; repeat (refine GO ?_; simp -implicitDefEqProofs only [go_sem, bA]))
          refine VIF.split (fun h6 => ?_) (fun h6 => ?_)
          · have h6 : e = false := by simpa using h6
            (simp -implicitDefEqProofs only [go_sem]; repeat (refine GO ?_; simp -implicitDefEqProofs only [go_sem]))
            refine bad fun e2 => ?_
            rw [e2] at he
            rw [h6] at he
            simp at he
          · have h6 : e = true := by simpa using h6
            (simp -implicitDefEqProofs only [go_sem, w1]; repeat (refine GO ?_; simp -implicitDefEqProofs only [go_sem, w1]))
            refine BACK.mk ⟨i + 1, by omega, fun j g1 g2 hj => ?_⟩ [] rfl rfl (by show a.length - (i + 1) < a.length - i; omega) ?_
            · by_cases e2 : j = i
              · subst e2
                have h7 := he.1 h6
                show a[j] = b[j]
                generalize a[j] = x at h5 h7
                generalize b[j] = y at h5 h7
                obtain ⟨r1, w1⟩ := x; obtain ⟨r2, w2⟩ := y
                simp only at h5 h7
                subst h5; subst h7; rfl
              · exact hg j g1 g2 (by omega)
            · (simp -implicitDefEqProofs only [go_sem, setA, iA, w1]; repeat (refine GO ?_; simp -implicitDefEqProofs only [go_sem, setA, iA, w1]))
              exact id
      · have h3 : i = a.length := by simp at h3; omega
        (simp -implicitDefEqProofs only [go_sem]; repeat (refine GO ?_; simp -implicitDefEqProofs only [go_sem]))
        refine ⟨true, rfl, fun _ => ?_, fun _ => rfl⟩
        exact List.ext_getElem h fun j h1 h2 => hg j h1 h2 (by omega)
theorem cat_append (x y : List (List It)) : cat (x ++ y) = cat x ++ cat y := by
  induction x with
  | nil => rfl
  | cons z x ih => simp only [List.cons_append, cat, ih, List.append_assoc]
theorem cat_take {zs : List (List It)} {i : Nat} (h : i < zs.length) : (cat (zs.take (i + 1))).length = (cat (zs.take i)).length + zs[i].length := by
  rw [List.take_succ_eq_append_getElem h, cat_append]; simp [cat]
theorem cat_le (zs : List (List It)) (i : Nat) : (cat (zs.take i)).length ≤ (cat zs).length := by
  have : cat zs = cat (zs.take i) ++ cat (zs.drop i) := by rw [← cat_append, List.take_append_drop]
  rw [this]; simp
theorem s51 (zs : List (List It)) (hl : zs.length ≤ 1073741824) (hc : (cat zs).length ≤ 1048576) :
    Spec1 Try.prog 43 [setsA zs] (fun r o => r = .rf 0 0 (cat zs).length ∧ o.sz = 2 ∧ o.es.take (cat zs).length = (cat zs).map It.c) := by
  refine spec1_of_vc tabOk elems ord43 Try.func43 rfl (rl := [.tmp 2]) rfl (by kernel_rfl) rfl ?_
  (simp -implicitDefEqProofs only [go_sem, setsA]; repeat (refine GO ?_; simp -implicitDefEqProofs only [go_sem, setsA]))
  refine LOOP.mk (ι := { i : Nat // i ≤ zs.length }) (fun p => mkS [(0, setsA zs), (3, iA (cat (zs.take p.1)).length), (9, setsA zs), (10, iA zs.length), (11, iA p.1)] [] [])
    (fun p => zs.length - p.1) ⟨0, Nat.zero_le _⟩ [] rfl rfl ?_ (fun p => ?_)
  · (simp -implicitDefEqProofs only [go_sem, setsA, iA]; repeat (refine GO ?_; simp -implicitDefEqProofs only [go_sem, setsA, iA]))
    exact ⟨id, rfl, rfl⟩
  · obtain ⟨i, hi⟩ := p
    (simp -implicitDefEqProofs only [go_sem, setsA, iA]; repeat (refine GO ?_; simp -implicitDefEqProofs only [go_sem, setsA, iA]))
    refine VIF.split (fun h => ?_) (fun h => ?_)
    · have h : i < zs.length := by simpa using h
      (simp -implicitDefEqProofs only [go_sem]; repeat (refine GO ?_; simp -implicitDefEqProofs only [go_sem]))
      refine EL.map h ?_
      have hct := cat_take h
      have hcl := cat_le zs (i + 1)
      rw [hct] at hcl
      have w1 : IntKind.i64.wrap (((cat (zs.take i)).length : Int) + (zs[i].length : Int)) = ((cat (zs.take (i + 1))).length : Int) := by
        rw [hct, wrap_i64] <;> omega
      have w2 := wrap_add1 (show i < 4611686018427387904 by omega)
      (simp -implicitDefEqProofs only [go_sem, setA, w1, w2]; repeat (refine GO ?_; simp -implicitDefEqProofs only [go_sem, setA, w1, w2]))
      refine VIF.split (fun h => by simp at h; omega) (fun _ => ?_)
      (simp -implicitDefEqProofs only [go_sem, w1, w2]; repeat (refine GO ?_; simp -implicitDefEqProofs only [go_sem, w1, w2]))
      refine BACK.mk ⟨i + 1, by omega⟩ [] rfl rfl (by show zs.length - (i + 1) < zs.length - i; omega) ?_
      (simp -implicitDefEqProofs only [go_sem, setsA, iA, w1, w2]; repeat (refine GO ?_; simp -implicitDefEqProofs only [go_sem, setsA, iA, w1, w2]))
      exact ⟨id, rfl, rfl⟩
    · have h : i = zs.length := by simp at h; omega
      subst h
      (simp -implicitDefEqProofs only [go_sem, List.take_length]; repeat (refine GO ?_; simp -implicitDefEqProofs only [go_sem, List.take_length]))
      refine .make 24 _ (s65 (cat zs).length (by omega)) rfl (by simp) rfl fun q o hq hlf => ?_
      obtain ⟨rfl, ho⟩ := hq
      (simp -implicitDefEqProofs only [go_sem]; repeat (refine GO ?_; simp -implicitDefEqProofs only [go_sem]))
      refine LOOP.mk (ι := { p : Nat × Ob // p.1 ≤ zs.length ∧ p.2.sz = 2 ∧ p.2.leafy ∧ p.2.es.take (cat (zs.take p.1)).length = (cat (zs.take p.1)).map It.c })
        (fun p => mkS [(6, .rf 1000 0 (cat (zs.take p.1.1)).length), (25, setsA zs), (26, iA zs.length), (27, iA p.1.1)] [(1000, p.1.2)] [1000])
        (fun p => zs.length - p.1.1) ⟨(0, o), Nat.zero_le _, ho, hlf, rfl⟩ [(1000, some 24)] rfl rfl ?_ (fun p => ?_)
      · (simp -implicitDefEqProofs only [go_sem, setsA, iA]; repeat (refine GO ?_; simp -implicitDefEqProofs only [go_sem, setsA, iA]))
        exact ⟨id, ⟨rfl, rfl⟩, .same o _ _ hlf rfl⟩
      · obtain ⟨⟨i, o2⟩, hi, hsz, hlf2, hes⟩ := p
        simp only at hi hsz hlf2 hes
        (simp -implicitDefEqProofs only [go_sem, setsA, iA]; repeat (refine GO ?_; simp -implicitDefEqProofs only [go_sem, setsA, iA]))
        refine VIF.split (fun h => ?_) (fun h => ?_)
        · have h : i < zs.length := by simpa using h
          have hct := cat_take h
          have hcl := cat_le zs (i + 1)
          rw [hct] at hcl
          have w2 := wrap_add1 (show i < 4611686018427387904 by omega)
          (simp -implicitDefEqProofs only [go_sem]; repeat (refine GO ?_; simp -implicitDefEqProofs only [go_sem]))
          refine EL.map h ?_
          (simp -implicitDefEqProofs only [go_sem, setA, w2]; repeat (refine GO ?_; simp -implicitDefEqProofs only [go_sem, setA, w2]))
          refine ⟨⟨hsz, by omega⟩, ?_⟩
          have hlf3 : (Ob.mk 2 (o2.es.take (cat (zs.take i)).length ++ zs[i].map It.c)).leafy := by
            rw [hes, ← List.map_append]; exact so_leafy _
          refine BACK.mk ⟨(i + 1, ⟨2, o2.es.take (cat (zs.take i)).length ++ zs[i].map It.c⟩), by omega, rfl, hlf3, by
            show (o2.es.take (cat (zs.take i)).length ++ zs[i].map It.c).take (cat (zs.take (i + 1))).length = (cat (zs.take (i + 1))).map It.c
            rw [hes, ← List.map_append, List.take_succ_eq_append_getElem h, cat_append]
            simp only [cat, List.append_nil]
            exact List.take_of_length_le (by simp)⟩ [(1000, some 33)] rfl rfl (by show zs.length - (i + 1) < zs.length - i; omega) ?_
          (simp -implicitDefEqProofs only [go_sem, setsA, iA, w2]; repeat (refine GO ?_; simp -implicitDefEqProofs only [go_sem, setsA, iA, w2]))
          refine ⟨id, ⟨by rw [hct], rfl⟩, .same (Ob.mk 2 (o2.es.take (cat (zs.take i)).length ++ zs[i].map It.c)) _ _ hlf3 rfl⟩
        · have h : i = zs.length := by simp at h; omega
          subst h
          rw [List.take_length] at hes
          (simp -implicitDefEqProofs only [go_sem, List.take_length]; repeat (refine GO ?_; simp -implicitDefEqProofs only [go_sem, List.take_length]))
          refine FINmk [(0, some 1000)] [(2, .rf 0 0 (cat zs).length)] [(0, o2)] [0] rfl ?_ ?_
          · (simp -implicitDefEqProofs only [go_sem]; repeat (refine GO ?_; simp -implicitDefEqProofs only [go_sem]))
            exact .same o2 _ _ hlf2 rfl
          · exact ⟨o2, ⟨⟨rfl, hsz, hes⟩, rfl⟩, hlf2, rfl⟩
end Yt
namespace Yt
open Go Go.Vc Go.Proofs
set_option maxRecDepth 10000
set_option maxHeartbeats 4000000
set_option linter.unusedSimpArgs false
set_option linter.unusedVariables false
theorem s49 (v : V) : Spec0 Try.prog 51 [.ag v.c] (· = bA (okV v)) := by
  refine spec0_of_vc tabOk elems ord51 Try.func51 rfl (rl := [.tmp 2]) rfl (by kernel_rfl) rfl ?_
  (simp -implicitDefEqProofs only [go_sem, V.c]; repeat (refine GO ?_; simp -implicitDefEqProofs only [go_sem, V.c]))
  iterate 9 all_goals (first
    | (refine VIF.split (fun h => ?_) (fun h => ?_) <;> (simp -implicitDefEqProofs only [go_sem]; repeat (refine GO ?_; simp -implicitDefEqProofs only [go_sem])))
    | (refine .pure _ (s64 v.i 0 1) rfl fun r hr _ => ?_
       subst hr
       (simp -implicitDefEqProofs only [go_sem, bA]; repeat (refine GO ?_; simp -implicitDefEqProofs only [go_sem, bA])))
    | (refine .pure _ (s64 v.i (-1152921504606846976) 1152921504606846976) rfl fun r hr _ => ?_
       subst hr
       (simp -implicitDefEqProofs only [go_sem, bA]; repeat (refine GO ?_; simp -implicitDefEqProofs only [go_sem, bA])))
    | skip)
  all_goals simp_all [okV, inB, iA, bA, noS]
  all_goals (first | rfl | (intros; omega))
theorem s17 (a : List V) (ha : a.length < 4611686018427387904) : Spec0 Try.prog 35 [rowA a] (· = iA (okR a)) := by
  refine spec0_of_vc tabOk elems ord35 Try.func35 rfl (rl := [.tmp 2]) rfl (by kernel_rfl) rfl ?_
  (simp -implicitDefEqProofs only [go_sem, rowA]; repeat (refine GO ?_; simp -implicitDefEqProofs only [go_sem, rowA]))
  refine VIF.split (fun h => ?_) (fun h => ?_)
  · (simp -implicitDefEqProofs only [go_sem]; repeat (refine GO ?_; simp -implicitDefEqProofs only [go_sem]))
    have h : 12 < a.length := by simp at h; omega
    simp [okR, h, iA]
  · have h12 : ¬ 12 < a.length := by simp at h; omega
    (simp -implicitDefEqProofs only [go_sem]; repeat (refine GO ?_; simp -implicitDefEqProofs only [go_sem]))
    refine LOOP.mk (ι := { i : Nat // i ≤ a.length ∧ ∀ j (hj : j < a.length), j < i → okV a[j] = true }) (fun i => mkS [(0, rowA a), (3, iA i.1)] [] []) (fun i => a.length - i.1)
      ⟨0, by simp⟩ [] rfl rfl ?_ (fun i => ?_)
    · (simp -implicitDefEqProofs only [go_sem, rowA, iA]; repeat (refine GO ?_; simp -implicitDefEqProofs only [go_sem, rowA, iA]))
      exact ⟨id, rfl⟩
    · obtain ⟨i, hi, hz⟩ := i
      (simp -implicitDefEqProofs only [go_sem, rowA, iA]; repeat (refine GO ?_; simp -implicitDefEqProofs only [go_sem, rowA, iA]))
      refine VIF.split (fun h => ?_) (fun h => ?_)
      · have hi' : i < a.length := by simpa using h
        have w1 := wrap_add1 (show i < 4611686018427387904 by omega)
        (simp -implicitDefEqProofs only [go_sem]; repeat (refine GO ?_; simp -implicitDefEqProofs only [go_sem]))
        refine EL.map hi' ?_
        (simp -implicitDefEqProofs only [go_sem, V.c]; repeat (refine GO ?_; simp -implicitDefEqProofs only [go_sem, V.c]))
        refine .pure _ (s49 a[i]) rfl fun r hr _ => ?_
        subst hr
        (simp -implicitDefEqProofs only [go_sem, bA]; repeat (refine GO ?_; simp -implicitDefEqProofs only [go_sem, bA]))
        refine VIF.split (fun e => ?_) (fun e => ?_)
        · have e : okV a[i] = false := by simpa using e
          (simp -implicitDefEqProofs only [go_sem]; repeat (refine GO ?_; simp -implicitDefEqProofs only [go_sem]))
          have : a.all okV = false := by
            rw [List.all_eq_false]; exact ⟨_, List.getElem_mem hi', by simp [e]⟩
          simp [okR, h12, this, iA]
        · have e : okV a[i] = true := by simpa using e
          (simp -implicitDefEqProofs only [go_sem, w1]; repeat (refine GO ?_; simp -implicitDefEqProofs only [go_sem, w1]))
          refine BACK.mk ⟨i + 1, by omega, fun j hj hji => ?_⟩ [] rfl rfl (by show a.length - (i + 1) < a.length - i; omega) ?_
          · by_cases e2 : j = i
            · subst e2; exact e
            · exact hz j hj (by omega)
          · (simp -implicitDefEqProofs only [go_sem, rowA, iA, w1]; repeat (refine GO ?_; simp -implicitDefEqProofs only [go_sem, rowA, iA, w1]))
            exact id
      · have h : i = a.length := by simp at h; omega
        (simp -implicitDefEqProofs only [go_sem]; repeat (refine GO ?_; simp -implicitDefEqProofs only [go_sem]))
        have : a.all okV = true := by
          rw [List.all_eq_true]; intro x hx
          obtain ⟨j, hj, rfl⟩ := List.mem_iff_getElem.1 hx
          exact hz j hj (by omega)
        simp [okR, h12, this, iA]
end Yt
namespace Yt
open Go Go.Vc Go.Proofs
set_option maxRecDepth 10000
set_option maxHeartbeats 4000000
set_option linter.unusedSimpArgs false
set_option linter.unusedVariables false
theorem s67 (b : Bool) : Spec0 Try.prog 53 [bA b] (· = iA (if b then -1 else 1)) := by
  refine spec0_of_vc tabOk elems ord53 Try.func53 rfl (rl := [.tmp 2]) rfl (by kernel_rfl) rfl ?_
  (simp -implicitDefEqProofs only [go_sem, bA]; repeat (refine GO ?_; simp -implicitDefEqProofs only [go_sem, bA]))
  refine VIF.split (fun h => ?_) (fun h => ?_)
  · subst h; (simp -implicitDefEqProofs only [go_sem]; repeat (refine GO ?_; simp -implicitDefEqProofs only [go_sem])); rfl
  · subst h; (simp -implicitDefEqProofs only [go_sem]; repeat (refine GO ?_; simp -implicitDefEqProofs only [go_sem])); rfl
theorem s66 (a b : V) : Spec0 Try.prog 52 [.ag a.c, .ag b.c] (· = iA (cmpV a b)) := by
  refine spec0_of_vc tabOk elems ord52 Try.func52 rfl (rl := [.tmp 4]) rfl (by kernel_rfl) rfl ?_
  (simp -implicitDefEqProofs only [go_sem, V.c]; repeat (refine GO ?_; simp -implicitDefEqProofs only [go_sem, V.c]))
  refine VIF.split (fun h => ?_) (fun h => ?_)
  · (simp -implicitDefEqProofs only [go_sem]; repeat (refine GO ?_; simp -implicitDefEqProofs only [go_sem]))
    refine .pure _ (s67 _) rfl fun q hq _ => ?_
    subst hq
    (simp -implicitDefEqProofs only [go_sem, iA]; repeat (refine GO ?_; simp -implicitDefEqProofs only [go_sem, iA]))
    have h : a.k ≠ b.k := by simpa using h
    by_cases h2 : a.k < b.k
    · simp [cmpV, nz, cmpI, h2]
    · have h3 : b.k < a.k := by omega
      simp [cmpV, nz, cmpI, h2, h3]
  · have h : a.k = b.k := by simpa using h
    (simp -implicitDefEqProofs only [go_sem]; repeat (refine GO ?_; simp -implicitDefEqProofs only [go_sem]))
    refine VIF.split (fun h2 => ?_) (fun h2 => ?_)
    · (simp -implicitDefEqProofs only [go_sem]; repeat (refine GO ?_; simp -implicitDefEqProofs only [go_sem]))
      refine .pure _ (s67 _) rfl fun q hq _ => ?_
      subst hq
      (simp -implicitDefEqProofs only [go_sem, iA]; repeat (refine GO ?_; simp -implicitDefEqProofs only [go_sem, iA]))
      have h2 : a.i ≠ b.i := by simpa using h2
      by_cases h3 : a.i < b.i
      · simp [cmpV, nz, cmpI, h, h3]
      · have h4 : b.i < a.i := by omega
        simp [cmpV, nz, cmpI, h, h3, h4]
    · have h2 : a.i = b.i := by simpa using h2
      (simp -implicitDefEqProofs only [go_sem]; repeat (refine GO ?_; simp -implicitDefEqProofs only [go_sem]))
      refine VIF.split (fun h3 => ?_) (fun h3 => ?_)
      · (simp -implicitDefEqProofs only [go_sem]; repeat (refine GO ?_; simp -implicitDefEqProofs only [go_sem]))
        refine .pure _ (s67 _) rfl fun q hq _ => ?_
        subst hq
        (simp -implicitDefEqProofs only [go_sem, iA]; repeat (refine GO ?_; simp -implicitDefEqProofs only [go_sem, iA]))
        have h3 : a.s ≠ b.s := by simpa using h3
        by_cases h4 : Op.bytesLess a.s.toList b.s.toList = true
        · simp [cmpV, nz, cmpI, cmpS, h, h2, h4]
        · simp [cmpV, nz, cmpI, cmpS, h, h2, h4, h3]
      · have h3 : a.s = b.s := by simpa using h3
        (simp -implicitDefEqProofs only [go_sem]; repeat (refine GO ?_; simp -implicitDefEqProofs only [go_sem]))
        have h5 := lin_cmpS.self b.s
        simp [iA, cmpV, nz, cmpI, h, h2, h3, h5]
theorem cmpR_step (a b : List V) (i : Nat) (ha : i < a.length) (hb : i < b.length) : cmpR (a.drop i) (b.drop i) = if cmpV a[i] b[i] = 0 then cmpR (a.drop (i + 1)) (b.drop (i + 1)) else cmpV a[i] b[i] := by
  rw [List.drop_eq_getElem_cons ha, List.drop_eq_getElem_cons hb]; rfl
theorem s55 (a b : List V) (ha : a.length < 4611686018427387904) (hb : b.length < 4611686018427387904) : Spec0 Try.prog 38 [rowA a, rowA b] (· = iA (cmpR a b)) := by
  refine spec0_of_vc tabOk elems ord38 Try.func38 rfl (rl := [.tmp 4]) rfl (by kernel_rfl) rfl ?_
  (simp -implicitDefEqProofs only [go_sem, rowA]; repeat (refine GO ?_; simp -implicitDefEqProofs only [go_sem, rowA]))
  refine LOOP.join (ι := { u : Unit // cmpR a b = if a.length = b.length then 0 else if a.length < b.length then -1 else 1 }) (fun _ => mkS [(0, rowA a), (1, rowA b)] [] []) ?_ (fun u => ?_)
  · refine LOOP.mk (ι := { i : Nat // i ≤ a.length ∧ i ≤ b.length ∧ cmpR a b = cmpR (a.drop i) (b.drop i) }) (fun p => mkS [(0, rowA a), (1, rowA b), (5, iA p.1)] [] [])
      (fun p => a.length - p.1) ⟨0, Nat.zero_le _, Nat.zero_le _, rfl⟩ [] rfl rfl ?_ (fun p => ?_)
    · (simp -implicitDefEqProofs only [go_sem, rowA, iA]; repeat (refine GO ?_; simp -implicitDefEqProofs only [go_sem, rowA, iA]))
      exact ⟨id, rfl⟩
    · obtain ⟨i, hi, hi2, he⟩ := p
      have w3 := wrap_add1 (show i < 4611686018427387904 by omega)
      (simp -implicitDefEqProofs only [go_sem, rowA, iA]; repeat (refine GO ?_; simp -implicitDefEqProofs only [go_sem, rowA, iA]))
      refine VIF.split (fun h => ?_) (fun h => ?_)
      · have h : i < a.length := by simpa using h
        (simp -implicitDefEqProofs only [go_sem]; repeat (refine GO ?_; simp -implicitDefEqProofs only [go_sem]))
        refine VIF.split (fun h2 => ?_) (fun h2 => ?_)
        · have h2 : i < b.length := by simpa using h2
          have hst := cmpR_step a b i h h2
          (simp -implicitDefEqProofs only [go_sem]; repeat (refine GO ?_; simp -implicitDefEqProofs only [go_sem]))
          refine EL.map h ?_
          (simp -implicitDefEqProofs only [go_sem, V.c]; repeat (refine GO ?_; simp -implicitDefEqProofs only [go_sem, V.c]))
          refine EL.map h2 ?_
          (simp -implicitDefEqProofs only [go_sem, V.c]; repeat (refine GO ?_; simp -implicitDefEqProofs only [go_sem, V.c]))
          refine .pure _ (s66 a[i] b[i]) rfl fun q hq _ => ?_
          subst hq
          (simp -implicitDefEqProofs only [go_sem, iA]; repeat (refine GO ?_; simp -implicitDefEqProofs only [go_sem, iA]))
          refine VIF.split (fun h3 => ?_) (fun h3 => ?_)
          · have h3 : cmpV a[i] b[i] ≠ 0 := by simpa using h3
            (simp -implicitDefEqProofs only [go_sem]; repeat (refine GO ?_; simp -implicitDefEqProofs only [go_sem]))
            rw [he, hst, if_neg h3]; rfl
          · have h3 : cmpV a[i] b[i] = 0 := by simpa using h3
            rw [if_pos h3] at hst
            (simp -implicitDefEqProofs only [go_sem, w3]; repeat (refine GO ?_; simp -implicitDefEqProofs only [go_sem, w3]))
            refine BACK.mk ⟨i + 1, by omega, by omega, he.trans hst⟩ [] rfl rfl (by show a.length - (i + 1) < a.length - i; omega) ?_
            (simp -implicitDefEqProofs only [go_sem, rowA, iA, w3]; repeat (refine GO ?_; simp -implicitDefEqProofs only [go_sem, rowA, iA, w3]))
            exact id
        · have h2 : i = b.length := by simp at h2; omega
          (simp -implicitDefEqProofs only [go_sem]; repeat (refine GO ?_; simp -implicitDefEqProofs only [go_sem]))
          refine JB.mk ⟨(), ?_⟩ [] rfl rfl ?_
          · rw [he, h2, List.drop_length, List.drop_eq_getElem_cons (by omega), if_neg (by omega), if_neg (by omega)]; rfl
          · (simp -implicitDefEqProofs only [go_sem, rowA]; repeat (refine GO ?_; simp -implicitDefEqProofs only [go_sem, rowA]))
            exact id
      · have h : i = a.length := by simp at h; omega
        (simp -implicitDefEqProofs only [go_sem]; repeat (refine GO ?_; simp -implicitDefEqProofs only [go_sem]))
        refine JB.mk ⟨(), ?_⟩ [] rfl rfl ?_
        · rw [he, h, List.drop_length]
          by_cases h2 : a.length = b.length
          · rw [if_pos h2, h2, List.drop_length]; rfl
          · rw [if_neg h2, List.drop_eq_getElem_cons (by omega), if_pos (by omega)]; rfl
        · (simp -implicitDefEqProofs only [go_sem, rowA]; repeat (refine GO ?_; simp -implicitDefEqProofs only [go_sem, rowA]))
          exact id
  · obtain ⟨u, he⟩ := u
    (simp -implicitDefEqProofs only [go_sem, rowA]; repeat (refine GO ?_; simp -implicitDefEqProofs only [go_sem, rowA]))
    refine VIF.split (fun h => ?_) (fun h => ?_)
    · have h : a.length ≠ b.length := by simp at h; omega
      (simp -implicitDefEqProofs only [go_sem]; repeat (refine GO ?_; simp -implicitDefEqProofs only [go_sem]))
      refine .pure _ (s67 _) rfl fun q hq _ => ?_
      subst hq
      (simp -implicitDefEqProofs only [go_sem, iA]; repeat (refine GO ?_; simp -implicitDefEqProofs only [go_sem, iA]))
      rw [he, if_neg h]
      simp
    · have h : a.length = b.length := by simp at h; omega
      (simp -implicitDefEqProofs only [go_sem]; repeat (refine GO ?_; simp -implicitDefEqProofs only [go_sem]))
      rw [he, if_pos h]; rfl
theorem s52 (a : List V) (hl : a.length ≤ 1073741824) : Spec1 Try.prog 23 [rowA a] (fun r o => r = .rf 0 0 a.length ∧ o = ro3 a) := by
  refine spec1_of_vc tabOk elems ord23 Try.func23 rfl (rl := [.tmp 2]) rfl (by kernel_rfl) rfl ?_
  (simp -implicitDefEqProofs only [go_sem, rowA]; repeat (refine GO ?_; simp -implicitDefEqProofs only [go_sem, rowA]))
  refine ⟨by omega, ?_⟩
  refine FINmk [(0, some 6)] [(2, .rf 0 0 a.length)] [(0, ro3 a)] [0] rfl ?_ ?_
  · (simp -implicitDefEqProofs only [go_sem, ro3]; repeat (refine GO ?_; simp -implicitDefEqProofs only [go_sem, ro3]))
    exact .same (ro3 a) _ _ (ro3_leafy a) rfl
  · exact ⟨ro3 a, ⟨⟨rfl, rfl⟩, rfl⟩, ro3_leafy a, rfl⟩
theorem s30 (z : List It) (hl : z.length < 4611686018427387904) (hr : ∀ t ∈ z, t.row.length < 4611686018427387904) :
    Spec0 Try.prog 15 [setA z] (fun r => ∃ e : Bool, r = bA e ∧ (e = true ↔ Good z)) := by
  refine spec0_of_vc tabOk elems ord15 Try.func15 rfl (rl := [.tmp 2]) rfl (by kernel_rfl) rfl ?_
  (simp -implicitDefEqProofs only [go_sem, setA]; repeat (refine GO ?_; simp -implicitDefEqProofs only [go_sem, setA]))
  refine LOOP.mk (ι := { i : Nat // i ≤ z.length ∧ ∀ j (h : j < z.length), j < i → Goo z j h }) (fun p => mkS [(0, .im 2 (z.map It.c)), (3, iA p.1)] [] [])
    (fun p => z.length - p.1) ⟨0, Nat.zero_le _, fun j _ h => absurd h (Nat.not_lt_zero _)⟩ [] rfl rfl ?_ (fun p => ?_)
  · (simp -implicitDefEqProofs only [go_sem, iA]; repeat (refine GO ?_; simp -implicitDefEqProofs only [go_sem, iA]))
    exact ⟨id, rfl⟩
  · obtain ⟨i, hi, hg⟩ := p
    (simp -implicitDefEqProofs only [go_sem, iA]; repeat (refine GO ?_; simp -implicitDefEqProofs only [go_sem, iA]))
    refine VIF.split (fun h => ?_) (fun h => ?_)
    · have h : i < z.length := by simpa using h
      have bad : ¬ Goo z i h → ∃ e : Bool, AV.pr (Value.bool false) = bA e ∧ (e = true ↔ Good z) := fun hn =>
        ⟨false, rfl, fun h => absurd h (by decide), fun g => absurd (g i h) hn⟩
      have w3 := wrap_add1 (show i < 4611686018427387904 by omega)
      (simp -implicitDefEqProofs only [go_sem]; repeat (refine GO ?_; simp -implicitDefEqProofs only [go_sem]))
      refine EL.map h ?_
      (simp -implicitDefEqProofs only [go_sem, It.c]; repeat (refine GO ?_; simp -implicitDefEqProofs only [go_sem, It.c]))
      refine .pure _ (s17 z[i].row (hr _ (List.getElem_mem h))) rfl fun r hr' _ => ?_
      subst hr'
      (simp -implicitDefEqProofs only [go_sem, iA]; repeat (refine GO ?_; simp -implicitDefEqProofs only [go_sem, iA]))
      refine VIF.split (fun h1 => ?_) (fun h1 => ?_)
      · have h1 : okR z[i].row ≠ 0 := by simpa using h1
        (simp -implicitDefEqProofs only [go_sem]; repeat (refine GO ?_; simp -implicitDefEqProofs only [go_sem]))
        exact bad fun g => h1 (by have := g.ok; simp [okI] at this; exact this.1)
      · have h1 : okR z[i].row = 0 := by simpa using h1
        (simp -implicitDefEqProofs only [go_sem]; repeat (refine GO ?_; simp -implicitDefEqProofs only [go_sem]))
        refine EL.map h ?_
        (simp -implicitDefEqProofs only [go_sem, It.c, iA]; repeat (refine GO ?_; simp -implicitDefEqProofs only [go_sem, It.c, iA]))
        refine VIF.split (fun h2 => ?_) (fun h2 => ?_)
        · have h2 : z[i].w = 0 := by simpa using h2
          (simp -implicitDefEqProofs only [go_sem]; repeat (refine GO ?_; simp -implicitDefEqProofs only [go_sem]))
          exact bad fun g => g.nz h2
        · have h2 : z[i].w ≠ 0 := by simpa using h2
          (simp -implicitDefEqProofs only [go_sem]; repeat (refine GO ?_; simp -implicitDefEqProofs only [go_sem]))
          refine EL.map h ?_
          (simp -implicitDefEqProofs only [go_sem, It.c, iA]; repeat (refine GO ?_; simp -implicitDefEqProofs only [go_sem, It.c, iA]))
          refine .pure _ (s53 z[i].w (-72057594037927936) 72057594037927936) rfl fun r hr' _ => ?_
          subst hr'
          (simp -implicitDefEqProofs only [go_sem, bA]; repeat (refine GO ?_; simp -implicitDefEqProofs only [go_sem, bA]))
          refine VIF.split (fun h3 => ?_) (fun h3 => ?_)
          · have h3 : okW z[i].w = false := by simpa [okW] using h3
            (simp -implicitDefEqProofs only [go_sem]; repeat (refine GO ?_; simp -implicitDefEqProofs only [go_sem]))
            exact bad fun g => by have := g.ok; simp [okI, h3] at this
          · have h3 : okW z[i].w = true := by simpa [okW] using h3
            have hok : okI z[i] = true := by simp [okI, h1, h3]
            (simp -implicitDefEqProofs only [go_sem]; repeat (refine GO ?_; simp -implicitDefEqProofs only [go_sem]))
            refine VIF.split (fun h4 => ?_) (fun h4 => ?_)
            · have h4 : 0 < i := by simp at h4; omega
              have w1 := wrap_sub1 (show 1 ≤ i from h4) (by omega)
              (simp -implicitDefEqProofs only [go_sem, w1]; repeat (refine GO ?_; simp -implicitDefEqProofs only [go_sem, w1]))
              refine EL.map (show i - 1 < z.length by omega) ?_
              (simp -implicitDefEqProofs only [go_sem, It.c]; repeat (refine GO ?_; simp -implicitDefEqProofs only [go_sem, It.c]))
              refine EL.map h ?_
              (simp -implicitDefEqProofs only [go_sem, It.c]; repeat (refine GO ?_; simp -implicitDefEqProofs only [go_sem, It.c]))
              refine .pure _ (s55 z[i - 1].row z[i].row (hr _ (List.getElem_mem _)) (hr _ (List.getElem_mem _))) rfl fun r hr' _ => ?_
              subst hr'
              (simp -implicitDefEqProofs only [go_sem, iA]; repeat (refine GO ?_; simp -implicitDefEqProofs only [go_sem, iA]))
              refine VIF.split (fun h5 => ?_) (fun h5 => ?_)
              · have h5 : 0 ≤ cI z[i - 1] z[i] := by simpa [cI] using h5
                (simp -implicitDefEqProofs only [go_sem]; repeat (refine GO ?_; simp -implicitDefEqProofs only [go_sem]))
                exact bad fun g => by have := g.up h4; omega
              · have h5 : cI z[i - 1] z[i] < 0 := by simpa [cI] using h5
                (simp -implicitDefEqProofs only [go_sem, w3]; repeat (refine GO ?_; simp -implicitDefEqProofs only [go_sem, w3]))
                refine BACK.mk ⟨i + 1, by omega, fun j hj hji => ?_⟩ [] rfl rfl (by show z.length - (i + 1) < z.length - i; omega) ?_
                · by_cases e : j = i
                  · subst e; exact ⟨hok, h2, fun _ => h5⟩
                  · exact hg j hj (by omega)
                · (simp -implicitDefEqProofs only [go_sem, iA, w3]; repeat (refine GO ?_; simp -implicitDefEqProofs only [go_sem, iA, w3]))
                  exact id
            · have h4 : i = 0 := by simp at h4; omega
              (simp -implicitDefEqProofs only [go_sem, w3]; repeat (refine GO ?_; simp -implicitDefEqProofs only [go_sem, w3]))
              refine BACK.mk ⟨i + 1, by omega, fun j hj hji => ?_⟩ [] rfl rfl (by show z.length - (i + 1) < z.length - i; omega) ?_
              · have e : j = i := by omega
                subst e; exact ⟨hok, h2, fun h0 => absurd h0 (by omega)⟩
              · (simp -implicitDefEqProofs only [go_sem, iA, w3]; repeat (refine GO ?_; simp -implicitDefEqProofs only [go_sem, iA, w3]))
                exact id
    · have h : i = z.length := by simp at h; omega
      (simp -implicitDefEqProofs only [go_sem]; repeat (refine GO ?_; simp -implicitDefEqProofs only [go_sem]))
      exact ⟨true, rfl, fun _ j hj => hg j hj (by omega), fun _ => rfl⟩
end Yt
namespace Yt
open Go Go.Vc Go.Proofs
set_option maxRecDepth 10000
set_option maxHeartbeats 4000000
set_option linter.unusedSimpArgs false
set_option linter.unusedVariables false
def Srt (z : List It) : Prop := z.Pairwise fun a b => cI a b ≤ 0
theorem Srt.sr {z : List It} (h : Srt z) : SR cI z 0 z.length := by
  intro i j _ hij hj u v hu hv
  have hi : i < z.length := by omega
  rw [List.getElem?_eq_getElem hi] at hu
  rw [List.getElem?_eq_getElem hj] at hv
  cases hu; cases hv
  exact List.pairwise_iff_getElem.1 h i j hi hj hij
theorem cI_le_trans {a b c : It} (h : cI a b ≤ 0) (g : cI b c ≤ 0) : cI a c ≤ 0 := cmp_cI.trans _ _ _ h g
theorem cI_tot {a b : It} (h : ¬ cI a b ≤ 0) : cI b a ≤ 0 := by
  have := cI_neg a b
  omega
structure Mg (z o a b : List It) : Prop where
  perm : (o ++ a ++ b).Perm z
  so : Srt o
  sa : Srt a
  sb : Srt b
  la : ∀ x ∈ o, ∀ y ∈ a, cI x y ≤ 0
  lb : ∀ x ∈ o, ∀ y ∈ b, cI x y ≤ 0
theorem Mg.left {z o b : List It} {x : It} {a : List It} (h : Mg z o (x :: a) b) (hb : ∀ y ∈ b, cI x y ≤ 0) : Mg z (o ++ [x]) a b := by
  obtain ⟨h1, h2, h3, h4, h5, h6⟩ := h
  have h3 := List.pairwise_cons.1 h3
  refine ⟨by simpa using h1, ?_, h3.2, h4, ?_, ?_⟩
  · refine List.pairwise_append.2 ⟨h2, List.pairwise_singleton _ _, fun u hu v hv => ?_⟩
    rw [List.mem_singleton] at hv; subst hv
    exact h5 u hu v (by simp)
  · intro u hu v hv
    rcases List.mem_append.1 hu with hu | hu
    · exact h5 u hu v (by simp [hv])
    · rw [List.mem_singleton] at hu; subst hu; exact h3.1 v hv
  · intro u hu v hv
    rcases List.mem_append.1 hu with hu | hu
    · exact h6 u hu v hv
    · rw [List.mem_singleton] at hu; subst hu; exact hb v hv
theorem Mg.swap {z o a b : List It} (h : Mg z o a b) : Mg z o b a := by
  obtain ⟨h1, h2, h3, h4, h5, h6⟩ := h
  refine ⟨List.Perm.trans ?_ h1, h2, h4, h3, h6, h5⟩
  rw [List.append_assoc, List.append_assoc]
  exact List.Perm.append_left o List.perm_append_comm
theorem Mg.done {z o a b : List It} (h : Mg z o a b) (hn : a = [] ∨ b = []) : (o ++ a ++ b).Perm z ∧ Srt (o ++ a ++ b) := by
  obtain ⟨h1, h2, h3, h4, h5, h6⟩ := h
  refine ⟨h1, ?_⟩
  refine List.pairwise_append.2 ⟨List.pairwise_append.2 ⟨h2, h3, h5⟩, h4, fun u hu v hv => ?_⟩
  rcases hn with rfl | rfl
  · rw [List.append_nil] at hu; exact h6 u hu v hv
  · cases hv
theorem s54 : ∀ (n : Nat) (z : List It), z.length ≤ n → z.length ≤ 1048576 → (∀ t ∈ z, t.row.length < 4611686018427387904) → Spec0 Try.prog 37 [setA z] (fun r => ∃ y, r = setA y ∧ y.Perm z ∧ Srt y) := by
  intro n
  induction n with
  | zero =>
    intro z hz hl hr
    have : z = [] := List.eq_nil_of_length_eq_zero (by omega)
    subst this
    refine spec0_of_vc tabOk elems ord37 Try.func37 rfl (rl := [.tmp 2]) rfl (by kernel_rfl) rfl ?_
    (simp -implicitDefEqProofs only [go_sem, setA]; repeat (refine GO ?_; simp -implicitDefEqProofs only [go_sem, setA]))
    refine VIF.split (fun _ => ?_) (fun h => absurd h (by decide))
    (simp -implicitDefEqProofs only [go_sem, setA]; repeat (refine GO ?_; simp -implicitDefEqProofs only [go_sem, setA]))
    exact ⟨[], rfl, .refl _, .nil⟩
  | succ n ih =>
    intro z hz hl hr
    refine spec0_of_vc tabOk elems ord37 Try.func37 rfl (rl := [.tmp 2]) rfl (by kernel_rfl) rfl ?_
    (simp -implicitDefEqProofs only [go_sem, setA]; repeat (refine GO ?_; simp -implicitDefEqProofs only [go_sem, setA]))
    refine VIF.split (fun h => ?_) (fun h => ?_)
    · have h : z.length < 2 := by simp at h; omega
      (simp -implicitDefEqProofs only [go_sem, setA]; repeat (refine GO ?_; simp -implicitDefEqProofs only [go_sem, setA]))
      refine ⟨z, rfl, .refl _, ?_⟩
      match z, h with
      | [], _ => exact .nil
      | [x], _ => exact List.pairwise_singleton _ _
    · have h : 2 ≤ z.length := by simp at h; omega
      have w1 : (z.length : Int).tdiv 2 = ((z.length / 2 : Nat) : Int) := by
        rw [Int.tdiv_eq_ediv_of_nonneg (by omega)]; rfl
      have w2 : IntKind.i64.wrap ((z.length / 2 : Nat) : Int) = ((z.length / 2 : Nat) : Int) := by rw [wrap_i64] <;> omega
      have i0 : Int.toNat 0 = 0 := rfl
      have m1 : (z.map It.c).take (z.length / 2) = (z.take (z.length / 2)).map It.c := List.map_take.symm
      have m2 : ((z.map It.c).take z.length).drop (z.length / 2) = (z.drop (z.length / 2)).map It.c := by
        rw [List.take_of_length_le (by simp), List.map_drop]
      (simp -implicitDefEqProofs only [go_sem, w1, w2, i0, m1, m2]; repeat (refine GO ?_; simp -implicitDefEqProofs only [go_sem, w1, w2, i0, m1, m2]))
      refine ⟨by decide, by omega, by decide, by omega, ?_⟩
      refine .pure _ (ih (z.take (z.length / 2)) (by rw [List.length_take]; omega) (by rw [List.length_take]; omega) (fun t ht => hr t (List.mem_of_mem_take ht))) rfl fun q hq _ => ?_
      obtain ⟨a, rfl, pa, sa⟩ := hq
      (simp -implicitDefEqProofs only [go_sem, w1, w2, i0, m1, m2]; repeat (refine GO ?_; simp -implicitDefEqProofs only [go_sem, w1, w2, i0, m1, m2]))
      refine .pure _ (ih (z.drop (z.length / 2)) (by rw [List.length_drop]; omega) (by rw [List.length_drop]; omega) (fun t ht => hr t (List.mem_of_mem_drop ht))) rfl fun q hq _ => ?_
      obtain ⟨b, rfl, pb, sb⟩ := hq
      have start : Mg z [] a b := ⟨by
        rw [List.nil_append]
        exact (pa.append pb).trans (by rw [List.take_append_drop]), .nil, sa, sb, by simp, by simp⟩
      (simp -implicitDefEqProofs only [go_sem]; repeat (refine GO ?_; simp -implicitDefEqProofs only [go_sem]))
      refine LOOP.join (ι := { p : List It × List It × List It // Mg z p.1 p.2.1 p.2.2 ∧ (p.2.1 = [] ∨ p.2.2 = []) }) (fun p => mkS [(3, setA p.1.2.1), (4, setA p.1.2.2), (5, .rf 1000 0 p.1.1.length)] [(1000, so p.1.1)] [1000]) ?_ (fun p => ?_)
      · refine LOOP.mk (ι := { p : List It × List It × List It // Mg z p.1 p.2.1 p.2.2 }) (fun p => mkS [(3, setA p.1.2.1), (4, setA p.1.2.2), (5, .rf 1000 0 p.1.1.length)] [(1000, so p.1.1)] [1000])
          (fun p => p.1.2.1.length + p.1.2.2.length) ⟨([], a, b), start⟩ [(1000, none)] rfl rfl ?_ (fun p => ?_)
        · (simp -implicitDefEqProofs only [go_sem, so, setA]; repeat (refine GO ?_; simp -implicitDefEqProofs only [go_sem, so, setA]))
          exact ⟨id, rfl⟩
        · obtain ⟨⟨o, a, b⟩, mg⟩ := p
          simp only at mg
          have hlen : o.length + a.length + b.length = z.length := by have := mg.perm.length_eq; simp only [List.length_append] at this; exact this
          have hra : ∀ t ∈ a, t.row.length < 4611686018427387904 := fun t ht => hr t (mg.perm.mem_iff.1 (by simp [ht]))
          have hrb : ∀ t ∈ b, t.row.length < 4611686018427387904 := fun t ht => hr t (mg.perm.mem_iff.1 (by simp [ht]))
          (simp -implicitDefEqProofs only [go_sem, so, setA]; repeat (refine GO ?_; simp -implicitDefEqProofs only [go_sem, so, setA]))
          refine VIF.split (fun h1 => ?_) (fun h1 => ?_)
          · (simp -implicitDefEqProofs only [go_sem]; repeat (refine GO ?_; simp -implicitDefEqProofs only [go_sem]))
            refine VIF.split (fun h2 => ?_) (fun h2 => ?_)
            · match a, b, mg, hra, hrb, hlen, h1, h2 with
              | [], _, _, _, _, _, h1, _ => simp at h1
              | _ :: _, [], _, _, _, _, _, h2 => simp at h2
              | x :: a, y :: b, mg, hra, hrb, hlen, _, _ =>
                simp only [List.length_cons] at hlen
                (simp -implicitDefEqProofs only [go_sem]; repeat (refine GO ?_; simp -implicitDefEqProofs only [go_sem]))
                refine ⟨by omega, EL.map (show Int.toNat 0 < (x :: a).length by simp) ?_⟩
                (simp -implicitDefEqProofs only [go_sem, It.c]; repeat (refine GO ?_; simp -implicitDefEqProofs only [go_sem, It.c]))
                refine ⟨by omega, EL.map (show Int.toNat 0 < (y :: b).length by simp) ?_⟩
                (simp -implicitDefEqProofs only [go_sem, It.c]; repeat (refine GO ?_; simp -implicitDefEqProofs only [go_sem, It.c]))
                refine .pure _ (s55 x.row y.row (hra x (by simp)) (hrb y (by simp))) rfl fun q hq _ => ?_
                subst hq
                (simp -implicitDefEqProofs only [go_sem, iA]; repeat (refine GO ?_; simp -implicitDefEqProofs only [go_sem, iA]))
                refine VIF.split (fun h3 => ?_) (fun h3 => ?_)
                · have h3 : cI x y ≤ 0 := by simpa [cI] using h3
                  have mg2 := mg.left fun v hv => by
                    rcases List.mem_cons.1 hv with rfl | hv
                    · exact h3
                    · exact cI_le_trans h3 ((List.pairwise_cons.1 mg.sb).1 v hv)
                  (simp -implicitDefEqProofs only [go_sem]; repeat (refine GO ?_; simp -implicitDefEqProofs only [go_sem]))
                  refine ⟨by omega, EL.map (show Int.toNat 0 < (x :: a).length by simp) ?_⟩
                  (simp -implicitDefEqProofs only [go_sem, It.c]; repeat (refine GO ?_; simp -implicitDefEqProofs only [go_sem, It.c]))
                  refine ⟨by omega, by omega, ?_⟩
                  have e1 : (List.map It.c o).take o.length ++ [It.c x] = List.map It.c (o ++ [x]) := by
                    rw [List.take_of_length_le (by simp), List.map_append]; rfl
                  have e2 : List.drop 1 (List.take (a.length + 1) (List.map It.c (x :: a))) = List.map It.c a := by
                    rw [List.take_of_length_le (by simp)]; rfl
                  refine BACK.mk ⟨(o ++ [x], a, y :: b), mg2⟩ [(1000, some 45)] rfl rfl (by show a.length + (y :: b).length < (x :: a).length + (y :: b).length; simp) ?_
                  (simp -implicitDefEqProofs only [go_sem, so, setA]; repeat (refine GO ?_; simp -implicitDefEqProofs only [go_sem, so, setA]))
                  exact ⟨id, ⟨e2, by simp⟩, .same (so []) _ _ (fun u hu => so_leafy (o ++ [x]) u (by rw [so]; exact e1 ▸ hu)) e1⟩
                · have h3 : ¬ cI x y ≤ 0 := by simp at h3; simp only [cI]; omega
                  have h3 := cI_tot h3
                  have mg2 := (mg.swap.left fun v hv => by
                    rcases List.mem_cons.1 hv with rfl | hv
                    · exact h3
                    · exact cI_le_trans h3 ((List.pairwise_cons.1 mg.sa).1 v hv)).swap
                  (simp -implicitDefEqProofs only [go_sem]; repeat (refine GO ?_; simp -implicitDefEqProofs only [go_sem]))
                  refine ⟨by omega, EL.map (show Int.toNat 0 < (y :: b).length by simp) ?_⟩
                  (simp -implicitDefEqProofs only [go_sem, It.c]; repeat (refine GO ?_; simp -implicitDefEqProofs only [go_sem, It.c]))
                  refine ⟨by omega, by omega, ?_⟩
                  have e1 : (List.map It.c o).take o.length ++ [It.c y] = List.map It.c (o ++ [y]) := by
                    rw [List.take_of_length_le (by simp), List.map_append]; rfl
                  have e2 : List.drop 1 (List.take (b.length + 1) (List.map It.c (y :: b))) = List.map It.c b := by
                    rw [List.take_of_length_le (by simp)]; rfl
                  refine BACK.mk ⟨(o ++ [y], x :: a, b), mg2⟩ [(1000, some 53)] rfl rfl (by show (x :: a).length + b.length < (x :: a).length + (y :: b).length; simp) ?_
                  (simp -implicitDefEqProofs only [go_sem, so, setA]; repeat (refine GO ?_; simp -implicitDefEqProofs only [go_sem, so, setA]))
                  exact ⟨id, ⟨e2, by simp⟩, .same (so []) _ _ (fun u hu => so_leafy (o ++ [y]) u (by rw [so]; exact e1 ▸ hu)) e1⟩
            · have h2 : b = [] := by simpa using h2
              subst h2
              (simp -implicitDefEqProofs only [go_sem]; repeat (refine GO ?_; simp -implicitDefEqProofs only [go_sem]))
              refine JB.mk ⟨(o, a, []), mg, .inr rfl⟩ [(1000, some 1000)] rfl rfl ?_
              (simp -implicitDefEqProofs only [go_sem, so, setA]; repeat (refine GO ?_; simp -implicitDefEqProofs only [go_sem, so, setA]))
              exact ⟨id, .same (so o) _ _ (so_leafy o) rfl⟩
          · have h1 : a = [] := by simpa using h1
            subst h1
            (simp -implicitDefEqProofs only [go_sem]; repeat (refine GO ?_; simp -implicitDefEqProofs only [go_sem]))
            refine JB.mk ⟨(o, [], b), mg, .inl rfl⟩ [(1000, some 1000)] rfl rfl ?_
            (simp -implicitDefEqProofs only [go_sem, so, setA]; repeat (refine GO ?_; simp -implicitDefEqProofs only [go_sem, so, setA]))
            exact ⟨id, .same (so o) _ _ (so_leafy o) rfl⟩
      · obtain ⟨⟨o, a, b⟩, mg, hn⟩ := p
        simp only at mg hn
        have hlen : o.length + a.length + b.length = z.length := by have := mg.perm.length_eq; simp only [List.length_append] at this; exact this
        obtain ⟨hp, hs⟩ := mg.done hn
        simp -implicitDefEqProofs only [go_sem, so, setA]
        refine GO ?_
        simp -implicitDefEqProofs only [go_sem, so, setA]
        refine ⟨by omega, by omega, ?_⟩
        have e1 : List.take (o.length + a.length) (List.take o.length (List.map It.c o) ++ List.map It.c a) ++ List.map It.c b = List.map It.c (o ++ a ++ b) := by
          rw [List.take_of_length_le (l := List.map It.c o) (by simp), ← List.map_append, List.take_of_length_le (by simp), ← List.map_append]
        refine TO [] [(2, setA (o ++ a ++ b))] [] [] rfl ?_ ?_
        · (simp -implicitDefEqProofs only [go_sem, setA]; repeat (refine GO ?_; simp -implicitDefEqProofs only [go_sem, setA]))
          refine ⟨id, by decide, _, rfl, ?_, rfl, ?_⟩
          · rw [e1]; exact so_leafy (o ++ a ++ b)
          · rw [e1]; exact List.take_of_length_le (by simp; omega)
        (simp -implicitDefEqProofs only [go_sem, setA]; repeat (refine GO ?_; simp -implicitDefEqProofs only [go_sem, setA]))
        exact ⟨o ++ a ++ b, rfl, hp, hs⟩
end Yt
namespace Yt
open Go Go.Vc Go.Proofs
set_option maxRecDepth 10000
set_option maxHeartbeats 8000000
set_option linter.unusedSimpArgs false
set_option linter.unusedVariables false
theorem and_mask32 (x : Int) : bitsOp .and .i64 x 4294967295 = x % 4294967296 := by
  simp only [bitsOp]
  have h1 : (BitVec.ofInt IntKind.i64.bits x &&& BitVec.ofInt IntKind.i64.bits 4294967295).toNat = (x % 4294967296).toNat := by
    rw [BitVec.toNat_and]
    have e1 : (BitVec.ofInt IntKind.i64.bits 4294967295).toNat = 2 ^ 32 - 1 := by decide
    rw [e1, Nat.and_two_pow_sub_one_eq_mod]
    simp only [BitVec.toNat_ofInt, IntKind.bits]
    omega
  rw [h1, wrap_i64] <;> omega
theorem shr32 (x : Int) : x / 2 ^ min (Int.toNat 32) 64 = x / 4294967296 := by
  have h2 : (2 : Int) ^ min (Int.toNat 32) 64 = 4294967296 := by decide
  rw [h2]
theorem shl32 (x : Int) : x * 2 ^ min (Int.toNat 32) 64 = x * 4294967296 := by
  have h2 : (2 : Int) ^ min (Int.toNat 32) 64 = 4294967296 := by decide
  rw [h2]
structure TJ (y : List It) (off i : Nat) (h l : Int) : Prop where
  le : off + i ≤ y.length
  same : ∀ j (hj : j < y.length) (h0 : off < y.length), off ≤ j → j < off + i → cI y[j] y[off] = 0
  sum : h * 4294967296 + l = sumW ((y.drop off).take i)
  hb : -((i : Int) * 33554432) ≤ h ∧ h ≤ (i : Int) * 33554432
  lb : 0 ≤ l ∧ l ≤ (i : Int) * 4294967296
theorem TJ.start {y : List It} {off : Nat} (h : off ≤ y.length) : TJ y off 0 0 0 :=
  ⟨h, fun j _ _ h1 h2 => by omega, by simp [sumW], by omega, by omega⟩
theorem TJ.step {y : List It} {off i : Nat} {h l : Int} (t : TJ y off i h l) (hi : off + i < y.length) (e : ∀ h0 : off < y.length, cI y[off + i] y[off] = 0) (hw : okW y[off + i].w = true) :
    TJ y off (i + 1) (h + y[off + i].w / 4294967296) (l + y[off + i].w % 4294967296) := by
  have hw := okW_le hw
  obtain ⟨t1, t2, t3, t4, t5⟩ := t
  refine ⟨by omega, fun j hj h0 h1 h2 => ?_, ?_, by omega, by omega⟩
  · by_cases hji : j = off + i
    · subst hji; exact e h0
    · exact t2 j hj h0 h1 (by omega)
  · have hd : i < (y.drop off).length := by rw [List.length_drop]; omega
    rw [List.take_succ_eq_append_getElem hd, sumW_append, ← t3]
    simp only [sumW, List.getElem_drop]
    omega
theorem TJ.run {y : List It} {off i : Nat} {h l : Int} (t : TJ y off i h l) (h0 : off < y.length) (hn : ∀ hi : off + i < y.length, cI y[off + i] y[off] ≠ 0) : Run y off (off + i) := by
  refine ⟨?_, t.le, t.same, fun hi h0 => hn hi⟩
  apply Classical.byContradiction
  intro hlt
  have : i = 0 := by omega
  subst this
  exact hn h0 (cI_eq.2 rfl)
structure OS (y : List It) (off : Nat) (out : List It) (ov : Bool) : Prop where
  le : off ≤ y.length
  len : out.length ≤ off
  gi : ov = false → GI y off out
  bad : ov = true → ∃ r, okW (tot r y) = false
theorem OS.over {y out : List It} {off e : Nat} {ov : Bool} (o : OS y off out ov) (hs : SR cI y 0 y.length) (r : Run y off e) (h0 : off < y.length) (hb : okW (sumW ((y.drop off).take (e - off))) = false) : OS y e out true := by
  refine ⟨r.le, by have := r.lt; have := o.len; omega, fun h => absurd h (by decide), fun _ => ?_⟩
  cases ov with
  | true => exact o.bad rfl
  | false => exact ⟨y[off].row, by rw [(o.gi rfl).total hs r h0]; exact hb⟩
theorem OS.fine {y out : List It} {off e : Nat} {ov : Bool} (o : OS y off out ov) (hs : SR cI y 0 y.length) (r : Run y off e) (h0 : off < y.length) (hok : okW (sumW ((y.drop off).take (e - off))) = true) :
    OS y e (if sumW ((y.drop off).take (e - off)) = 0 then out else out ++ [⟨y[off].row, sumW ((y.drop off).take (e - off))⟩]) ov := by
  refine ⟨r.le, ?_, fun h => (o.gi h).step hs r h0 hok, o.bad⟩
  have := r.lt; have := o.len
  split
  · omega
  · simp; omega
theorem s26 (z : List It) (hl : z.length ≤ 1048576) (hr : ∀ t ∈ z, t.row.length < 1073741824) :
    Spec1 Try.prog 8 [setA z] (fun r o => ∃ (out : List It) (err : Int), r = .tu [.rf 0 0 out.length, iA err] ∧ o = so out ∧ MakeR z out err) := by
  refine spec1_of_vc tabOk elems ord8 Try.func8 rfl (rl := [.tmp 2, .tmp 3]) rfl (by kernel_rfl) rfl ?_
  (simp -implicitDefEqProofs only [go_sem, setA]; repeat (refine GO ?_; simp -implicitDefEqProofs only [go_sem, setA]))
  refine LOOP.mk (ι := { i : Nat // i ≤ z.length ∧ ∀ j (h : j < z.length), j < i → okI z[j] = true }) (fun p => mkS [(0, setA z), (4, iA p.1)] [] [])
    (fun p => z.length - p.1) ⟨0, Nat.zero_le _, fun j _ h => absurd h (Nat.not_lt_zero _)⟩ [] rfl rfl ?_ (fun p => ?_)
  · (simp -implicitDefEqProofs only [go_sem, setA, iA]; repeat (refine GO ?_; simp -implicitDefEqProofs only [go_sem, setA, iA]))
    exact ⟨id, rfl⟩
  · obtain ⟨i, hi, hg⟩ := p
    (simp -implicitDefEqProofs only [go_sem, setA, iA]; repeat (refine GO ?_; simp -implicitDefEqProofs only [go_sem, setA, iA]))
    refine VIF.split (fun h => ?_) (fun h => ?_)
    · have h : i < z.length := by simpa using h
      have w3 := wrap_add1 (show i < 4611686018427387904 by omega)
      have bad : okI z[i] = false → (z.any fun t => !okI t) = true := fun hn => by
        rw [List.any_eq_true]; exact ⟨_, List.getElem_mem h, by simp [hn]⟩
      (simp -implicitDefEqProofs only [go_sem]; repeat (refine GO ?_; simp -implicitDefEqProofs only [go_sem]))
      refine EL.map h ?_
      (simp -implicitDefEqProofs only [go_sem, It.c]; repeat (refine GO ?_; simp -implicitDefEqProofs only [go_sem, It.c]))
      refine .pure _ (s17 z[i].row (by have := hr _ (List.getElem_mem h); omega)) rfl fun q hq _ => ?_
      subst hq
      (simp -implicitDefEqProofs only [go_sem, iA]; repeat (refine GO ?_; simp -implicitDefEqProofs only [go_sem, iA]))
      refine VIF.split (fun h1 => ?_) (fun h1 => ?_)
      · have h1 : okR z[i].row ≠ 0 := by simpa using h1
        (simp -implicitDefEqProofs only [go_sem]; repeat (refine GO ?_; simp -implicitDefEqProofs only [go_sem]))
        refine FINmk [(0, none)] [(2, .rf 0 0 0), (3, iA 1)] [(0, so [])] [0] rfl ?_ ?_
        · (simp -implicitDefEqProofs only [go_sem, iA]; repeat (refine GO ?_; simp -implicitDefEqProofs only [go_sem, iA]))
          simp [so]
        · exact ⟨so [], ⟨⟨[], 1, rfl, rfl, .inl ⟨bad (by simp [okI, h1]), rfl, rfl⟩⟩, rfl⟩, so_leafy [], rfl⟩
      · have h1 : okR z[i].row = 0 := by simpa using h1
        (simp -implicitDefEqProofs only [go_sem]; repeat (refine GO ?_; simp -implicitDefEqProofs only [go_sem]))
        refine EL.map h ?_
        (simp -implicitDefEqProofs only [go_sem, It.c, iA]; repeat (refine GO ?_; simp -implicitDefEqProofs only [go_sem, It.c, iA]))
        refine .pure _ (s53 z[i].w (-72057594037927936) 72057594037927936) rfl fun q hq _ => ?_
        subst hq
        (simp -implicitDefEqProofs only [go_sem, bA]; repeat (refine GO ?_; simp -implicitDefEqProofs only [go_sem, bA]))
        refine VIF.split (fun h3 => ?_) (fun h3 => ?_)
        · have h3 : okW z[i].w = false := by simpa [okW] using h3
          (simp -implicitDefEqProofs only [go_sem]; repeat (refine GO ?_; simp -implicitDefEqProofs only [go_sem]))
          refine FINmk [(0, none)] [(2, .rf 0 0 0), (3, iA 1)] [(0, so [])] [0] rfl ?_ ?_
          · (simp -implicitDefEqProofs only [go_sem, iA]; repeat (refine GO ?_; simp -implicitDefEqProofs only [go_sem, iA]))
            simp [so]
          · exact ⟨so [], ⟨⟨[], 1, rfl, rfl, .inl ⟨bad (by simp [okI, h3]), rfl, rfl⟩⟩, rfl⟩, so_leafy [], rfl⟩
        · have h3 : okW z[i].w = true := by simpa [okW] using h3
          (simp -implicitDefEqProofs only [go_sem, w3]; repeat (refine GO ?_; simp -implicitDefEqProofs only [go_sem, w3]))
          refine BACK.mk ⟨i + 1, by omega, fun j hj hji => ?_⟩ [] rfl rfl (by show z.length - (i + 1) < z.length - i; omega) ?_
          · by_cases e : j = i
            · subst e; simp [okI, h1, h3]
            · exact hg j hj (by omega)
          · (simp -implicitDefEqProofs only [go_sem, setA, iA, w3]; repeat (refine GO ?_; simp -implicitDefEqProofs only [go_sem, setA, iA, w3]))
            exact id
    · have h : i = z.length := by simp at h; omega
      have hbad : (z.any fun t => !okI t) = false := by
        rw [List.any_eq_false]; intro t ht
        obtain ⟨j, hj, rfl⟩ := List.mem_iff_getElem.1 ht
        simp [hg j hj (by omega)]
      (simp -implicitDefEqProofs only [go_sem]; repeat (refine GO ?_; simp -implicitDefEqProofs only [go_sem]))
      refine .pure _ (s54 _ z (Nat.le_refl _) hl (fun t ht => by have := hr t ht; omega)) rfl fun q hq _ => ?_
      obtain ⟨y, rfl, hp, hsr⟩ := hq
      have hs := hsr.sr
      have hlen := hp.length_eq
      have hry : ∀ t ∈ y, t.row.length < 1073741824 := fun t ht => hr t (hp.mem_iff.1 ht)
      have hok : ∀ t ∈ y, okI t = true := fun t ht => by
        have h1 : ∀ u ∈ z, okI u = true := by simpa using hbad
        exact h1 t (hp.mem_iff.1 ht)
      (simp -implicitDefEqProofs only [go_sem, setA]; repeat (refine GO ?_; simp -implicitDefEqProofs only [go_sem, setA]))
      refine LOOP.mk (ι := { p : Nat × List It × Bool // OS y p.1 p.2.1 p.2.2 }) (fun p => mkS [(5, setA y), (6, .rf 1000 0 p.1.2.1.length), (7, bA p.1.2.2), (8, iA p.1.1)] [(1000, so p.1.2.1)] [1000])
        (fun p => y.length - p.1.1) ⟨(0, [], false), Nat.zero_le _, Nat.le_refl _, fun _ => .start y, fun h => absurd h (by decide)⟩ [(1000, none)] rfl rfl ?_ (fun p => ?_)
      · (simp -implicitDefEqProofs only [go_sem, setA, bA, iA, so]; repeat (refine GO ?_; simp -implicitDefEqProofs only [go_sem, setA, bA, iA, so]))
        exact ⟨id, rfl, rfl⟩
      · obtain ⟨⟨off, out, ov⟩, os⟩ := p
        have hle := os.le
        have hol := os.len
        simp only at hle hol
        (simp -implicitDefEqProofs only [go_sem, setA, bA, iA, so]; repeat (refine GO ?_; simp -implicitDefEqProofs only [go_sem, setA, bA, iA, so]))
        refine VIF.split (fun h1 => ?_) (fun h1 => ?_)
        · have h0 : off < y.length := by simpa using h1
          (simp -implicitDefEqProofs only [go_sem]; repeat (refine GO ?_; simp -implicitDefEqProofs only [go_sem]))
          refine LOOP.join (ι := { q : Nat × Int × Int // TJ y off q.1 q.2.1 q.2.2 ∧ Run y off (off + q.1) })
            (fun q => mkS [(5, setA y), (6, .rf 1000 0 out.length), (7, bA ov), (8, iA off), (9, iA q.1.2.1), (10, iA q.1.2.2), (11, iA (off + q.1.1 : Nat))] [(1000, so out)] [1000]) ?_ (fun q => ?_)
          · refine LOOP.mk (ι := { q : Nat × Int × Int // TJ y off q.1 q.2.1 q.2.2 })
              (fun q => mkS [(5, setA y), (6, .rf 1000 0 out.length), (7, bA ov), (8, iA off), (9, iA q.1.2.1), (10, iA q.1.2.2), (11, iA (off + q.1.1 : Nat))] [(1000, so out)] [1000])
              (fun q => y.length - off - q.1.1) ⟨(0, 0, 0), .start hle⟩ [(1000, some 1000)] rfl rfl ?_ (fun q => ?_)
            · (simp -implicitDefEqProofs only [go_sem, setA, bA, iA, so]; repeat (refine GO ?_; simp -implicitDefEqProofs only [go_sem, setA, bA, iA, so]))
              exact ⟨id, .same (so out) _ _ (so_leafy out) rfl⟩
            · obtain ⟨⟨i, h, l⟩, ti⟩ := q
              simp only at ti
              have til := ti.le
              (simp -implicitDefEqProofs only [go_sem, setA, bA, iA, so]; repeat (refine GO ?_; simp -implicitDefEqProofs only [go_sem, setA, bA, iA, so]))
              refine VIF.split (fun h2 => ?_) (fun h2 => ?_)
              · have hi : off + i < y.length := by simp at h2; omega
                (simp -implicitDefEqProofs only [go_sem]; repeat (refine GO ?_; simp -implicitDefEqProofs only [go_sem]))
                refine EL.map hi ?_
                (simp -implicitDefEqProofs only [go_sem, It.c]; repeat (refine GO ?_; simp -implicitDefEqProofs only [go_sem, It.c]))
                refine EL.map h0 ?_
                (simp -implicitDefEqProofs only [go_sem, It.c]; repeat (refine GO ?_; simp -implicitDefEqProofs only [go_sem, It.c]))
                refine .pure _ (s55 y[off + i].row y[off].row (by have := hry _ (List.getElem_mem hi); omega) (by have := hry _ (List.getElem_mem h0); omega)) rfl fun q hq _ => ?_
                subst hq
                (simp -implicitDefEqProofs only [go_sem, iA]; repeat (refine GO ?_; simp -implicitDefEqProofs only [go_sem, iA]))
                refine VIF.split (fun h3 => ?_) (fun h3 => ?_)
                · have h3 : cI y[off + i] y[off] = 0 := by simpa [cI] using h3
                  have hbb : i ≤ 1048576 := by omega
                  have hb1 := ti.hb
                  have hb2 := ti.lb
                  have hoi := hok y[off + i] (List.getElem_mem hi)
                  have hwi : okW y[off + i].w = true := by
                    simp only [okI, Bool.and_eq_true] at hoi; exact hoi.2
                  have hwl := okW_le hwi
                  have w1 : IntKind.i64.wrap (h + y[off + i].w / 4294967296) = h + y[off + i].w / 4294967296 := by rw [wrap_i64] <;> omega
                  have w2 : IntKind.i64.wrap (l + y[off + i].w % 4294967296) = l + y[off + i].w % 4294967296 := by rw [wrap_i64] <;> omega
                  have w3 := wrap_add1 (show off + i < 4611686018427387904 by omega)
                  (simp -implicitDefEqProofs only [go_sem]; repeat (refine GO ?_; simp -implicitDefEqProofs only [go_sem]))
                  refine EL.map hi ?_
                  (simp -implicitDefEqProofs only [go_sem, It.c, iA, shr32]; repeat (refine GO ?_; simp -implicitDefEqProofs only [go_sem, It.c, iA, shr32]))
                  refine ⟨by decide, EL.map hi ?_⟩
                  (simp -implicitDefEqProofs only [go_sem, It.c, iA, and_mask32, shr32, w1, w2, w3]; repeat (refine GO ?_; simp -implicitDefEqProofs only [go_sem, It.c, iA, and_mask32, shr32, w1, w2, w3]))
                  refine BACK.mk ⟨(i + 1, h + y[off + i].w / 4294967296, l + y[off + i].w % 4294967296), ti.step hi (fun _ => h3) hwi⟩ [(1000, some 1000)] rfl rfl (by show y.length - off - (i + 1) < y.length - off - i; omega) ?_
                  (simp -implicitDefEqProofs only [go_sem, setA, bA, iA, so, w1, w2, w3]; repeat (refine GO ?_; simp -implicitDefEqProofs only [go_sem, setA, bA, iA, so, w1, w2, w3]))
                  exact ⟨id, rfl, .same (so out) _ _ (so_leafy out) rfl⟩
                · have h3 : cI y[off + i] y[off] ≠ 0 := by simpa [cI] using h3
                  (simp -implicitDefEqProofs only [go_sem]; repeat (refine GO ?_; simp -implicitDefEqProofs only [go_sem]))
                  refine JB.mk ⟨(i, h, l), ti, ti.run h0 (fun hi => h3)⟩ [(1000, some 1000)] rfl rfl ?_
                  (simp -implicitDefEqProofs only [go_sem, setA, bA, iA, so]; repeat (refine GO ?_; simp -implicitDefEqProofs only [go_sem, setA, bA, iA, so]))
                  exact ⟨id, .same (so out) _ _ (so_leafy out) rfl⟩
              · have hi : off + i = y.length := by simp at h2; omega
                (simp -implicitDefEqProofs only [go_sem]; repeat (refine GO ?_; simp -implicitDefEqProofs only [go_sem]))
                refine JB.mk ⟨(i, h, l), ti, ti.run h0 (fun hi => by omega)⟩ [(1000, some 1000)] rfl rfl ?_
                (simp -implicitDefEqProofs only [go_sem, setA, bA, iA, so]; repeat (refine GO ?_; simp -implicitDefEqProofs only [go_sem, setA, bA, iA, so]))
                exact ⟨id, .same (so out) _ _ (so_leafy out) rfl⟩
          · obtain ⟨⟨i, h, l⟩, ti, ru⟩ := q
            simp only at ti ru
            have hbb : i ≤ 1048576 := by have := ti.le; omega
            have hb1 := ti.hb
            have hb2 := ti.lb
            have hoff : off + i - off = i := by omega
            have hsum := ti.sum
            have hlt2 := ru.lt
            have w1 : IntKind.i64.wrap (h + l / 4294967296) = h + l / 4294967296 := by rw [wrap_i64] <;> omega
            have ov1 : okW (h * 4294967296 + l) = false → OS y (off + i) out true := fun hb => os.over hs ru h0 (by rw [hoff, ← hsum]; exact hb)
            have ok1 := fun hb : okW (h * 4294967296 + l) = true => os.fine hs ru h0 (by rw [hoff, ← hsum]; exact hb)
            rw [hoff, ← hsum] at ok1
            (simp -implicitDefEqProofs only [go_sem, setA, bA, iA, so, shr32, and_mask32, w1]; repeat (refine GO ?_; simp -implicitDefEqProofs only [go_sem, setA, bA, iA, so, shr32, and_mask32, w1]))
            refine ⟨by decide, GO ?_⟩
            (simp -implicitDefEqProofs only [go_sem]; repeat (refine GO ?_; simp -implicitDefEqProofs only [go_sem]))
            refine .pure _ (s53 (h + l / 4294967296) (-33554432) 33554432) rfl fun q hq _ => ?_
            subst hq
            (simp -implicitDefEqProofs only [go_sem, bA]; repeat (refine GO ?_; simp -implicitDefEqProofs only [go_sem, bA]))
            refine VIF.split (fun h3 => ?_) (fun h3 => ?_)
            · have hb : okW (h * 4294967296 + l) = false := by simp [inB] at h3; simp [okW, inB]; omega
              (simp -implicitDefEqProofs only [go_sem]; repeat (refine GO ?_; simp -implicitDefEqProofs only [go_sem]))
              refine BACK.mk ⟨(off + i, out, true), ov1 hb⟩ [(1000, some 1000)] rfl rfl (by show y.length - (off + i) < y.length - off; omega) ?_
              (simp -implicitDefEqProofs only [go_sem, setA, bA, iA, so]; repeat (refine GO ?_; simp -implicitDefEqProofs only [go_sem, setA, bA, iA, so]))
              exact ⟨id, .same (so out) _ _ (so_leafy out) rfl⟩
            · have hin : -33554432 ≤ h + l / 4294967296 ∧ h + l / 4294967296 ≤ 33554432 := by simpa [inB] using h3
              have w2 : IntKind.i64.wrap ((h + l / 4294967296) * 4294967296) = (h + l / 4294967296) * 4294967296 := by rw [wrap_i64] <;> omega
              have w3 : IntKind.i64.wrap ((h + l / 4294967296) * 4294967296 + l % 4294967296) = h * 4294967296 + l := by rw [wrap_i64] <;> omega
              (simp -implicitDefEqProofs only [go_sem, shl32, w2, w3]; repeat (refine GO ?_; simp -implicitDefEqProofs only [go_sem, shl32, w2, w3]))
              refine ⟨by decide, GO ?_⟩
              (simp -implicitDefEqProofs only [go_sem]; repeat (refine GO ?_; simp -implicitDefEqProofs only [go_sem]))
              refine .pure _ (s53 (h * 4294967296 + l) (-72057594037927936) 72057594037927936) rfl fun q hq _ => ?_
              subst hq
              (simp -implicitDefEqProofs only [go_sem, bA]; repeat (refine GO ?_; simp -implicitDefEqProofs only [go_sem, bA]))
              refine VIF.split (fun h4 => ?_) (fun h4 => ?_)
              · have hb : okW (h * 4294967296 + l) = false := by simpa [okW] using h4
                (simp -implicitDefEqProofs only [go_sem]; repeat (refine GO ?_; simp -implicitDefEqProofs only [go_sem]))
                refine BACK.mk ⟨(off + i, out, true), ov1 hb⟩ [(1000, some 1000)] rfl rfl (by show y.length - (off + i) < y.length - off; omega) ?_
                (simp -implicitDefEqProofs only [go_sem, setA, bA, iA, so]; repeat (refine GO ?_; simp -implicitDefEqProofs only [go_sem, setA, bA, iA, so]))
                exact ⟨id, .same (so out) _ _ (so_leafy out) rfl⟩
              · have hk : okW (h * 4294967296 + l) = true := by simpa [okW] using h4
                have os2 := ok1 hk
                (simp -implicitDefEqProofs only [go_sem]; repeat (refine GO ?_; simp -implicitDefEqProofs only [go_sem]))
                refine VIF.split (fun h5 => ?_) (fun h5 => ?_)
                · have h5 : h * 4294967296 + l ≠ 0 := by simpa using h5
                  rw [if_neg h5] at os2
                  (simp -implicitDefEqProofs only [go_sem]; repeat (refine GO ?_; simp -implicitDefEqProofs only [go_sem]))
                  refine EL.map h0 ?_
                  (simp -implicitDefEqProofs only [go_sem, It.c]; repeat (refine GO ?_; simp -implicitDefEqProofs only [go_sem, It.c]))
                  refine .make 102 _ (s52 y[off].row (by have := hry _ (List.getElem_mem h0); omega)) rfl (by simp) rfl fun q o hq _ => ?_
                  obtain ⟨rfl, rfl⟩ := hq
                  (simp -implicitDefEqProofs only [go_sem]; repeat (refine GO ?_; simp -implicitDefEqProofs only [go_sem]))
                  refine ⟨by omega, ?_⟩
                  (simp -implicitDefEqProofs only [go_sem]; repeat (refine GO ?_; simp -implicitDefEqProofs only [go_sem]))
                  refine BACK.mk ⟨(off + i, out ++ [⟨y[off].row, h * 4294967296 + l⟩], ov), os2⟩ [(1000, some 106)] rfl rfl (by show y.length - (off + i) < y.length - off; omega) ?_
                  (simp -implicitDefEqProofs only [go_sem, setA, bA, iA, so]; repeat (refine GO ?_; simp -implicitDefEqProofs only [go_sem, setA, bA, iA, so]))
                  refine ⟨id, by simp, ?_⟩
                  rw [List.map_append, show List.take out.length (List.map It.c out) = List.map It.c out from List.take_of_length_le (by simp)]
                  refine Es_snoc (fun x hx a ha => so_leafy out x hx a ha) ?_
                  (simp -implicitDefEqProofs only [go_sem, It.c, rowA, iA]; repeat (refine GO ?_; simp -implicitDefEqProofs only [go_sem, It.c, rowA, iA]))
                  exact ⟨by decide, _, rfl, ro3_leafy _, rfl, List.take_of_length_le (by simp [ro3])⟩
                · have h5 : h * 4294967296 + l = 0 := by simpa using h5
                  rw [if_pos h5] at os2
                  (simp -implicitDefEqProofs only [go_sem]; repeat (refine GO ?_; simp -implicitDefEqProofs only [go_sem]))
                  refine BACK.mk ⟨(off + i, out, ov), os2⟩ [(1000, some 1000)] rfl rfl (by show y.length - (off + i) < y.length - off; omega) ?_
                  (simp -implicitDefEqProofs only [go_sem, setA, bA, iA, so]; repeat (refine GO ?_; simp -implicitDefEqProofs only [go_sem, setA, bA, iA, so]))
                  exact ⟨id, .same (so out) _ _ (so_leafy out) rfl⟩
        · have h1 : off = y.length := by simp at h1; omega
          subst h1
          (simp -implicitDefEqProofs only [go_sem]; repeat (refine GO ?_; simp -implicitDefEqProofs only [go_sem]))
          refine VIF.split (fun h2 => ?_) (fun h2 => ?_)
          · obtain ⟨r, hr2⟩ := os.bad h2
            (simp -implicitDefEqProofs only [go_sem]; repeat (refine GO ?_; simp -implicitDefEqProofs only [go_sem]))
            refine FINmk [(0, none)] [(2, .rf 0 0 0), (3, iA 11)] [(0, so [])] [0] rfl ?_ ?_
            · (simp -implicitDefEqProofs only [go_sem, iA]; repeat (refine GO ?_; simp -implicitDefEqProofs only [go_sem, iA]))
              simp [so]
            · exact ⟨so [], ⟨⟨[], 11, rfl, rfl, .inr (.inl ⟨hbad, rfl, rfl, r, by rw [← tot_perm hp]; exact hr2⟩)⟩, rfl⟩, so_leafy [], rfl⟩
          · have g := os.gi h2
            have hgt := g.tot
            rw [List.take_length] at hgt
            (simp -implicitDefEqProofs only [go_sem]; repeat (refine GO ?_; simp -implicitDefEqProofs only [go_sem]))
            refine FINmk [(0, some 1000)] [(2, .rf 0 0 out.length), (3, iA 0)] [(0, so out)] [0] rfl ?_ ?_
            · (simp -implicitDefEqProofs only [go_sem, iA, so]; repeat (refine GO ?_; simp -implicitDefEqProofs only [go_sem, iA, so]))
              exact .same (so out) _ _ (so_leafy out) rfl
            · refine ⟨so out, ⟨⟨out, 0, rfl, rfl, .inr (.inr ⟨hbad, rfl, g.made, fun r => (hgt r).trans (tot_perm hp), fun t ht => ?_, by omega⟩)⟩, rfl⟩, so_leafy out, rfl⟩
              obtain ⟨u, hu, e⟩ := g.src t ht
              have := hok u hu
              refine ⟨?_, u, hp.mem_iff.1 hu, e⟩
              rw [← e]
              simp [okI] at this
              exact this.1
end Yt
namespace Yt
open Go Go.Vc Go.Proofs
set_option maxRecDepth 10000
set_option maxHeartbeats 4000000
set_option linter.unusedSimpArgs false
set_option linter.unusedVariables false
def AddR (a b out : List It) (err : Int) : Prop := (¬ (Good a ∧ Good b) ∧ out = [] ∧ err = 1) ∨ (Good a ∧ Good b ∧ MakeR (a ++ b) out err)
end Yt
namespace Yt
open Go Go.Vc Go.Proofs
set_option maxRecDepth 10000
set_option maxHeartbeats 4000000
set_option linter.unusedSimpArgs false
set_option linter.unusedVariables false
theorem made_okW {o : List It} (h : Made o) (r : List V) : okW (tot r o) = true := by
  by_cases hn : tot r o = 0
  · rw [hn]; simp [okW, inB]
  · obtain ⟨t, ht, rfl⟩ := (tot_there h r).1 hn
    rw [tot_made h ht]; exact (h.nz t ht).2
theorem makeR_bad {z out : List It} {err : Int} (h : MakeR z out err) (hb : (z.any fun t => !okI t) = true) : out = [] ∧ err = 1 := by
  rcases h with ⟨_, h⟩ | ⟨h, _⟩ | ⟨h, _⟩
  · exact h
  · rw [hb] at h; cases h
  · rw [hb] at h; cases h
theorem makeR_over {z out : List It} {err : Int} (h : MakeR z out err) (hb : (z.any fun t => !okI t) = false) {r : List V} (hr : okW (tot r z) = false) : out = [] ∧ err = 11 := by
  rcases h with ⟨h, _⟩ | ⟨_, h1, h2, _⟩ | ⟨_, _, hm, ht, _⟩
  · rw [hb] at h; cases h
  · exact ⟨h1, h2⟩
  · rw [← ht r, made_okW hm r] at hr; cases hr
theorem makeR_ok {z out o : List It} {err : Int} (h : MakeR z out err) (hb : (z.any fun t => !okI t) = false) (ho : Made o) (hr : ∀ r, tot r o = tot r z) : out = o ∧ err = 0 := by
  rcases h with ⟨h, _⟩ | ⟨_, h1, h2, r, h3⟩ | ⟨_, h1, hm, ht, _⟩
  · rw [hb] at h; cases h
  · rw [← hr r, made_okW ho r] at h3; cases h3
  · exact ⟨made_eq hm ho fun r => (ht r).trans (hr r).symm, h1⟩
def r1 : List V := [⟨3, 1, ByteArray.empty⟩]
end Yt
namespace Yt
open Go Go.Vc Go.Proofs
set_option maxRecDepth 10000
set_option maxHeartbeats 8000000
set_option linter.unusedSimpArgs false
set_option linter.unusedVariables false
theorem makeR_fine {z out : List It} {err : Int} (h : MakeR z out err) (hb : (z.any fun t => !okI t) = false) (hr : ∀ r, okW (tot r z) = true) :
    err = 0 ∧ Made out ∧ (∀ r, tot r out = tot r z) ∧ (∀ t ∈ out, okR t.row = 0 ∧ ∃ u ∈ z, u.row = t.row) ∧ out.length ≤ z.length := by
  rcases h with ⟨h, _⟩ | ⟨_, _, _, r, h⟩ | ⟨_, h1, hm, ht, h2⟩
  · rw [hb] at h; cases h
  · rw [hr r] at h; cases h
  · exact ⟨h1, hm, ht, h2⟩
def redI (k : Int) (t : It) : It := ⟨t.row, t.w.tmod k⟩
def okB (t : It) : Bool := decide (okR t.row = 0)
def inp (k : Int) (l : List It) : List It := (l.filter okB).map (redI k)
end Yt
namespace Yt
open Go Go.Vc Go.Proofs
set_option maxRecDepth 10000
set_option maxHeartbeats 8000000
set_option linter.unusedSimpArgs false
set_option linter.unusedVariables false
@[go_sem] theorem cells_rowA {r : List V} {K : List AV → Prop} : cellsOf (rowA r) K = K [rowA r] := rfl
structure Tm (l z : List It) : Prop where
  made : Made z
  tot : ∀ r, tot r z = Yt.tot r (inp 100 (l.take 60))
  rows : ∀ t ∈ z, okR t.row = 0 ∧ ∃ u ∈ l, u.row = t.row
  len : z.length ≤ 60
  small : ∀ t ∈ z, -5940 ≤ t.w ∧ t.w ≤ 5940
theorem Tm.good {l z : List It} (h : Tm l z) : Good z := good_made.2 ⟨h.made, fun t ht => (h.rows t ht).1⟩
end Yt
namespace Yt
open Go Go.Vc Go.Proofs
set_option maxRecDepth 10000
set_option maxHeartbeats 8000000
set_option linter.unusedSimpArgs false
set_option linter.unusedVariables false
def mulI (n : Int) (t : It) : It := ⟨t.row, n * t.w⟩
theorem tot_mul (n : Int) (z : List It) (r : List V) : tot r (z.map (mulI n)) = n * tot r z := by
  induction z with
  | nil => simp [tot]
  | cons t z ih =>
    simp only [List.map_cons, tot, ih, mulI]
    split
    · rw [Int.mul_add]
    · rw [Int.zero_add, Int.zero_add]
theorem made_mul {n : Int} {z : List It} (hn : 0 < n) (hm : Made z) (hb : ∀ t ∈ z, okW (n * t.w) = true) : Made (z.map (mulI n)) := by
  refine ⟨?_, fun t ht => ?_⟩
  · rw [List.pairwise_map]
    exact hm.pw
  · obtain ⟨u, hu, rfl⟩ := List.mem_map.1 ht
    refine ⟨?_, hb u hu⟩
    exact Int.mul_ne_zero (by omega) (hm.nz u hu).1
end Yt
namespace Yt
open Go Go.Vc Go.Proofs
set_option maxRecDepth 10000
set_option maxHeartbeats 8000000
set_option linter.unusedSimpArgs false
set_option linter.unusedVariables false
theorem Es_refl {st : St} {m : List (Nat × Option Nat)} : ∀ {l : List (List AV)}, (∀ x ∈ l, ∀ a ∈ x, a.leaf = true) → Es st m l l := fun {l} h => .same ⟨0, []⟩ _ _ h rfl
def negI (t : It) : It := ⟨t.row, -t.w⟩
end Yt
namespace Yt
open Go Go.Vc Go.Proofs
set_option maxRecDepth 10000
set_option maxHeartbeats 8000000
set_option linter.unusedSimpArgs false
set_option linter.unusedVariables false
theorem tot_neg (z : List It) (r : List V) : tot r (z.map negI) = -tot r z := by
  induction z with
  | nil => simp [tot]
  | cons t z ih => simp only [List.map_cons, tot, ih, negI]; split <;> omega
theorem okW_neg {w : Int} (h : okW w = true) : okW (-w) = true := by simp [okW, inB] at h ⊢; omega
theorem made_neg {z : List It} (h : Made z) : Made (z.map negI) := by
  refine ⟨?_, fun t ht => ?_⟩
  · rw [List.pairwise_map]; exact h.pw
  · obtain ⟨u, hu, rfl⟩ := List.mem_map.1 ht
    have := h.nz u hu
    exact ⟨by simp only [negI]; omega, okW_neg this.2⟩
structure Sm (z : List It) (k : Nat) : Prop where
  made : Made z
  rows : ∀ t ∈ z, okR t.row = 0 ∧ t.row.length ≤ 40
  len : z.length ≤ 60 * k
  tot : ∀ r, -(356400 * (k : Int)) ≤ Yt.tot r z ∧ Yt.tot r z ≤ 356400 * k
theorem Sm.good {z : List It} {k : Nat} (h : Sm z k) : Good z := good_made.2 ⟨h.made, fun t ht => (h.rows t ht).1⟩
theorem Sm.add {x y out : List It} {i j : Nat} {err : Int} (hx : Sm x i) (hy : Sm y j) (hij : i + j ≤ 100) (h : AddR x y out err) : err = 0 ∧ Sm out (i + j) ∧ ∀ r, Yt.tot r out = Yt.tot r x + Yt.tot r y := by
  have hm : MakeR (x ++ y) out err := by
    rcases h with ⟨h, _⟩ | ⟨_, _, h⟩
    · exact absurd ⟨hx.good, hy.good⟩ h
    · exact h
  have hfine : ((x ++ y).any fun t => !okI t) = false := by
    rw [List.any_eq_false]; intro t ht
    rcases List.mem_append.1 ht with ht | ht
    · simp [okI, (hx.rows t ht).1, (hx.made.nz t ht).2]
    · simp [okI, (hy.rows t ht).1, (hy.made.nz t ht).2]
  have hb : ∀ r, -(356400 * ((i + j : Nat) : Int)) ≤ Yt.tot r (x ++ y) ∧ Yt.tot r (x ++ y) ≤ 356400 * ((i + j : Nat) : Int) := fun r => by
    have h1 := hx.tot r
    have h2 := hy.tot r
    rw [tot_append]; omega
  obtain ⟨h1, h2, h3, h4, h5⟩ := makeR_fine hm hfine fun r => by
    have := hb r
    simp only [okW, inB, Bool.and_eq_true, decide_eq_true_eq]; omega
  refine ⟨h1, ⟨h2, fun t ht => ?_, ?_, fun r => by rw [h3]; exact hb r⟩, fun r => by rw [h3, tot_append]⟩
  · obtain ⟨g1, u, hu, e⟩ := h4 t ht
    refine ⟨g1, ?_⟩
    rw [← e]
    rcases List.mem_append.1 hu with hu | hu
    · exact (hx.rows u hu).2
    · exact (hy.rows u hu).2
  · have h6 := hx.len; have h7 := hy.len
    rw [List.length_append] at h5; omega
theorem Sm.neg {x : List It} {i : Nat} (h : Sm x i) : Sm (x.map negI) i :=
  ⟨made_neg h.made, fun t ht => by obtain ⟨u, hu, rfl⟩ := List.mem_map.1 ht; exact h.rows u hu, by rw [List.length_map]; exact h.len, fun r => by rw [tot_neg]; have := h.tot r; omega⟩
end Yt
namespace Yt
open Go Go.Vc Go.Proofs
set_option maxRecDepth 10000
set_option maxHeartbeats 8000000
set_option linter.unusedSimpArgs false
set_option linter.unusedVariables false
end Yt
namespace Yt
open Go Go.Vc Go.Proofs
set_option maxRecDepth 10000
set_option maxHeartbeats 8000000
set_option linter.unusedSimpArgs false
set_option linter.unusedVariables false
structure Pr where
  kind : Int
  col : Int
  other : Int
  val : V
def Pr.c (p : Pr) : List AV := [.pr (.int .i64 p.kind), .pr (.int .i64 p.col), .pr (.int .i64 p.other), .pr (.int .i64 p.val.k), .pr (.int .i64 p.val.i), .pr (.string p.val.s)]
def getV (r : List V) (c : Int) : V := (r[c.toNat]?).getD ⟨0, 0, ByteArray.empty⟩
end Yt
namespace Yt
open Go Go.Vc Go.Proofs
set_option maxRecDepth 10000
set_option maxHeartbeats 8000000
set_option linter.unusedSimpArgs false
set_option linter.unusedVariables false
mutual
theorem lend_noId {f : List AV → List AV} {p : List AV → Prop} {objs : Nat → Option Ob} : ∀ (v : AV), v.noId = true → v.lendW f objs = v ∧ v.lok p objs
  | .un, _ => by simp [AV.lendW, AV.lok]
  | .pr v, _ => by simp [AV.lendW, AV.lok]
  | .nl, _ => by simp [AV.lendW, AV.lok]
  | .im a b, _ => by simp [AV.lendW, AV.lok]
  | .rf a b c, h => by simp [AV.noId] at h
  | .pt a b c, h => by simp [AV.noId] at h
  | .ro a b, _ => by simp [AV.lendW, AV.lok]
  | .ag cs, h => by
    have := lends_noId (f := f) (p := p) (objs := objs) cs (by simpa [AV.noId] using h)
    simp only [AV.lendW, AV.lok]; exact ⟨by rw [this.1], this.2⟩
  | .tu cs, h => by
    have := lends_noId (f := f) (p := p) (objs := objs) cs (by simpa [AV.noId] using h)
    simp only [AV.lendW, AV.lok]; exact ⟨by rw [this.1], this.2⟩
  | .fn g cs, h => by
    have := lends_noId (f := f) (p := p) (objs := objs) cs (by simpa [AV.noId] using h)
    simp only [AV.lendW, AV.lok]; exact ⟨by rw [this.1], this.2⟩
theorem lends_noId {f : List AV → List AV} {p : List AV → Prop} {objs : Nat → Option Ob} : ∀ (l : List AV), noIds l = true → lendsW f objs l = l ∧ loks p objs l
  | [], _ => ⟨rfl, trivial⟩
  | x :: r, h => by
    simp only [noIds, Bool.and_eq_true] at h
    have h1 := lend_noId (f := f) (p := p) (objs := objs) x h.1
    have h2 := lends_noId (f := f) (p := p) (objs := objs) r h.2
    simp only [lendsW, loks]; exact ⟨by rw [h1.1, h2.1], h1.2, h2.2⟩
end
structure Dl (p : It → Bool) (z y : List It) (i j : Nat) : Prop where
  ij : i < j
  jn : j ≤ z.length
  len : y.length = z.length
  kept : y.take i = (z.take j).filter fun t => !p t
  rest : y.drop j = z.drop j
theorem Dl.keep {p : It → Bool} {z y : List It} {i j : Nat} (d : Dl p z y i j) (hj : j < z.length) (hp : p z[j] = false) : Dl p z (y.set i z[j]) (i + 1) (j + 1) := by
  obtain ⟨h1, h2, h3, h4, h5⟩ := d
  refine ⟨by omega, by omega, by simp [h3], ?_, ?_⟩
  · rw [List.take_succ_eq_append_getElem (by simp; omega), List.take_succ_eq_append_getElem hj, List.filter_append, ← h4, List.take_set_of_le (Nat.le_refl _)]
    simp [hp]
  · rw [List.drop_set_of_lt (by omega)]
    have := congrArg (List.drop 1) h5
    simpa [List.drop_drop, Nat.add_comm] using this
theorem Dl.drop {p : It → Bool} {z y : List It} {i j : Nat} (d : Dl p z y i j) (hj : j < z.length) (hp : p z[j] = true) : Dl p z y i (j + 1) := by
  obtain ⟨h1, h2, h3, h4, h5⟩ := d
  refine ⟨by omega, by omega, h3, ?_, ?_⟩
  · rw [List.take_succ_eq_append_getElem hj, List.filter_append, ← h4]
    simp [hp]
  · have := congrArg (List.drop 1) h5
    simpa [List.drop_drop, Nat.add_comm] using this
theorem Dl.at {p : It → Bool} {z y : List It} {i j : Nat} (d : Dl p z y i j) (hj : j < z.length) (hy : j < y.length) : y[j] = z[j] := by
  have h : (y.drop j)[0]? = (z.drop j)[0]? := by rw [d.rest]
  simp only [List.getElem?_drop, Nat.add_zero, List.getElem?_eq_getElem hj, List.getElem?_eq_getElem hy, Option.some.injEq] at h
  exact h
theorem Dl.done {p : It → Bool} {z y : List It} {i : Nat} (d : Dl p z y i z.length) : y.take i = z.filter fun t => !p t := by
  rw [d.kept, List.take_length]
end Yt
namespace Yt
open Go Go.Vc Go.Proofs
set_option maxRecDepth 10000
set_option maxHeartbeats 8000000
set_option linter.unusedSimpArgs false
set_option linter.unusedVariables false
def MinR (a b out : List It) (err : Int) : Prop := (¬ (Good a ∧ Good b) ∧ out = [] ∧ err = 1) ∨ (Good a ∧ Good b ∧ MakeR (a ++ b.map negI) out err)
end Yt
namespace Yt
open Go Go.Vc Go.Proofs
set_option maxRecDepth 10000
set_option maxHeartbeats 8000000
set_option linter.unusedSimpArgs false
set_option linter.unusedVariables false
def outC (n : Nat) (c : Int) : Bool := decide (c < 0) || decide ((n : Int) ≤ c)
def pickE (r : List V) (cols : List Int) : Int := if cols.any (outC r.length) then 1 else if 12 < cols.length then 2 else 0
def pickR (r : List V) (cols : List Int) : List V := cols.map (getV r)
def projI (cols : List Int) (t : It) : It := ⟨pickR t.row cols, t.w⟩
def ProjR (z : List It) (cols : List Int) (out : List It) (err : Int) : Prop :=
  (¬ Good z ∧ out = [] ∧ err = 1) ∨ (Good z ∧ (∃ t ∈ z, pickE t.row cols = err) ∧ err ≠ 0 ∧ out = []) ∨
  (Good z ∧ (∀ t ∈ z, pickE t.row cols = 0) ∧ MakeR (z.map (projI cols)) out err)
end Yt
namespace Yt
open Go Go.Vc Go.Proofs
set_option maxRecDepth 10000
set_option maxHeartbeats 8000000
set_option linter.unusedSimpArgs false
set_option linter.unusedVariables false
end Yt
namespace Yt
open Go Go.Vc Go.Proofs
set_option maxRecDepth 10000
set_option maxHeartbeats 8000000
set_option linter.unusedSimpArgs false
set_option linter.unusedVariables false
@[go_sem] theorem fzE_so (id : Nat) (o : Ob) (z : List It) : fzE id o (List.map It.c z) = List.map It.c z := fzE_leafy (so_leafy z)
@[go_sem] theorem fzE_ro3 (id : Nat) (o : Ob) (z : List V) : fzE id o (List.map V.c z) = List.map V.c z := fzE_leafy (ro3_leafy z)
@[go_sem] theorem take_so (z : List It) : List.take z.length (List.map It.c z) = List.map It.c z := take_map_len _ _
@[go_sem] theorem take_ro3 (z : List V) : List.take z.length (List.map V.c z) = List.map V.c z := take_map_len _ _
theorem Sm.mono {z : List It} {k j : Nat} (h : Sm z k) (hk : k ≤ j) : Sm z j := ⟨h.made, h.rows, by have := h.len; omega, fun r => by have := h.tot r; omega⟩
theorem Sm.nil (k : Nat) : Sm [] k := ⟨⟨.nil, by simp⟩, by simp, by simp, fun r => by simp [Yt.tot]; omega⟩
theorem Sm.min {x y out : List It} {i j : Nat} {err : Int} (hx : Sm x i) (hy : Sm y j) (hij : i + j ≤ 100) (h : MinR x y out err) : err = 0 ∧ Sm out (i + j) ∧ ∀ r, Yt.tot r out = Yt.tot r x - Yt.tot r y := by
  have h2 : AddR x (y.map negI) out err := by
    rcases h with ⟨h, _⟩ | ⟨_, _, h⟩
    · exact absurd ⟨hx.good, hy.good⟩ h
    · exact .inr ⟨hx.good, hy.neg.good, h⟩
  obtain ⟨a, b, c⟩ := hx.add hy.neg hij h2
  exact ⟨a, b, fun r => by rw [c, tot_neg]; omega⟩
theorem Sm.eq {x y : List It} {i j : Nat} (hx : Sm x i) (hy : Sm y j) (h : ∀ r, Yt.tot r x = Yt.tot r y) : x = y := made_eq hx.made hy.made h
theorem Sm.w {z : List It} {k : Nat} (h : Sm z k) : ∀ t ∈ z, -(356400 * (k : Int)) ≤ t.w ∧ t.w ≤ 356400 * k := fun t ht => by
  rw [← tot_made h.made ht]; exact h.tot _
theorem Sm.mul {z : List It} {k : Nat} (h : Sm z k) (n : Nat) (hn : 0 < n) (hk : n * k ≤ 1000) : Sm (z.map (mulI n)) (n * k) := by
  refine ⟨made_mul (by omega) h.made fun t ht => ?_, fun t ht => by obtain ⟨u, hu, rfl⟩ := List.mem_map.1 ht; exact h.rows u hu, ?_, fun r => ?_⟩
  · have h1 := h.w t ht
    have h2 : (n : Int) * t.w ≤ n * (356400 * k) := Int.mul_le_mul_of_nonneg_left h1.2 (by omega)
    have h3 : (n : Int) * (-(356400 * k)) ≤ n * t.w := Int.mul_le_mul_of_nonneg_left h1.1 (by omega)
    have e : (n : Int) * (356400 * k) = 356400 * ((n * k : Nat) : Int) := by rw [Int.natCast_mul, ← Int.mul_assoc, ← Int.mul_assoc, Int.mul_comm (n : Int) 356400]
    rw [Int.mul_neg, e] at h3
    rw [e] at h2
    simp only [okW, inB, Bool.and_eq_true, decide_eq_true_eq]; omega
  · rw [List.length_map]
    have := Nat.le_mul_of_pos_left k hn
    have := h.len
    have : 60 * k ≤ 60 * (n * k) := by omega
    omega
  · rw [tot_mul]
    have h1 := h.tot r
    have h2 : (n : Int) * Yt.tot r z ≤ n * (356400 * k) := Int.mul_le_mul_of_nonneg_left h1.2 (by omega)
    have h3 : (n : Int) * (-(356400 * k)) ≤ n * Yt.tot r z := Int.mul_le_mul_of_nonneg_left h1.1 (by omega)
    have e : (n : Int) * (356400 * k) = 356400 * ((n * k : Nat) : Int) := by rw [Int.natCast_mul, ← Int.mul_assoc, ← Int.mul_assoc, Int.mul_comm (n : Int) 356400]
    rw [Int.mul_neg, e] at h3
    rw [e] at h2
    exact ⟨h3, h2⟩
end Yt
namespace Yt
open Go Go.Vc Go.Proofs
set_option maxRecDepth 10000
set_option maxHeartbeats 8000000
set_option linter.unusedSimpArgs false
set_option linter.unusedVariables false
theorem pick_in {r : List V} {cols : List Int} (h : pickE r cols = 0) : cols.length ≤ 12 ∧ ∀ c ∈ cols, 0 ≤ c ∧ c < r.length := by
  simp only [pickE] at h
  split at h
  · cases h
  · rename_i h1
    split at h
    · cases h
    · refine ⟨by omega, fun c hc => ?_⟩
      have h1 : cols.any (outC r.length) = false := by simpa using h1
      rw [List.any_eq_false] at h1
      have := h1 c hc
      simp [outC] at this
      omega
theorem pick_row {r : List V} {cols : List Int} (h : pickE r cols = 0) (hr : okR r = 0) : okR (pickR r cols) = 0 ∧ (pickR r cols).length ≤ 12 := by
  obtain ⟨h1, h2⟩ := pick_in h
  have hl : (pickR r cols).length = cols.length := by simp [pickR]
  have ha : (pickR r cols).all okV = true := by
    rw [List.all_eq_true]
    intro v hv
    obtain ⟨c, hc, rfl⟩ := List.mem_map.1 hv
    obtain ⟨g1, g2⟩ := h2 c hc
    have hlt : c.toNat < r.length := by omega
    have e : getV r c = r[c.toNat] := by simp [getV, hlt]
    rw [e]
    simp only [okR] at hr
    split at hr
    · cases hr
    · split at hr
      · rename_i h3
        exact List.all_eq_true.1 h3 _ (List.getElem_mem _)
      · cases hr
  refine ⟨?_, by omega⟩
  rw [okR, if_neg (by omega), if_pos ha]
theorem ProjR.ok {z out : List It} {k j : Nat} {cols : List Int} {err : Int} (h : Sm z k) (hb : ∀ r, -(356400 * (j : Int)) ≤ Yt.tot r (z.map (projI cols)) ∧ Yt.tot r (z.map (projI cols)) ≤ 356400 * j) (hk : k ≤ j) (hj : j ≤ 1000)
    (hp : ProjR z cols out err) : (err = 0 ∧ (∀ t ∈ z, pickE t.row cols = 0) ∧ Sm out j ∧ ∀ r, Yt.tot r out = Yt.tot r (z.map (projI cols))) ∨ (err ≠ 0 ∧ out = [] ∧ ∃ t ∈ z, pickE t.row cols = err) := by
  rcases hp with ⟨hn, _⟩ | ⟨_, ht, he, ho⟩ | ⟨_, ht, hm⟩
  · exact absurd h.good hn
  · exact .inr ⟨he, ho, ht⟩
  · refine .inl ?_
    obtain ⟨h1, h2, h3, h4, h5⟩ := makeR_fine hm (by
      rw [List.any_eq_false]; intro t hv
      obtain ⟨u, hu, rfl⟩ := List.mem_map.1 hv
      have e1 := (pick_row (ht u hu) (h.rows u hu).1).1
      have e2 := (h.made.nz u hu).2
      simp [okI, projI, e1, e2]) fun r => by
        have := hb r
        simp only [okW, inB, Bool.and_eq_true, decide_eq_true_eq]; omega
    refine ⟨h1, ht, ⟨h2, fun t hu => ?_, ?_, fun r => by rw [h3]; exact hb r⟩, h3⟩
    · obtain ⟨g1, u, hu, e⟩ := h4 t hu
      obtain ⟨v, hv, rfl⟩ := List.mem_map.1 hu
      refine ⟨g1, ?_⟩
      rw [← e]
      have := (pick_row (ht v hv) (h.rows v hv).1).2
      have e3 : (projI cols v).row = pickR v.row cols := rfl
      rw [e3]; omega
    · have := h.len
      rw [List.length_map] at h5; omega
theorem ProjR.len {z out : List It} {cols : List Int} {err : Int} (h : ProjR z cols out err) : out.length ≤ z.length := by
  rcases h with ⟨_, rfl, _⟩ | ⟨_, _, _, rfl⟩ | ⟨_, _, h⟩
  · simp
  · simp
  · rcases h with ⟨_, rfl, _⟩ | ⟨_, rfl, _⟩ | ⟨_, _, _, _, _, h⟩
    · simp
    · simp
    · simpa using h
end Yt
namespace Yt
open Go Go.Vc Go.Proofs
set_option maxRecDepth 10000
set_option maxHeartbeats 8000000
set_option linter.unusedSimpArgs false
set_option linter.unusedVariables false
theorem fz_so (z : List It) : (AV.rf 0 0 z.length).fz 0 (so z) = setA z := by
  rw [fz_rf, if_pos rfl, List.drop_zero, List.take_of_length_le (by simp [so])]; rfl
theorem fz_ro3 (r : List V) : (AV.rf 0 0 r.length).fz 0 (ro3 r) = rowA r := by
  rw [fz_rf, if_pos rfl, List.drop_zero, List.take_of_length_le (by simp [ro3])]; rfl
theorem Spec1.setE {f : Nat} {args : List AV} {Q : List It → Int → Prop} (h : Spec1 Try.prog f args (fun r o => ∃ (out : List It) (err : Int), r = .tu [.rf 0 0 out.length, iA err] ∧ o = so out ∧ Q out err)) :
    Spec0 Try.prog f args fun r => ∃ (out : List It) (err : Int), r = .tu [setA out, iA err] ∧ Q out err :=
  (Spec1.fz h).mono fun r O' ⟨⟨⟨r0, o, ⟨out, err, e1, e2, hq⟩, _, _, e3⟩, hn⟩, hO⟩ => by
    subst e1; subst e2; subst e3
    refine ⟨⟨⟨out, err, ?_, hq⟩, hn⟩, hO⟩
    rw [fz_tu, fzs_cons, fzs_cons, fzs_nil, fz_so, iA, fz_pr]
theorem Spec1.set1 {f : Nat} {args : List AV} {Q : List It → Prop} (h : Spec1 Try.prog f args (fun r o => ∃ (out : List It), r = .rf 0 0 out.length ∧ o = so out ∧ Q out)) :
    Spec0 Try.prog f args fun r => ∃ (out : List It), r = setA out ∧ Q out :=
  (Spec1.fz h).mono fun r O' ⟨⟨⟨r0, o, ⟨out, e1, e2, hq⟩, _, _, e3⟩, hn⟩, hO⟩ => by
    subst e1; subst e2; subst e3
    exact ⟨⟨⟨out, fz_so out, hq⟩, hn⟩, hO⟩
theorem Spec1.setC {f : Nat} {args : List AV} {z : List It} (h : Spec1 Try.prog f args (fun r o => r = .rf 0 0 z.length ∧ o = so z)) : Spec0 Try.prog f args (· = setA z) :=
  (Spec1.fz h).mono fun r O' ⟨⟨⟨r0, o, ⟨e1, e2⟩, _, _, e3⟩, hn⟩, hO⟩ => by
    subst e1; subst e2; subst e3
    exact ⟨⟨fz_so z, hn⟩, hO⟩
theorem makeR_rows {z out : List It} {err : Int} (h : MakeR z out err) : out.length ≤ z.length ∧ ∀ t ∈ out, ∃ u ∈ z, u.row = t.row := by
  rcases h with ⟨_, rfl, _⟩ | ⟨_, rfl, _⟩ | ⟨_, _, _, _, h, hl⟩
  · simp
  · simp
  · exact ⟨hl, fun t ht => (h t ht).2⟩
theorem addR_rows {a b out : List It} {err : Int} (h : AddR a b out err) : out.length ≤ a.length + b.length ∧ ∀ t ∈ out, ∃ u ∈ a ++ b, u.row = t.row := by
  rcases h with ⟨_, rfl, _⟩ | ⟨_, _, h⟩
  · simp
  · have := makeR_rows h
    rw [List.length_append] at this; exact this
end Yt
namespace Yt
open Go Go.Vc Go.Proofs
set_option maxRecDepth 10000
set_option maxHeartbeats 8000000
set_option linter.unusedSimpArgs false
set_option linter.unusedVariables false
end Yt
namespace Yt
open Go Go.Vc Go.Proofs
set_option maxRecDepth 10000
set_option maxHeartbeats 4000000
set_option linter.unusedSimpArgs false
set_option linter.unusedVariables false
theorem _root_.Go.Vc.Es_all {st : St} {m : List (Nat × Option Nat)} {l l' : List (List AV)} (hl : l.length = l'.length) (h : ∀ i (h1 : i < l.length) (h2 : i < l'.length), wk.wks st m l[i] l'[i]) : Es st m l l' := by
  induction l generalizing l' with
  | nil =>
    cases l' with
    | nil => exact .nil
    | cons y r => cases hl
  | cons x r ih =>
    cases l' with
    | nil => cases hl
    | cons y r' => exact .cons (h 0 (by simp) (by simp)) (ih (by simpa using hl) fun i h1 h2 => h (i + 1) (Nat.succ_lt_succ h1) (Nat.succ_lt_succ h2))
theorem zip_mem {z : List It} {p : It × Nat} (hp : p ∈ z.zipIdx) : p.2 < z.length ∧ z[p.2]? = some p.1 := by
  have h1 := List.mem_zipIdx_iff_getElem?.1 hp
  exact ⟨(List.getElem?_eq_some_iff.1 h1).1, h1⟩
theorem lent_leafy {objs : Nat → Option Ob} {id : Nat} {o : Ob} {len : Nat} {es : List (List AV)} (ho : objs id = some o) (hes : o.es = es) (hl : es.length = len) (hleaf : o.leafy) (hr : ∀ x ∈ es, x.length = o.sz) : Lent objs (.rf id 0 len) (.im o.sz es) := by
  subst hes; subst hl
  refine .rf ho (by rw [List.drop_zero, List.take_length]) rfl hr (fun i j a' h => leafy_get hleaf h) fun i j a a' h h' => ?_
  rw [h] at h'; cases h'
  exact .same (leaf_noId (leafy_get hleaf h))
theorem so_snoc {st : St} {m : List (Nat × Option Nat)} {l l' : List It} {t : It} (h : l' = l ++ [t]) : Es st m (List.map It.c l ++ [t.c]) (List.map It.c l') := by
  subst h
  rw [List.map_append]
  exact .same (so (l ++ [t])) _ _ (fun x hx => so_leafy (l ++ [t]) x (by rw [so, List.map_append]; exact hx)) rfl
theorem good_w {z : List It} (h : Good z) {t : It} (ht : t ∈ z) : -72057594037927936 ≤ t.w ∧ t.w ≤ 72057594037927936 := by
  have := ((good_made.1 h).1.nz t ht).2
  simp [okW, inB] at this; exact this
end Yt
namespace Go.Vc
theorem Es.app {st : St} {m : List (Nat × Option Nat)} {l1 l1' l2 l2' : List (List AV)} (h : Es st m l1 l1') (h2 : Es st m l2 l2') : Es st m (l1 ++ l2) (l1' ++ l2') := by
  obtain ⟨e1, e2⟩ := h.get
  obtain ⟨e3, e4⟩ := h2.get
  refine Es_all (by simp [e1, e3]) fun i q1 q2 => ?_
  by_cases hi : i < l1'.length
  · obtain ⟨cs, h3, h4⟩ := e2 i l1'[i] (List.getElem?_eq_getElem hi)
    obtain ⟨h5, h6⟩ := List.getElem?_eq_some_iff.1 h3
    rw [List.getElem_append_left h5, List.getElem_append_left hi, h6]; exact h4
  · have hi1 : ¬ i < l1.length := by omega
    rw [List.getElem_append_right (by omega), List.getElem_append_right (by omega)]
    have hlt : i - l1'.length < l2'.length := by rw [List.length_append] at q2; omega
    obtain ⟨cs, h3, h4⟩ := e4 (i - l1'.length) _ (List.getElem?_eq_getElem hlt)
    obtain ⟨h5, h6⟩ := List.getElem?_eq_some_iff.1 h3
    have e : i - l1.length = i - l1'.length := by omega
    simp only [e, h6]; exact h4
theorem nms_append {m m' : List (Nat × Option Nat)} {x : Nat} : nms (m ++ m') x = (match nms m x with | none => nms m' x | some y => some y) := by
  induction m with
  | nil => rfl
  | cons p r ih =>
    obtain ⟨a, b⟩ := p
    simp only [List.cons_append, nms]
    split
    · rfl
    · exact ih
theorem olds_append {m m' : List (Nat × Option Nat)} : olds (m ++ m') = olds m ++ olds m' := by
  induction m with
  | nil => rfl
  | cons p r ih =>
    obtain ⟨a, b⟩ := p
    cases b with
    | none => simpa [olds] using ih
    | some b => simpa [olds] using ih
end Go.Vc
namespace Yt
open Go Go.Vc Go.Proofs
set_option maxRecDepth 10000
set_option maxHeartbeats 1000000
set_option linter.unusedSimpArgs false
set_option linter.unusedVariables false
def famC (b : Nat) (z : List It) : List (List AV) := z.zipIdx.map fun p => [.rf (b + (p.2 + 1)) 0 p.1.row.length, iA p.1.w]
def famL (b : Nat) (z : List It) : List (Nat × Ob) := z.zipIdx.map fun p => (b + (p.2 + 1), ro3 p.1.row)
def famN (b n : Nat) : List Nat := (List.range n).map fun i => b + (i + 1)
def famM (b n : Nat) (ν : Nat → Nat) : List (Nat × Option Nat) := (List.range n).map fun i => (b + (i + 1), some (ν i))
theorem famC_len (b : Nat) (z : List It) : (famC b z).length = z.length := by simp [famC]
theorem famC_get {b : Nat} {z : List It} {i : Nat} (h : i < z.length) (h2 : i < (famC b z).length) : (famC b z)[i] = [.rf (b + (i + 1)) 0 z[i].row.length, iA z[i].w] := by simp [famC]
theorem famN_mem {b n x : Nat} : x ∈ famN b n ↔ ∃ i, i < n ∧ x = b + (i + 1) := by
  simp [famN, eq_comm]
theorem famM_nms {b n : Nat} {ν : Nat → Nat} {i : Nat} (h : i < n) : nms (famM b n ν) (b + (i + 1)) = some (some (ν i)) := by
  have key : ∀ (l : List Nat), i ∈ l → nms (l.map fun i => (b + (i + 1), some (ν i))) (b + (i + 1)) = some (some (ν i)) := by
    intro l
    induction l with
    | nil => intro h; cases h
    | cons x r ih =>
      intro hm
      simp only [List.map_cons, nms]
      split
      · rename_i e
        have : x = i := by omega
        rw [this]
      · rename_i e
        rcases List.mem_cons.1 hm with rfl | hm
        · exact absurd rfl e
        · exact ih hm
  exact key _ (List.mem_range.2 h)
theorem famM_none {b n : Nat} {ν : Nat → Nat} {x : Nat} (h : x ≤ b ∨ b + n < x) : nms (famM b n ν) x = none := by
  have key : ∀ (l : List Nat), (∀ i ∈ l, i < n) → nms (l.map fun i => (b + (i + 1), some (ν i))) x = none := by
    intro l
    induction l with
    | nil => intro _; rfl
    | cons y r ih =>
      intro hm
      simp only [List.map_cons, nms]
      have := hm y (by simp)
      rw [if_neg (by omega)]
      exact ih fun i hi => hm i (by simp [hi])
  exact key _ fun i hi => List.mem_range.1 hi
theorem famM_olds {b n : Nat} {ν : Nat → Nat} : olds (famM b n ν) = (List.range n).map ν := by
  have key : ∀ (l : List Nat), olds (l.map fun i => (b + (i + 1), some (ν i))) = l.map ν := by
    intro l
    induction l with
    | nil => rfl
    | cons y r ih => simp only [List.map_cons, olds, ih]
  exact key _
theorem famL_get {b : Nat} {z : List It} {i : Nat} (h : i < z.length) : mkO (famL b z) (b + (i + 1)) = some (ro3 z[i].row) := by
  have key : ∀ (l : List It) (k : Nat), k ≤ i → (h : i - k < l.length) → mkO ((l.zipIdx k).map fun p => (b + (p.2 + 1), ro3 p.1.row)) (b + (i + 1)) = some (ro3 (l[i - k]).row) := by
    intro l
    induction l with
    | nil => intro k _ h; simp at h
    | cons t r ih =>
      intro k hk h
      simp only [List.zipIdx_cons, List.map_cons, mkO, upd]
      by_cases e : k = i
      · subst e; simp
      · rw [if_neg (by omega), ih (k + 1) (by omega) (by simp at h; omega)]
        have : i - k = (i - (k + 1)) + 1 := by omega
        simp [this]
  have := key z 0 (Nat.zero_le _) (by simpa using h)
  simpa [famL] using this
theorem famL_none {b : Nat} {z : List It} {x : Nat} (h : x ≤ b ∨ b + z.length < x) : mkO (famL b z) x = none := by
  have key : ∀ (l : List It) (k : Nat), k + l.length ≤ z.length → mkO ((l.zipIdx k).map fun p => (b + (p.2 + 1), ro3 p.1.row)) x = none := by
    intro l
    induction l with
    | nil => intro _ _; rfl
    | cons t r ih =>
      intro k hk
      simp only [List.length_cons] at hk
      simp only [List.zipIdx_cons, List.map_cons, mkO, upd]
      rw [if_neg (by omega)]
      exact ih (k + 1) (by omega)
  exact key z 0 (by omega)
def famS (b : Nat) (z : List It) : List (Nat × Ob) := (b, ⟨2, famC b z⟩) :: famL b z
def famF (z : List It) : Nat → Option Ob := mkO (famS 0 z)
theorem famS_0 (b : Nat) (z : List It) : mkO (famS b z) b = some ⟨2, famC b z⟩ := by simp [famS, mkO, upd]
theorem famS_row {b : Nat} {z : List It} {i : Nat} (h : i < z.length) : mkO (famS b z) (b + (i + 1)) = some (ro3 z[i].row) := by
  simp only [famS, mkO, upd]
  rw [if_neg (by omega)]; exact famL_get h
theorem famS_none {b : Nat} {z : List It} {x : Nat} (h : x < b ∨ b + z.length < x) : mkO (famS b z) x = none := by
  simp only [famS, mkO, upd]
  rw [if_neg (by omega)]; exact famL_none (by omega)
theorem famS_cases {b : Nat} {z : List It} {x : Nat} {o : Ob} (h : mkO (famS b z) x = some o) : (x = b ∧ o = ⟨2, famC b z⟩) ∨ ∃ i, ∃ hi : i < z.length, x = b + (i + 1) ∧ o = ro3 z[i].row := by
  by_cases e : x = b
  · subst e; rw [famS_0] at h; cases h; exact .inl ⟨rfl, rfl⟩
  · by_cases e2 : x < b ∨ b + z.length < x
    · rw [famS_none e2] at h; cases h
    · obtain ⟨i, rfl⟩ : ∃ i, x = b + (i + 1) := ⟨x - b - 1, by omega⟩
      have hi : i < z.length := by omega
      rw [famS_row hi] at h; cases h
      exact .inr ⟨i, hi, rfl, rfl⟩
theorem ro3_rn (ρ : Nat → Nat) (r : List V) : (ro3 r).rn ρ = ro3 r := by
  simp only [ro3, Ob.rn, List.map_map]
  congr 1
theorem famC_rn (ρ : Nat → Nat) (b : Nat) (z : List It) (h : ∀ i, i < z.length → ρ (i + 1) = b + (i + 1)) : (famC 0 z).map (rns ρ) = famC b z := by
  refine List.ext_getElem (by simp [famC_len]) fun i q1 q2 => ?_
  have hi : i < z.length := by simpa [famC_len] using q1
  rw [List.getElem_map, famC_get hi, famC_get hi]
  simp only [rns, AV.rn, Nat.zero_add, h i hi]
  rfl
theorem famF_rn (b : Nat) (z : List It) (n : Nat) : (famF z n).map (Ob.rn fun i => b + i) = mkO (famS b z) (b + n) := by
  cases hn : famF z n with
  | none =>
    have : ¬ n ≤ z.length := fun h => by
      cases n with
      | zero => rw [famF, famS_0] at hn; cases hn
      | succ i =>
        have := famS_row (b := 0) (z := z) (i := i) (by omega)
        rw [Nat.zero_add] at this
        rw [famF, this] at hn; cases hn
    rw [famS_none (by omega)]; rfl
  | some o =>
    rcases famS_cases hn with ⟨rfl, rfl⟩ | ⟨i, hi, rfl, rfl⟩
    · rw [Nat.add_zero, famS_0]
      simp only [Option.map_some, Ob.rn]
      rw [famC_rn _ b z fun i _ => rfl]
    · rw [Nat.zero_add, famS_row hi, Option.map_some, ro3_rn]
def SpecF (P : Program) (f : Nat) (args : List AV) (R : AV → List It → Prop) : Prop := FunSpecD P f args noOb noOb [] fun r O' => ∃ z, (R r z ∧ r.only0 = true) ∧ O' = famF z
def famO (b : Nat) (z : List It) (objs : Nat → Option Ob) (n : Nat) : Option Ob := if b ≤ n then mkO (famS b z) n else objs n
@[go_sem] theorem famO_lo {b : Nat} {z : List It} {objs : Nat → Option Ob} {n : Nat} (h : (b ≤ n) = False) : famO b z objs n = objs n := by simp [famO, h]
@[go_sem] theorem famO_0 {b : Nat} {z : List It} {objs : Nat → Option Ob} : famO b z objs b = some ⟨2, famC b z⟩ := by simp [famO, famS_0]
theorem famO_row {b : Nat} {z : List It} {objs : Nat → Option Ob} {i : Nat} (h : i < z.length) : famO b z objs (b + (i + 1)) = some (ro3 z[i].row) := by
  rw [famO, if_pos (by omega), famS_row h]
def famU (b n : Nat) : List Nat := (List.range (n + 1)).map fun i => b + i
@[go_sem] theorem famU_lo {b n x : Nat} (h : (b ≤ x) = False) : (x ∈ famU b n) = False := by
  simp only [famU, List.mem_map, List.mem_range, eq_iff_iff, iff_false]
  rintro ⟨i, _, rfl⟩
  have : b ≤ b + i := Nat.le_add_right _ _
  rw [h] at this; exact this
mutual
theorem only0_in : ∀ (v : AV), v.only0 = true → v.inN (fun i => i = 0)
  | .un, _ => trivial
  | .pr v, _ => trivial
  | .nl, _ => trivial
  | .im a b, _ => trivial
  | .rf a b c, h => by simp only [AV.inN]; simpa [AV.only0] using h
  | .pt a b c, h => by simp only [AV.inN]; simpa [AV.only0] using h
  | .ro a b, _ => trivial
  | .ag cs, h => by simp only [AV.inN]; exact only0s_in cs (by simpa [AV.only0] using h)
  | .tu cs, h => by simp only [AV.inN]; exact only0s_in cs (by simpa [AV.only0] using h)
  | .fn f cs, h => by simp only [AV.inN]; exact only0s_in cs (by simpa [AV.only0] using h)
theorem only0s_in : ∀ (l : List AV), only0s l = true → inNs (fun i => i = 0) l
  | [], _ => trivial
  | x :: r, h => by
    simp only [only0s, Bool.and_eq_true] at h
    exact ⟨only0_in x h.1, only0s_in r h.2⟩
end
mutual
theorem inN_mono {p q : Nat → Prop} (hpq : ∀ i, p i → q i) : ∀ (v : AV), v.inN p → v.inN q
  | .un, _ => trivial
  | .pr v, _ => trivial
  | .nl, _ => trivial
  | .im a b, _ => trivial
  | .rf a b c, h => hpq _ h
  | .pt a b c, h => hpq _ h
  | .ro a b, _ => trivial
  | .ag cs, h => inNs_mono hpq cs h
  | .tu cs, h => inNs_mono hpq cs h
  | .fn f cs, h => inNs_mono hpq cs h
theorem inNs_mono {p q : Nat → Prop} (hpq : ∀ i, p i → q i) : ∀ (l : List AV), inNs p l → inNs q l
  | [], _ => trivial
  | x :: r, h => ⟨inN_mono hpq x h.1, inNs_mono hpq r h.2⟩
end
mutual
theorem noId_rn {ρ : Nat → Nat} {p : Nat → Prop} : ∀ (v : AV), v.noId = true → v.rn ρ = v ∧ v.inN p
  | .un, _ => ⟨rfl, trivial⟩
  | .pr v, _ => ⟨rfl, trivial⟩
  | .nl, _ => ⟨rfl, trivial⟩
  | .im a b, _ => ⟨rfl, trivial⟩
  | .rf a b c, h => by simp [AV.noId] at h
  | .pt a b c, h => by simp [AV.noId] at h
  | .ro a b, _ => ⟨rfl, trivial⟩
  | .ag cs, h => by
    obtain ⟨h1, h2⟩ := noIds_rn (ρ := ρ) (p := p) cs (by simpa [AV.noId] using h)
    exact ⟨by simp only [AV.rn, h1], h2⟩
  | .tu cs, h => by
    obtain ⟨h1, h2⟩ := noIds_rn (ρ := ρ) (p := p) cs (by simpa [AV.noId] using h)
    exact ⟨by simp only [AV.rn, h1], h2⟩
  | .fn f cs, h => by
    obtain ⟨h1, h2⟩ := noIds_rn (ρ := ρ) (p := p) cs (by simpa [AV.noId] using h)
    exact ⟨by simp only [AV.rn, h1], h2⟩
theorem noIds_rn {ρ : Nat → Nat} {p : Nat → Prop} : ∀ (l : List AV), noIds l = true → rns ρ l = l ∧ inNs p l
  | [], _ => ⟨rfl, trivial⟩
  | x :: r, h => by
    simp only [noIds, Bool.and_eq_true] at h
    obtain ⟨h1, h2⟩ := noId_rn (ρ := ρ) (p := p) x h.1
    obtain ⟨h3, h4⟩ := noIds_rn (ρ := ρ) (p := p) r h.2
    exact ⟨by simp only [rns, h1, h3], h2, h4⟩
end
theorem famU_mem {b n x : Nat} : x ∈ famU b n ↔ b ≤ x ∧ x ≤ b + n := by
  simp only [famU, List.mem_map, List.mem_range]
  constructor
  · rintro ⟨i, hi, rfl⟩; omega
  · intro h; exact ⟨x - b, by omega, by omega⟩
theorem famF_closed {z : List It} {i : Nat} {o : Ob} (h : famF z i = some o) : i ∈ famU 0 z.length ∧ ∀ x ∈ o.es, inNs (· ∈ famU 0 z.length) x := by
  rcases famS_cases h with ⟨rfl, rfl⟩ | ⟨i, hi, rfl, rfl⟩
  · refine ⟨famU_mem.2 (by omega), fun x hx => ?_⟩
    obtain ⟨j, hj, rfl⟩ := List.mem_iff_getElem.1 hx
    have hj' : j < z.length := by simpa [famC_len] using hj
    rw [famC_get hj']
    exact ⟨famU_mem.2 (by omega), trivial, trivial⟩
  · refine ⟨famU_mem.2 (by omega), fun x hx => ?_⟩
    obtain ⟨v, _, rfl⟩ := List.mem_map.1 hx
    exact ⟨trivial, trivial, trivial, trivial⟩
theorem kept_false (O : Nat → Option Ob) : kept false O = noOb := by
  funext i; simp [kept, noOb]
mutual
theorem flat_noId : ∀ (v : AV), v.flat = true → v.noId = true
  | .un, h => by simp [AV.flat] at h
  | .pr v, _ => rfl
  | .nl, _ => rfl
  | .im a b, _ => rfl
  | .rf a b c, h => by simp [AV.flat] at h
  | .pt a b c, h => by simp [AV.flat] at h
  | .ro a b, _ => rfl
  | .ag cs, h => by simp [AV.flat] at h
  | .tu cs, h => by simp only [AV.noId]; exact flats_noIds cs (by simpa [AV.flat] using h)
  | .fn f cs, h => by simp [AV.flat] at h
theorem flats_noIds : ∀ (l : List AV), flats l = true → noIds l = true
  | [], _ => rfl
  | x :: r, h => by
    simp only [flats, Bool.and_eq_true] at h
    simp only [noIds, Bool.and_eq_true]
    exact ⟨flat_noId x h.1, flats_noIds r h.2⟩
end
theorem CALL.fam {P : Program} {f : Nat} {args : List AV} {st : St} {x : Nat} {K : St → Prop} {R : AV → List It → Prop} (h : SpecF P f args R) (ha : noIds args = true) (b : Nat) (hb : ∀ n ∈ st.used, n < b)
    (k : ∀ r z, R r z → K { regs := upd st.regs x (r.rn fun i => b + i), objs := famO b z st.objs, used := famU b z.length ++ st.used }) : CALL P f args st (some x) K := by
  obtain ⟨g1, g2⟩ := noIds_rn (ρ := id) (p := (· ∈ ([] : List Nat))) args ha
  have h' : FunSpecD P f args (kept false noOb) noOb [] fun r O' => ∃ z, (R r z ∧ r.only0 = true) ∧ O' = famF z := by rw [kept_false]; exact h
  classical
  have key := dep_sem (objs := st.objs) (used := st.used) (args := args) h' id (by simp) (fun i o ho => by cases ho) (fun h => by cases h) (fun i o ho => by cases ho) (by simp) ⟨g1.symm, g2⟩ b hb
    (fun r O' => if h : ∃ z, (R r z ∧ r.only0 = true) ∧ O' = famF z then famU 0 h.choose.length else []) (fun r O' hR => by
      rw [dif_pos hR]
      obtain ⟨⟨_, q1⟩, q2⟩ := hR.choose_spec
      refine ⟨fun i o ho => ?_, inN_mono (fun i hi => famU_mem.2 (by omega)) _ (only0_in _ q1)⟩
      have ho2 : famF hR.choose i = some o := by rw [← q2]; exact ho
      exact famF_closed ho2)
  refine .sem _ key fun u O U hX => ?_
  obtain ⟨r, O', hR, rfl, rfl, rfl⟩ := hX
  rw [dif_pos hR]
  obtain ⟨⟨q0, q1⟩, q2⟩ := hR.choose_spec
  generalize hR.choose = z at q0 q2
  have e1 : nmD false (id 0) b = fun i => b + i := by funext i; simp [nmD]
  have e2 : depO false (id 0) b (List.map id []) O' st.objs = famO b z st.objs := by
    funext n
    simp only [depO, Bool.false_eq_true, false_and, if_false, List.map_nil, List.not_mem_nil, e1, famO]
    split
    · rename_i hn
      rw [q2, famF_rn, show b + (n - b) = n by omega]
    · rfl
  have e3 : List.map (fun i => b + i) (famU 0 z.length) = famU b z.length := by simp [famU]
  have := k r z q0
  simp only [St.to, St.put, e1, e2, e3]
  exact this
def dropO (b n K0 : Nat) (objs : Nat → Option Ob) (x : Nat) : Option Ob := if K0 ≤ x then none else if b ≤ x ∧ x ≤ b + n then none else objs x
@[go_sem] theorem dropO_lo {b n K0 : Nat} {objs : Nat → Option Ob} {x : Nat} (h : (K0 ≤ x) = False) (h2 : (b ≤ x) = False) : dropO b n K0 objs x = objs x := by simp [dropO, h, h2]
theorem CALL.take {P : Program} {f : Nat} {args args' : List AV} {st : St} {d : Option Nat} {K : St → Prop} {R : AV → Prop} {z : List It} (h : FunSpecD P f args' noOb (famF z) (famU 0 z.length) fun r O' => (R r ∧ r.flat = true) ∧ O' = noOb) (b : Nat)
    (hobj : ∀ n, b ≤ n → n ≤ b + z.length → st.objs n = mkO (famS b z) n) (hu : ∀ i, i ≤ z.length → b + i ∈ st.used) (ha : args = rns (fun i => b + i) args' ∧ inNs (· ∈ famU 0 z.length) args') (K0 : Nat) (hK : ∀ n ∈ st.used, n < K0)
    (k : ∀ r, R r → K { regs := (st.put d r).regs, objs := dropO b z.length K0 st.objs, used := st.used }) : CALL P f args st d K := by
  have h' : FunSpecD P f args' (kept false (famF z)) (famF z) (famU 0 z.length) fun r O' => (R r ∧ r.flat = true) ∧ O' = noOb := by rw [kept_false]; exact h
  have key := dep_sem (objs := st.objs) (used := st.used) (args := args) h' (fun i => b + i) (fun i _ j _ h => by omega) (fun i o ho => famF_closed ho) (fun h => by cases h)
    (fun i o ho => by
      have h1 := (famF_closed ho).1
      rw [famU_mem] at h1
      have h2 := famF_rn b z i
      rw [ho, Option.map_some] at h2
      rw [hobj (b + i) (by omega) (by omega), ← h2]) (fun i hi => hu i (by rw [famU_mem] at hi; omega)) ha K0 hK (fun _ _ => []) (fun r O' hR => by
      obtain ⟨⟨_, hf⟩, rfl⟩ := hR
      exact ⟨(fun i o ho => by cases ho), (noId_rn (ρ := id) _ (flat_noId _ hf)).2⟩)
  refine .sem _ key fun u O U hX => ?_
  obtain ⟨r, O', ⟨⟨hR, hf⟩, rfl⟩, rfl, rfl, rfl⟩ := hX
  have e1 : r.rn (nmD false (b + 0) K0) = r := (noId_rn (p := fun _ => True) _ (flat_noId _ hf)).1
  have e2 : depO false (b + 0) K0 (List.map (fun i => b + i) (famU 0 z.length)) noOb st.objs = dropO b z.length K0 st.objs := by
    funext n
    have : n ∈ List.map (fun i => b + i) (famU 0 z.length) ↔ b ≤ n ∧ n ≤ b + z.length := by
      simp only [List.mem_map]
      constructor
      · rintro ⟨i, hi, rfl⟩; rw [famU_mem] at hi; omega
      · intro h; exact ⟨n - b, famU_mem.2 (by omega), by omega⟩
    simp only [depO, Bool.false_eq_true, false_and, if_false, noOb, Option.map_none, this, dropO]
  have := k r hR
  simp only [e1, e2, List.map_nil, List.nil_append]
  exact this
theorem fam_eobs {st : St} {m : List (Nat × Option Nat)} {b : Nat} {ν : Nat → Nat} {z : List It} (h : ∀ i (h : i < z.length), nms m (b + (i + 1)) = some (some (ν i)) ∧ st.objs (ν i) = some (ro3 z[i].row)) : eobs st m (famL b z) := by
  have key : ∀ (l : List It) (k : Nat), (∀ i (h : i < l.length), nms m (b + (k + i + 1)) = some (some (ν (k + i))) ∧ st.objs (ν (k + i)) = some (ro3 l[i].row)) → eobs st m ((l.zipIdx k).map fun p => (b + (p.2 + 1), ro3 p.1.row)) := by
    intro l
    induction l with
    | nil => intro _ _; trivial
    | cons t r ih =>
      intro k hk
      simp only [List.zipIdx_cons, List.map_cons]
      refine ⟨?_, ih (k + 1) fun i hi => ?_⟩
      · obtain ⟨h1, h2⟩ := hk 0 (by simp)
        have h1 : nms m (b + (k + 1)) = some (some (ν k)) := h1
        have h2 : st.objs (ν k) = some (ro3 t.row) := h2
        rw [h1]
        exact ⟨_, h2, rfl, .same (ro3 t.row) _ _ (ro3_leafy _) rfl⟩
      · have := hk (i + 1) (by simp; omega)
        have e : k + (i + 1) = k + 1 + i := by omega
        rw [e] at this
        simpa using this
  refine key z 0 fun i hi => ?_
  simpa using h i hi
theorem fam_es {st : St} {m : List (Nat × Option Nat)} {b : Nat} {ν : Nat → Nat} {z : List It} {es : List (List AV)} (hes : es = z.zipIdx.map fun p => [.rf (ν p.2) 0 p.1.row.length, iA p.1.w]) (h : ∀ i, i < z.length → nms m (b + (i + 1)) = some (some (ν i))) : Es st m es (famC b z) := by
  subst hes
  refine Es_all (by simp [famC_len]) fun i q1 q2 => ?_
  have hi : i < z.length := by simpa using q1
  rw [famC_get hi]
  simp only [List.getElem_map, List.getElem_zipIdx, Nat.zero_add, wk.wks, wk, h i hi, iA]
  simp
theorem FINfam {T : Nat → Go.Vc.TI} {l : List ResultVar} {K : AV → (Nat → Option Ob) → Prop} {st : St} (a : Nat) (ν : Nat → Nat) (z : List It) (rl : List (Nat × AV)) {es : List (List AV)} (h1 : (a :: (List.range z.length).map ν).Nodup) (ha : st.objs a = some ⟨2, es⟩)
    (hes : es = z.zipIdx.map fun p => [.rf (ν p.2) 0 p.1.row.length, iA p.1.w]) (hrow : ∀ i (h : i < z.length), st.objs (ν i) = some (ro3 z[i].row)) (hr : ents st ((0, some a) :: famM 0 z.length ν) rl)
    (k : hRes T (mkS rl (famS 0 z) (0 :: famN 0 z.length)) l fun v => K v (famF z)) : FIN T noOb l K st := by
  have hn : ∀ i, i < z.length → nms ((0, some a) :: famM 0 z.length ν) (0 + (i + 1)) = some (some (ν i)) := fun i hi => by
    simp only [nms]
    rw [if_neg (by omega)]; exact famM_nms hi
  refine FINmk ((0, some a) :: famM 0 z.length ν) rl (famS 0 z) (0 :: famN 0 z.length) ?_ ⟨hr, ?_, fam_eobs fun i hi => ⟨hn i hi, hrow i hi⟩⟩ k
  · simp only [Bool.and_eq_true, decide_eq_true_eq, List.all_eq_true, olds, famM_olds]
    refine ⟨h1, fun x hx => ?_⟩
    rcases List.mem_cons.1 hx with rfl | hx
    · simp
    · obtain ⟨i, hi, rfl⟩ := List.mem_map.1 hx
      simp only [List.contains_eq_mem, decide_eq_true_eq]
      exact List.mem_cons_of_mem _ (famN_mem.2 ⟨i, List.mem_range.1 hi, rfl⟩)
  · simp only [nms, if_pos, eob]
    exact ⟨_, ha, rfl, fam_es hes hn⟩
theorem fam_nmOk {m1 : List (Nat × Option Nat)} {u1 : List Nat} {b n : Nat} {ν : Nat → Nat} (h : nmOk m1 u1 = true) (hnd : (olds m1 ++ (List.range n).map ν).Nodup) : nmOk (m1 ++ famM b n ν) (u1 ++ famN b n) = true := by
  simp only [nmOk, Bool.and_eq_true, decide_eq_true_eq, List.all_eq_true, List.contains_eq_mem] at h ⊢
  refine ⟨⟨by rw [olds_append, famM_olds]; exact hnd, fun x hx => ?_⟩, ?_⟩
  · rcases List.mem_append.1 hx with hx | hx
    · exact List.mem_append_left _ (h.1.2 x hx)
    · obtain ⟨i, hi, rfl⟩ := List.mem_map.1 hx
      exact List.mem_append_right _ (famN_mem.2 ⟨i, List.mem_range.1 hi, rfl⟩)
  · have h2 := h.2
    rw [nms_append]
    cases hm : nms m1 0 with
    | none => simp only [famM_none (Or.inl (Nat.zero_le b))]
    | some y => rw [hm] at h2; exact h2
theorem fam_nd {b n : Nat} {l : List Nat} (hl : l.Nodup) (h : ∀ x ∈ l, x ≤ b) : (l ++ (List.range n).map fun i => b + (i + 1)).Nodup := by
  rw [List.nodup_append]
  refine ⟨hl, ?_, fun x hx y hy e => ?_⟩
  · rw [List.Nodup, List.pairwise_map]
    exact List.nodup_range.imp fun {a c} hne e => hne (by omega)
  · obtain ⟨i, _, rfl⟩ := List.mem_map.1 hy
    have := h x hx
    omega
def nuX (b n x i : Nat) : Nat := if i < n then b + (i + 1) else x
theorem fam_nd2 {b n x : Nat} {l : List Nat} (hl : (x :: l).Nodup) (h : ∀ y ∈ x :: l, y ≤ b) : (l ++ (List.range (n + 1)).map (nuX b n x)).Nodup := by
  have e : (List.range (n + 1)).map (nuX b n x) = ((List.range n).map fun i => b + (i + 1)) ++ [x] := by
    rw [List.range_succ, List.map_append]
    congr 1
    · refine List.map_congr_left fun i hi => ?_
      simp [nuX, List.mem_range.1 hi]
    · simp [nuX]
  have h1 := fam_nd (n := n) (List.nodup_cons.1 hl).2 fun y hy => h y (by simp [hy])
  rw [e, ← List.append_assoc, List.nodup_append]
  refine ⟨h1, by simp, fun y hy z hz e2 => ?_⟩
  simp only [List.mem_singleton] at hz
  subst hz; subst e2
  rcases List.mem_append.1 hy with hy | hy
  · exact (List.nodup_cons.1 hl).1 hy
  · obtain ⟨i, _, e⟩ := List.mem_map.1 hy
    have := h y (by simp)
    omega
@[go_sem] theorem famN_lo {b n x : Nat} (h : (x ≤ b) = True) : (x ∈ famN b n) = False := by
  simp only [famN_mem, eq_iff_iff, iff_false]
  rintro ⟨i, _, rfl⟩
  have : b + (i + 1) ≤ b := by rw [h]; trivial
  omega
@[go_sem] theorem upd_fam {α : Type} {b i k : Nat} {f : Nat → α} {v : α} (h : (k ≤ b) = True) : upd f k v (b + (i + 1)) = f (b + (i + 1)) := by
  have : k ≤ b := by rw [h]; trivial
  exact upd_ne' _ _ (by omega)
theorem fam_nms {m1 : List (Nat × Option Nat)} {b n : Nat} {ν : Nat → Nat} {i : Nat} (h1 : ∀ x ∈ m1, x.1 ≤ b) (hi : i < n) : nms (m1 ++ famM b n ν) (b + (i + 1)) = some (some (ν i)) := by
  rw [nms_append]
  have : nms m1 (b + (i + 1)) = none := by
    cases h : nms m1 (b + (i + 1)) with
    | none => rfl
    | some y => have := h1 _ (nms_mem h); simp only at this; omega
  rw [this]; exact famM_nms hi
theorem nuX_lt {b n x i : Nat} (h : i < n) : nuX b n x i = b + (i + 1) := if_pos h
theorem nuX_n {b n x : Nat} : nuX b n x n = x := if_neg (Nat.lt_irrefl n)
theorem fam_ext {b x : Nat} {z : List It} {t : It} : famC b z ++ [[.rf x 0 t.row.length, iA t.w]] = (z ++ [t]).zipIdx.map fun p => [.rf (nuX b z.length x p.2) 0 p.1.row.length, iA p.1.w] := by
  rw [List.zipIdx_append, List.map_append, famC]
  congr 1
  · refine List.map_congr_left fun p hp => ?_
    rw [nuX_lt (zip_mem hp).1]
  · simp [nuX_n]
theorem fam_rows {st : St} {b x : Nat} {z : List It} {t : It} (h : ∀ i (h : i < z.length), st.objs (b + (i + 1)) = some (ro3 z[i].row)) (hx : st.objs x = some (ro3 t.row)) : ∀ i (h : i < (z ++ [t]).length), st.objs (nuX b z.length x i) = some (ro3 (z ++ [t])[i].row) := fun i hi => by
  by_cases e : i < z.length
  · rw [nuX_lt e, List.getElem_append_left e]; exact h i e
  · have : i = z.length := by simp at hi; omega
    subst this
    rw [nuX_n]; simpa using hx
end Yt
namespace Yt
open Go Go.Vc Go.Proofs
set_option maxRecDepth 10000
set_option maxHeartbeats 8000000
set_option linter.unusedSimpArgs false
set_option linter.unusedVariables false
theorem f76 (z : List It) (hl : z.length ≤ 1048576) (hr : ∀ t ∈ z, t.row.length < 1073741824) :
    SpecF Try.prog 7 [setA z] (fun r out => ∃ err : Int, r = .tu [.rf 0 0 out.length, iA err] ∧ MakeR z out err) := by
  refine funspecD_of_vc tabOk elems ord7 Try.func7 rfl (rl := [.tmp 2, .tmp 3]) rfl (by kernel_rfl) rfl (fun _ h => absurd rfl h) ?_
  (simp -implicitDefEqProofs only [go_sem, setA]; repeat (refine GO ?_; simp -implicitDefEqProofs only [go_sem, setA]))
  refine .pure _ (s34 z (fun t ht => by have := hr t ht; omega) (by omega)) rfl fun r hr' _ => ?_
  subst hr'
  (simp -implicitDefEqProofs only [go_sem, bA]; repeat (refine GO ?_; simp -implicitDefEqProofs only [go_sem, bA]))
  refine VIF.split (fun h => ?_) (fun hbad => ?_)
  · (simp -implicitDefEqProofs only [go_sem]; repeat (refine GO ?_; simp -implicitDefEqProofs only [go_sem]))
    refine FINmk [(0, none)] [(2, .rf 0 0 0), (3, iA 1)] [(0, so [])] [0] rfl ?_ ?_
    · (simp -implicitDefEqProofs only [go_sem, iA]; repeat (refine GO ?_; simp -implicitDefEqProofs only [go_sem, iA]))
      simp [so]
    · exact ⟨[], ⟨⟨1, rfl, .inl ⟨h, rfl, rfl⟩⟩, rfl⟩, rfl⟩
  · (simp -implicitDefEqProofs only [go_sem]; repeat (refine GO ?_; simp -implicitDefEqProofs only [go_sem]))
    refine .make 13 _ (s38 z (by omega)) rfl (by simp) rfl fun r o hro _ => ?_
    obtain ⟨rfl, rfl⟩ := hro
    (simp -implicitDefEqProofs only [go_sem]; repeat (refine GO ?_; simp -implicitDefEqProofs only [go_sem]))
    refine .obj 13 (so z) _ [.rf 0 0 z.length, .fn 30 []] (s39 30 cI cmp_cI (fun t => t.row.length < 4611686018427387904) (fun x y hx _ => s40 x y hx) z (fun t ht => by have := hr t ht; omega) (by omega)) rfl (so_leafy z) rfl rfl fun r o' hro _ _ => ?_
    obtain ⟨rfl, y, rfl, hw, hs⟩ := hro
    have hlen := hw.len
    have hry : ∀ t ∈ y, t.row.length < 1073741824 := fun t ht => hr t (hw.perm.mem_iff.1 ht)
    have hok : ∀ t ∈ y, okI t = true := fun t ht => by
      have h1 : ∀ u ∈ z, okI u = true := by simpa using hbad
      exact h1 t (hw.perm.mem_iff.1 ht)
    have hs : SR cI y 0 y.length := by rw [hlen]; exact hs
    rw [← hlen]
    (simp -implicitDefEqProofs only [go_sem]; repeat (refine GO ?_; simp -implicitDefEqProofs only [go_sem]))
    refine LOOP.mk (ι := { p : Nat × List It // GI y p.1 p.2 ∧ p.2.length ≤ p.1 }) (fun p => mkS [(4, .rf 1000 p.1.1 (y.length - p.1.1)), (5, .rf 1001 0 p.1.2.length)] ([(1000, so y), (1001, ⟨2, famC 2000 p.1.2⟩)] ++ famL 2000 p.1.2) ([1000, 1001] ++ famN 2000 p.1.2.length))
      (fun p => y.length - p.1.1) ⟨(0, []), .start y, Nat.le_refl _⟩ [(1000, some 13), (1001, none)] rfl rfl ?_ (fun p => ?_)
    · (simp -implicitDefEqProofs only [go_sem, so]; repeat (refine GO ?_; simp -implicitDefEqProofs only [go_sem, so]))
      exact ⟨id, .same (so y) _ _ (so_leafy y) rfl, rfl, trivial⟩
    · obtain ⟨⟨off, out⟩, g, hol⟩ := p
      have hle := g.le
      simp only at hle hol
      (simp -implicitDefEqProofs only [go_sem, so]; repeat (refine GO ?_; simp -implicitDefEqProofs only [go_sem, so]))
      refine VIF.split (fun h1 => ?_) (fun h1 => ?_)
      · have h0 : off < y.length := by simp at h1; omega
        (simp -implicitDefEqProofs only [go_sem]; repeat (refine GO ?_; simp -implicitDefEqProofs only [go_sem]))
        refine LOOP.join (ι := { q : Nat × Int × Int // TI y off q.1 q.2.1 q.2.2 ∧ Run y off (off + q.1) })
          (fun q => mkS [(4, .rf 1000 off (y.length - off)), (5, .rf 1001 0 out.length), (6, iA q.1.1), (7, .pt 1002 0 0)] ([(1000, so y), (1001, ⟨2, famC 2000 out⟩), (1002, to2 q.1.2.1 q.1.2.2)] ++ famL 2000 out) ([1000, 1001, 1002] ++ famN 2000 out.length)) ?_ (fun q => ?_)
        · refine LOOP.mk (ι := { q : Nat × Int × Int // TI y off q.1 q.2.1 q.2.2 })
            (fun q => mkS [(4, .rf 1000 off (y.length - off)), (5, .rf 1001 0 out.length), (6, iA q.1.1), (7, .pt 1002 0 0)] ([(1000, so y), (1001, ⟨2, famC 2000 out⟩), (1002, to2 q.1.2.1 q.1.2.2)] ++ famL 2000 out) ([1000, 1001, 1002] ++ famN 2000 out.length))
            (fun q => y.length - off - q.1.1) ⟨(0, 0, 0), .start hle⟩ ([(1000, some 1000), (1001, some 1001), (1002, some 7)] ++ famM 2000 out.length fun i => 2000 + (i + 1)) rfl (fam_nmOk rfl (fam_nd (by decide) (by decide))) ?_ (fun q => ?_)
          · (simp -implicitDefEqProofs only [go_sem, iA, to2, so]; repeat (refine GO ?_; simp -implicitDefEqProofs only [go_sem, iA, to2, so]))
            exact ⟨id, rfl, .same (so y) _ _ (so_leafy y) rfl, fam_es (ν := fun i => 2000 + (i + 1)) rfl (fun i hi => fam_nms (m1 := [(1000, some 1000), (1001, some 1001), (1002, some 7)]) (by simp) hi), .same (to2 0 0) _ _ (to2_leafy 0 0) rfl, fam_eobs (ν := fun i => 2000 + (i + 1)) fun i hi => ⟨fam_nms (m1 := [(1000, some 1000), (1001, some 1001), (1002, some 7)]) (by simp) hi, by (simp -implicitDefEqProofs only [go_sem]; repeat (refine GO ?_; simp -implicitDefEqProofs only [go_sem])); exact famL_get hi⟩⟩
          · obtain ⟨⟨i, h, l⟩, ti⟩ := q
            simp only at ti
            have til := ti.le
            (simp -implicitDefEqProofs only [go_sem, iA, to2, so]; repeat (refine GO ?_; simp -implicitDefEqProofs only [go_sem, iA, to2, so]))
            refine VIF.split (fun h2 => ?_) (fun h2 => ?_)
            · have hi : off + i < y.length := by simp at h2; omega
              (simp -implicitDefEqProofs only [go_sem]; repeat (refine GO ?_; simp -implicitDefEqProofs only [go_sem]))
              refine ⟨by omega, EL.map hi ?_⟩
              (simp -implicitDefEqProofs only [go_sem, It.c]; repeat (refine GO ?_; simp -implicitDefEqProofs only [go_sem, It.c]))
              refine ⟨by omega, EL.map (show off + 0 < y.length by omega) ?_⟩
              (simp -implicitDefEqProofs only [go_sem, It.c]; repeat (refine GO ?_; simp -implicitDefEqProofs only [go_sem, It.c]))
              refine .pure _ (s13 y[off + i].row y[off + Int.toNat 0].row (by have := hry y[off + i] (List.getElem_mem hi); omega)) rfl fun r hr _ => ?_
              subst hr
              (simp -implicitDefEqProofs only [go_sem]; repeat (refine GO ?_; simp -implicitDefEqProofs only [go_sem]))
              refine VIF.split (fun h3 => ?_) (fun h3 => ?_)
              · have h3 : cI y[off + i] y[off] = 0 := by simpa [cI] using h3
                (simp -implicitDefEqProofs only [go_sem]; repeat (refine GO ?_; simp -implicitDefEqProofs only [go_sem]))
                refine ⟨by omega, EL.map hi ?_⟩
                (simp -implicitDefEqProofs only [go_sem, It.c]; repeat (refine GO ?_; simp -implicitDefEqProofs only [go_sem, It.c]))
                have hbb : i ≤ 1048576 := by omega
                have hb1 := ti.hb
                have hb2 := ti.lb
                have hoi := hok y[off + i] (List.getElem_mem hi)
                have hwi : okW y[off + i].w = true := by
                  simp only [okI, Bool.and_eq_true] at hoi; exact hoi.2
                have hwl := okW_le hwi
                refine .obj 1002 (to2 h l) _ [.pt 0 0 0, iA y[off + i].w] (s41 h l y[off + i].w (by omega) (by omega) (by omega)) rfl (to2_leafy h l) rfl rfl fun r o' hr _ _ => ?_
                obtain ⟨rfl, rfl⟩ := hr
                have w3 := wrap_add1 (show i < 4611686018427387904 by omega)
                (simp -implicitDefEqProofs only [go_sem, w3]; repeat (refine GO ?_; simp -implicitDefEqProofs only [go_sem, w3]))
                refine BACK.mk ⟨(i + 1, h + y[off + i].w / 268435456, l + y[off + i].w % 268435456), ti.step hi (fun _ => h3) hwi⟩ ([(1000, some 1000), (1001, some 1001), (1002, some 1002)] ++ famM 2000 out.length fun i => 2000 + (i + 1)) rfl (fam_nmOk rfl (fam_nd (by decide) (by decide))) (by show y.length - off - (i + 1) < y.length - off - i; omega) ?_
                (simp -implicitDefEqProofs only [go_sem, iA, to2, so, w3]; repeat (refine GO ?_; simp -implicitDefEqProofs only [go_sem, iA, to2, so, w3]))
                exact ⟨id, .same (so y) _ _ (so_leafy y) rfl, fam_es (ν := fun i => 2000 + (i + 1)) rfl (fun i hi => fam_nms (m1 := [(1000, some 1000), (1001, some 1001), (1002, some 1002)]) (by simp) hi), .same (to2 (h + y[off + i].w / 268435456) (l + y[off + i].w % 268435456)) _ _ (to2_leafy (h + y[off + i].w / 268435456) (l + y[off + i].w % 268435456)) rfl, fam_eobs (ν := fun i => 2000 + (i + 1)) fun i hi => ⟨fam_nms (m1 := [(1000, some 1000), (1001, some 1001), (1002, some 1002)]) (by simp) hi, by (simp -implicitDefEqProofs only [go_sem]; repeat (refine GO ?_; simp -implicitDefEqProofs only [go_sem])); exact famL_get hi⟩⟩
              · have h3 : cI y[off + i] y[off] ≠ 0 := by simpa [cI] using h3
                (simp -implicitDefEqProofs only [go_sem]; repeat (refine GO ?_; simp -implicitDefEqProofs only [go_sem]))
                refine JB.mk ⟨(i, h, l), ti, ti.run h0 (fun hi => h3)⟩ ([(1000, some 1000), (1001, some 1001), (1002, some 1002)] ++ famM 2000 out.length fun i => 2000 + (i + 1)) rfl (fam_nmOk rfl (fam_nd (by decide) (by decide))) ?_
                (simp -implicitDefEqProofs only [go_sem, iA, to2, so]; repeat (refine GO ?_; simp -implicitDefEqProofs only [go_sem, iA, to2, so]))
                exact ⟨id, .same (so y) _ _ (so_leafy y) rfl, fam_es (ν := fun i => 2000 + (i + 1)) rfl (fun i hi => fam_nms (m1 := [(1000, some 1000), (1001, some 1001), (1002, some 1002)]) (by simp) hi), .same (to2 h l) _ _ (to2_leafy h l) rfl, fam_eobs (ν := fun i => 2000 + (i + 1)) fun i hi => ⟨fam_nms (m1 := [(1000, some 1000), (1001, some 1001), (1002, some 1002)]) (by simp) hi, by (simp -implicitDefEqProofs only [go_sem]; repeat (refine GO ?_; simp -implicitDefEqProofs only [go_sem])); exact famL_get hi⟩⟩
            · have hi : off + i = y.length := by simp at h2; omega
              (simp -implicitDefEqProofs only [go_sem]; repeat (refine GO ?_; simp -implicitDefEqProofs only [go_sem]))
              refine JB.mk ⟨(i, h, l), ti, ti.run h0 (fun hi => by omega)⟩ ([(1000, some 1000), (1001, some 1001), (1002, some 1002)] ++ famM 2000 out.length fun i => 2000 + (i + 1)) rfl (fam_nmOk rfl (fam_nd (by decide) (by decide))) ?_
              (simp -implicitDefEqProofs only [go_sem, iA, to2, so]; repeat (refine GO ?_; simp -implicitDefEqProofs only [go_sem, iA, to2, so]))
              exact ⟨id, .same (so y) _ _ (so_leafy y) rfl, fam_es (ν := fun i => 2000 + (i + 1)) rfl (fun i hi => fam_nms (m1 := [(1000, some 1000), (1001, some 1001), (1002, some 1002)]) (by simp) hi), .same (to2 h l) _ _ (to2_leafy h l) rfl, fam_eobs (ν := fun i => 2000 + (i + 1)) fun i hi => ⟨fam_nms (m1 := [(1000, some 1000), (1001, some 1001), (1002, some 1002)]) (by simp) hi, by (simp -implicitDefEqProofs only [go_sem]; repeat (refine GO ?_; simp -implicitDefEqProofs only [go_sem])); exact famL_get hi⟩⟩
        · obtain ⟨⟨i, h, l⟩, ti, ru⟩ := q
          simp only at ti ru
          (simp -implicitDefEqProofs only [go_sem, iA, to2, so]; repeat (refine GO ?_; simp -implicitDefEqProofs only [go_sem, iA, to2, so]))
          have hbb : i ≤ 1048576 := by have := ti.le; omega
          have hb1 := ti.hb
          have hb2 := ti.lb
          refine .pure _ (s42 h l (by omega) (by omega)) rfl fun r hr _ => ?_
          obtain ⟨v, rfl, hv⟩ := hr
          (simp -implicitDefEqProofs only [go_sem, iA, bA]; repeat (refine GO ?_; simp -implicitDefEqProofs only [go_sem, iA, bA]))
          have hoff : off + i - off = i := by omega
          have htot := g.total hs ru h0
          have hsum := ti.sum
          rw [hoff] at htot
          refine VIF.split (fun h3 => ?_) (fun h3 => ?_)
          · have h3 : okW (h * 268435456 + l) = false := by simpa using h3
            (simp -implicitDefEqProofs only [go_sem]; repeat (refine GO ?_; simp -implicitDefEqProofs only [go_sem]))
            refine FINmk [(0, none)] [(2, .rf 0 0 0), (3, iA 11)] [(0, so [])] [0] rfl ?_ ?_
            · (simp -implicitDefEqProofs only [go_sem, iA]; repeat (refine GO ?_; simp -implicitDefEqProofs only [go_sem, iA]))
              simp [so]
            · refine ⟨[], ⟨⟨11, rfl, .inr (.inl ⟨hbad, rfl, rfl, y[off].row, ?_⟩)⟩, rfl⟩, rfl⟩
              rw [← tot_perm hw.perm, htot, ← hsum]; exact h3
          · have h3 : okW (h * 268435456 + l) = true := by simpa using h3
            have hv := hv h3
            have gs := g.step hs ru h0 (by rw [hoff, ← hsum]; exact h3)
            rw [hoff, ← hsum, ← hv] at gs
            have hle2 := ru.le
            have hlt2 := ru.lt
            (simp -implicitDefEqProofs only [go_sem]; repeat (refine GO ?_; simp -implicitDefEqProofs only [go_sem]))
            refine VIF.split (fun h4 => ?_) (fun h4 => ?_)
            · have h4 : v ≠ 0 := by simpa using h4
              rw [if_neg h4] at gs
              (simp -implicitDefEqProofs only [go_sem]; repeat (refine GO ?_; simp -implicitDefEqProofs only [go_sem]))
              refine ⟨by omega, EL.map (show off + 0 < y.length by omega) ?_⟩
              (simp -implicitDefEqProofs only [go_sem, It.c]; repeat (refine GO ?_; simp -implicitDefEqProofs only [go_sem, It.c]))
              refine .make 61 _ (s43 y[off + Int.toNat 0].row (by have := hry y[off] (List.getElem_mem h0); simp; omega)) rfl (by simp [famN_lo (b := 2000) (x := 61) (eq_true (by decide))]) rfl fun r o hro _ => ?_
              obtain ⟨rfl, rfl⟩ := hro
              (simp -implicitDefEqProofs only [go_sem]; repeat (refine GO ?_; simp -implicitDefEqProofs only [go_sem]))
              refine ⟨by omega, ?_⟩
              (simp -implicitDefEqProofs only [go_sem]; repeat (refine GO ?_; simp -implicitDefEqProofs only [go_sem]))
              refine ⟨by omega, ?_⟩
              refine BACK.mk ⟨(off + i, out ++ [⟨y[off].row, v⟩]), gs, by simp; omega⟩ ([(1000, some 1000), (1001, some 65)] ++ famM 2000 (out.length + 1) (nuX 2000 out.length 61)) rfl (by rw [List.length_append]; exact fam_nmOk rfl (fam_nd2 (by decide) (by decide))) (by show y.length - (off + i) < y.length - off; omega) ?_
              (simp -implicitDefEqProofs only [go_sem, iA, so]; repeat (refine GO ?_; simp -implicitDefEqProofs only [go_sem, iA, so]))
              have h0' : y[off + Int.toNat 0] = y[off] := rfl
              refine ⟨id, ⟨by omega, by simp⟩, .same (so y) _ _ (so_leafy y) rfl, ?_, ?_⟩
              · rw [show List.take out.length (famC 2000 out) = famC 2000 out from List.take_of_length_le (by simp [famC_len])]
                exact fam_es (ν := nuX 2000 out.length 61) (fam_ext (t := ⟨y[off].row, v⟩)) fun i hi => fam_nms (m1 := [(1000, some 1000), (1001, some 65)]) (by simp) (by simpa using hi)
              · exact fam_eobs (ν := nuX 2000 out.length 61) fun i hi => ⟨fam_nms (m1 := [(1000, some 1000), (1001, some 65)]) (by simp) (by simpa using hi), fam_rows (t := ⟨y[off].row, v⟩) (fun i hi => by (simp -implicitDefEqProofs only [go_sem]; repeat (refine GO ?_; simp -implicitDefEqProofs only [go_sem])); exact famL_get hi) rfl i hi⟩
            · have h4 : v = 0 := by simpa using h4
              rw [if_pos h4] at gs
              (simp -implicitDefEqProofs only [go_sem]; repeat (refine GO ?_; simp -implicitDefEqProofs only [go_sem]))
              refine ⟨by omega, ?_⟩
              refine BACK.mk ⟨(off + i, out), gs, by show out.length ≤ off + i; omega⟩ ([(1000, some 1000), (1001, some 1001)] ++ famM 2000 out.length fun i => 2000 + (i + 1)) rfl (fam_nmOk rfl (fam_nd (by decide) (by decide))) (by show y.length - (off + i) < y.length - off; omega) ?_
              (simp -implicitDefEqProofs only [go_sem, iA, so]; repeat (refine GO ?_; simp -implicitDefEqProofs only [go_sem, iA, so]))
              exact ⟨id, by omega, .same (so y) _ _ (so_leafy y) rfl, fam_es (ν := fun i => 2000 + (i + 1)) rfl (fun i hi => fam_nms (m1 := [(1000, some 1000), (1001, some 1001)]) (by simp) hi), fam_eobs (ν := fun i => 2000 + (i + 1)) fun i hi => ⟨fam_nms (m1 := [(1000, some 1000), (1001, some 1001)]) (by simp) hi, by (simp -implicitDefEqProofs only [go_sem]; repeat (refine GO ?_; simp -implicitDefEqProofs only [go_sem])); exact famL_get hi⟩⟩
      · have h0 : off = y.length := by simp at h1; omega
        (simp -implicitDefEqProofs only [go_sem]; repeat (refine GO ?_; simp -implicitDefEqProofs only [go_sem]))
        subst h0
        have hgt := g.tot
        rw [List.take_length] at hgt
        refine FINfam 1001 (fun i => 2000 + (i + 1)) out [(2, .rf 0 0 out.length), (3, iA 0)] (es := famC 2000 out) (fam_nd (l := [1001]) (by decide) (by decide)) (by (simp -implicitDefEqProofs only [go_sem]; repeat (refine GO ?_; simp -implicitDefEqProofs only [go_sem]))) rfl (fun i hi => by (simp -implicitDefEqProofs only [go_sem]; repeat (refine GO ?_; simp -implicitDefEqProofs only [go_sem])); exact famL_get hi) ?_ ?_
        · (simp -implicitDefEqProofs only [go_sem, iA]; repeat (refine GO ?_; simp -implicitDefEqProofs only [go_sem, iA]))
        · refine ⟨out, ⟨⟨0, rfl, .inr (.inr ⟨hbad, rfl, g.made, fun r => (hgt r).trans (tot_perm hw.perm), fun t ht => ?_, by omega⟩)⟩, rfl⟩, rfl⟩
          obtain ⟨u, hu, e⟩ := g.src t ht
          have := hok u hu
          refine ⟨?_, u, hw.perm.mem_iff.1 hu, e⟩
          rw [← e]
          simp [okI] at this
          exact this.1
end Yt
namespace Yt
open Go Go.Vc Go.Proofs
set_option maxRecDepth 10000
set_option maxHeartbeats 4000000
set_option linter.unusedSimpArgs false
set_option linter.unusedVariables false
def zc : List AV := [.nl, iA 0]
def famT (b : Nat) (z : List It) (tl : Nat) : List (Nat × Ob) := (b, ⟨2, famC b z ++ List.replicate tl zc⟩) :: famL b z
theorem famT_0 (b : Nat) (z : List It) (tl : Nat) : mkO (famT b z tl) b = some ⟨2, famC b z ++ List.replicate tl zc⟩ := by simp [famT, mkO, upd]
theorem zc_rn (ρ : Nat → Nat) : rns ρ zc = zc := rfl
def famI (z : List It) (tl : Nat) : Nat → Option Ob := mkO ([(1000, ⟨2, famC 2000 z ++ List.replicate tl zc⟩)] ++ famL 2000 z)
def famW (n : Nat) : List Nat := [1000] ++ famN 2000 n
theorem famI_cases {z : List It} {tl x : Nat} {o : Ob} (h : famI z tl x = some o) : (x = 1000 ∧ o = ⟨2, famC 2000 z ++ List.replicate tl zc⟩) ∨ ∃ i, ∃ hi : i < z.length, x = 2000 + (i + 1) ∧ o = ro3 z[i].row := by
  simp only [famI, List.singleton_append, mkO, upd] at h
  split at h
  · rename_i e; cases h; first | exact .inl ⟨e, rfl⟩ | exact .inl ⟨e.symm, rfl⟩
  · by_cases e2 : x ≤ 2000 ∨ 2000 + z.length < x
    · rw [famL_none e2] at h; cases h
    · obtain ⟨i, rfl⟩ : ∃ i, x = 2000 + (i + 1) := ⟨x - 2000 - 1, by omega⟩
      have hi : i < z.length := by omega
      rw [famL_get hi] at h; cases h
      exact .inr ⟨i, hi, rfl, rfl⟩
theorem famW_mem {n x : Nat} : x ∈ famW n ↔ x = 1000 ∨ ∃ i, i < n ∧ x = 2000 + (i + 1) := by
  simp only [famW, List.mem_append, List.mem_singleton, famN_mem]
theorem famI_closed {z : List It} {tl i : Nat} {o : Ob} (h : famI z tl i = some o) : i ∈ famW z.length ∧ ∀ x ∈ o.es, inNs (· ∈ famW z.length) x := by
  rcases famI_cases h with ⟨rfl, rfl⟩ | ⟨i, hi, rfl, rfl⟩
  · refine ⟨famW_mem.2 (.inl rfl), fun x hx => ?_⟩
    rcases List.mem_append.1 hx with hx | hx
    · obtain ⟨j, hj, rfl⟩ := List.mem_iff_getElem.1 hx
      have hj' : j < z.length := by simpa [famC_len] using hj
      rw [famC_get hj']
      exact ⟨famW_mem.2 (.inr ⟨j, hj', rfl⟩), trivial, trivial⟩
    · rw [(List.mem_replicate.1 hx).2]
      exact ⟨trivial, trivial, trivial⟩
  · refine ⟨famW_mem.2 (.inr ⟨i, hi, rfl⟩), fun x hx => ?_⟩
    obtain ⟨v, _, rfl⟩ := List.mem_map.1 hx
    exact ⟨trivial, trivial, trivial, trivial⟩
def rhoF (a : Nat) (ν : Nat → Nat) (x : Nat) : Nat := if x = 1000 then a else ν (x - 2001)
theorem rhoF_0 {a : Nat} {ν : Nat → Nat} : rhoF a ν 1000 = a := rfl
theorem rhoF_row {a : Nat} {ν : Nat → Nat} {i : Nat} : rhoF a ν (2000 + (i + 1)) = ν i := by
  rw [rhoF, if_neg (by omega)]; congr 1; omega
def cellsN (ν : Nat → Nat) (z : List It) : List (List AV) := z.zipIdx.map fun p => [.rf (ν p.2) 0 p.1.row.length, iA p.1.w]
theorem famC_cells (b : Nat) (z : List It) : famC b z = cellsN (fun i => b + (i + 1)) z := rfl
theorem cellsN_len (ν : Nat → Nat) (z : List It) : (cellsN ν z).length = z.length := by simp [cellsN]
theorem famC_rho (a : Nat) (ν : Nat → Nat) (z : List It) : (famC 2000 z).map (rns (rhoF a ν)) = cellsN ν z := by
  refine List.ext_getElem (by simp [famC_len, cellsN_len]) fun i q1 q2 => ?_
  have hi : i < z.length := by simpa [famC_len] using q1
  rw [List.getElem_map, famC_get hi]
  simp only [rns, AV.rn, cellsN, List.getElem_map, List.getElem_zipIdx, rhoF_row, Nat.zero_add]
  rfl
def famP (b : Nat) (z : List It) (tl : Nat) (objs : Nat → Option Ob) (n : Nat) : Option Ob := if b ≤ n then mkO (famT b z tl) n else objs n
@[go_sem] theorem famP_0 {b : Nat} {z : List It} {tl : Nat} {objs : Nat → Option Ob} : famP b z tl objs b = some ⟨2, famC b z ++ List.replicate tl zc⟩ := by simp [famP, famT_0]
end Yt
namespace Yt
open Go Go.Vc Go.Proofs
set_option maxRecDepth 10000
set_option maxHeartbeats 8000000
set_option linter.unusedSimpArgs false
set_option linter.unusedVariables false
def twC (b : Nat) (z : List It) (i : Nat) : List (List AV) := famC b (z.take i) ++ (z.drop i).map It.c
theorem twC_get {b : Nat} {z : List It} {i : Nat} (h : i < z.length) : (twC b z i)[i]? = some (It.c z[i]) := by
  rw [twC, List.getElem?_append_right (by simp [famC_len]; omega)]
  simp [famC_len, Nat.min_eq_left (Nat.le_of_lt h), h]
theorem EL.tw {b : Nat} {z : List It} {i : Nat} {K : List AV → Prop} (h : i < z.length) (k : K (It.c z[i])) : EL (twC b z i) i K := ⟨_, twC_get h, k⟩
theorem twC_set {b x : Nat} {z : List It} {i : Nat} (h : i < z.length) : (twC b z i).set i [.rf x 0 z[i].row.length, iA z[i].w] = cellsN (nuX b i x) (z.take (i + 1)) ++ (z.drop (i + 1)).map It.c := by
  have hlen : (famC b (z.take i)).length = i := by rw [famC_len, List.length_take]; omega
  have htl : (z.take i).length = i := by rw [List.length_take]; omega
  rw [twC, List.set_append_right _ _ (by omega), hlen, Nat.sub_self, List.drop_eq_getElem_cons h, List.map_cons, List.set_cons_zero, List.take_succ_eq_append_getElem h]
  have := fam_ext (b := b) (x := x) (z := z.take i) (t := z[i])
  rw [htl] at this
  rw [cellsN, ← this]
  simp
theorem map_c_wks {st : St} {m : List (Nat × Option Nat)} (z : List It) : Es st m (z.map It.c) (z.map It.c) := Es_refl (so_leafy z)
theorem f83 (z : List It) (hl : z.length ≤ 1048576) (hr : ∀ t ∈ z, t.row.length < 1073741824) : SpecF Try.prog 44 [setA z] (fun r out => r = .rf 0 0 out.length ∧ out = z) := by
  refine funspecD_of_vc tabOk elems ord44 Try.func44 rfl (rl := [.tmp 2]) rfl (by kernel_rfl) rfl (fun _ h => absurd rfl h) ?_
  (simp -implicitDefEqProofs only [go_sem, setA]; repeat (refine GO ?_; simp -implicitDefEqProofs only [go_sem, setA]))
  refine .make 6 _ (s38 z (by omega)) rfl (by simp) rfl fun q o hq _ => ?_
  obtain ⟨rfl, rfl⟩ := hq
  (simp -implicitDefEqProofs only [go_sem]; repeat (refine GO ?_; simp -implicitDefEqProofs only [go_sem]))
  refine LOOP.mk (ι := { i : Nat // i ≤ z.length }) (fun p => mkS [(3, .rf 1000 0 z.length), (8, iA z.length), (9, iA p.1)] ([(1000, ⟨2, twC 2000 z p.1⟩)] ++ famL 2000 (z.take p.1)) ([1000] ++ famN 2000 p.1))
    (fun p => z.length - p.1) ⟨0, Nat.zero_le _⟩ [(1000, some 6)] rfl rfl ?_ (fun p => ?_)
  · (simp -implicitDefEqProofs only [go_sem, iA, so]; repeat (refine GO ?_; simp -implicitDefEqProofs only [go_sem, iA, so]))
    refine ⟨id, rfl, ?_⟩
    have e : twC 2000 z 0 = z.map It.c := by simp [twC, famC]
    rw [e]
    exact ⟨map_c_wks z, trivial⟩
  · obtain ⟨i, hi⟩ := p
    have htl : (z.take i).length = i := by rw [List.length_take]; omega
    (simp -implicitDefEqProofs only [go_sem, iA]; repeat (refine GO ?_; simp -implicitDefEqProofs only [go_sem, iA]))
    refine VIF.split (fun h => ?_) (fun h => ?_)
    · have h : i < z.length := by simpa using h
      have w1 := wrap_add1 (show i < 4611686018427387904 by omega)
      (simp -implicitDefEqProofs only [go_sem]; repeat (refine GO ?_; simp -implicitDefEqProofs only [go_sem]))
      refine ⟨by omega, EL.tw h ?_⟩
      (simp -implicitDefEqProofs only [go_sem, It.c]; repeat (refine GO ?_; simp -implicitDefEqProofs only [go_sem, It.c]))
      refine .make 19 _ (s43 z[i].row (by have := hr _ (List.getElem_mem h); omega)) rfl (by simp [famN_lo (b := 2000) (x := 19) (eq_true (by decide))]) rfl fun q o hq _ => ?_
      obtain ⟨rfl, rfl⟩ := hq
      (simp -implicitDefEqProofs only [go_sem, w1]; repeat (refine GO ?_; simp -implicitDefEqProofs only [go_sem, w1]))
      refine ⟨by omega, EL.tw h ?_⟩
      (simp -implicitDefEqProofs only [go_sem, It.c, w1]; repeat (refine GO ?_; simp -implicitDefEqProofs only [go_sem, It.c, w1]))
      refine BACK.mk ⟨i + 1, by omega⟩ ([(1000, some 1000)] ++ famM 2000 (i + 1) (nuX 2000 i 19)) rfl (fam_nmOk rfl (fam_nd2 (by decide) (by decide))) (by show z.length - (i + 1) < z.length - i; omega) ?_
      (simp -implicitDefEqProofs only [go_sem, iA, w1]; repeat (refine GO ?_; simp -implicitDefEqProofs only [go_sem, iA, w1]))
      have e1 : (z.take i) ++ [z[i]] = z.take (i + 1) := (List.take_succ_eq_append_getElem h).symm
      have hset := twC_set (b := 2000) (x := 19) h
      simp only [iA] at hset
      refine ⟨id, ?_, ?_⟩
      · rw [hset, twC]
        refine Es.app ?_ (map_c_wks _)
        exact fam_es rfl fun j hj => fam_nms (m1 := [(1000, some 1000)]) (by simp) (by simp at hj; omega)
      · rw [← e1]
        refine fam_eobs (ν := nuX 2000 i 19) fun j hj => ⟨fam_nms (m1 := [(1000, some 1000)]) (by simp) (by simp at hj; omega), ?_⟩
        have hν : nuX 2000 i 19 = nuX 2000 (z.take i).length 19 := by rw [htl]
        rw [hν]
        exact fam_rows (b := 2000) (x := 19) (z := z.take i) (t := z[i]) (fun j hj => by (simp -implicitDefEqProofs only [go_sem]; repeat (refine GO ?_; simp -implicitDefEqProofs only [go_sem])); exact famL_get hj) rfl j hj
    · have h : i = z.length := by simp at h; omega
      subst h
      (simp -implicitDefEqProofs only [go_sem]; repeat (refine GO ?_; simp -implicitDefEqProofs only [go_sem]))
      rw [List.take_length]
      refine FINfam 1000 (fun i => 2000 + (i + 1)) z [(2, .rf 0 0 z.length)] (es := famC 2000 z) (fam_nd (l := [1000]) (by decide) (by decide)) (by (simp -implicitDefEqProofs only [go_sem]; repeat (refine GO ?_; simp -implicitDefEqProofs only [go_sem])); simp [twC]) rfl (fun i hi => by (simp -implicitDefEqProofs only [go_sem]; repeat (refine GO ?_; simp -implicitDefEqProofs only [go_sem])); exact famL_get hi) ?_ ?_
      · (simp -implicitDefEqProofs only [go_sem]; repeat (refine GO ?_; simp -implicitDefEqProofs only [go_sem]))
      · exact ⟨z, ⟨⟨rfl, rfl⟩, rfl⟩, rfl⟩
end Yt
namespace Yt
open Go Go.Vc Go.Proofs
set_option maxRecDepth 10000
set_option maxHeartbeats 8000000
set_option linter.unusedSimpArgs false
set_option linter.unusedVariables false
structure Dg {α : Type} (p : α → Bool) (z y : List α) (i j : Nat) : Prop where
  ij : i < j
  jn : j ≤ z.length
  len : y.length = z.length
  kept : y.take i = (z.take j).filter fun t => !p t
  rest : y.drop j = z.drop j
theorem Dg.keep {α : Type} {p : α → Bool} {z y : List α} {i j : Nat} (d : Dg p z y i j) (hj : j < z.length) (hp : p z[j] = false) : Dg p z (y.set i z[j]) (i + 1) (j + 1) := by
  obtain ⟨h1, h2, h3, h4, h5⟩ := d
  refine ⟨by omega, by omega, by simp [h3], ?_, ?_⟩
  · rw [List.take_succ_eq_append_getElem (by simp; omega), List.take_succ_eq_append_getElem hj, List.filter_append, ← h4, List.take_set_of_le (Nat.le_refl _)]
    simp [hp]
  · rw [List.drop_set_of_lt (by omega)]
    have := congrArg (List.drop 1) h5
    simpa [List.drop_drop, Nat.add_comm] using this
theorem Dg.drop {α : Type} {p : α → Bool} {z y : List α} {i j : Nat} (d : Dg p z y i j) (hj : j < z.length) (hp : p z[j] = true) : Dg p z y i (j + 1) := by
  obtain ⟨h1, h2, h3, h4, h5⟩ := d
  refine ⟨by omega, by omega, h3, ?_, ?_⟩
  · rw [List.take_succ_eq_append_getElem hj, List.filter_append, ← h4]
    simp [hp]
  · have := congrArg (List.drop 1) h5
    simpa [List.drop_drop, Nat.add_comm] using this
theorem Dg.at {α : Type} {p : α → Bool} {z y : List α} {i j : Nat} (d : Dg p z y i j) (hj : j < z.length) (hy : j < y.length) : y[j] = z[j] := by
  have h : (y.drop j)[0]? = (z.drop j)[0]? := by rw [d.rest]
  simp only [List.getElem?_drop, Nat.add_zero, List.getElem?_eq_getElem hj, List.getElem?_eq_getElem hy, Option.some.injEq] at h
  exact h
theorem Dg.done {α : Type} {p : α → Bool} {z y : List α} {i : Nat} (d : Dg p z y i z.length) : y.take i = z.filter fun t => !p t := by
  rw [d.kept, List.take_length]
theorem lent_fam {objs : Nat → Option Ob} {a : Nat} {ν : Nat → Nat} {z : List It} {tail : List (List AV)} {es : List (List AV)} (ha : objs a = some ⟨2, es⟩) (hes : es = cellsN ν z ++ tail) (hrow : ∀ i (h : i < z.length), objs (ν i) = some (ro3 z[i].row)) : Lent objs (.rf a 0 z.length) (setA z) := by
  subst hes
  refine .rf (es := cellsN ν z) (es' := z.map It.c) ha ?_ (by simp [cellsN_len]) (fun x hx => by obtain ⟨t, _, rfl⟩ := List.mem_map.1 hx; rfl) (fun i j a' h => ?_) fun i j b b' h h' => ?_
  · rw [List.drop_zero, List.take_append_of_le_length (by simp [cellsN_len]), List.take_of_length_le (by simp [cellsN_len])]
  · exact leafy_get (so_leafy z) h
  · have hi : i < z.length := by
      rw [cellAt, List.getElem?_map] at h'
      cases hz : z[i]? with
      | none => rw [hz] at h'; cases h'
      | some t => exact (List.getElem?_eq_some_iff.1 hz).1
    have hc : i < (cellsN ν z).length := by rw [cellsN_len]; exact hi
    have e1 : (cellsN ν z)[i]? = some [.rf (ν i) 0 z[i].row.length, iA z[i].w] := by
      rw [List.getElem?_eq_getElem hc]; simp [cellsN]
    have e2 : (z.map It.c)[i]? = some (It.c z[i]) := by simp [hi]
    simp only [cellAt, e1, e2, Option.bind_some, It.c] at h h'
    match j with
    | 0 =>
      simp at h h'; subst h; subst h'
      exact lent_leafy (o := ro3 z[i].row) (hrow i hi) rfl (by simp) (ro3_leafy _) fun x hx => by obtain ⟨v, _, rfl⟩ := List.mem_map.1 hx; rfl
    | 1 => simp at h h'; subst h; subst h'; exact .same rfl
    | j + 2 => simp at h
end Yt
namespace Yt
open Go Go.Vc Go.Proofs
set_option maxRecDepth 10000
set_option maxHeartbeats 8000000
set_option linter.unusedSimpArgs false
set_option linter.unusedVariables false
def spV : V := ⟨9, -7, ByteArray.empty⟩
theorem s89 (r : List V) (hl : r.length ≤ 1073741824) : SpecO Try.prog 42 [.rf 0 0 r.length] (ro3 r) (fun v o' => v = .tu [] ∧ ∃ r' : List V, r'.length = r.length ∧ o' = ro3 r') := by
  refine specO_of_vc tabOk elems ord42 Try.func42 rfl (rl := []) rfl (by kernel_rfl) rfl ?_
  (simp -implicitDefEqProofs only [go_sem, ro3]; repeat (refine GO ?_; simp -implicitDefEqProofs only [go_sem, ro3]))
  refine LOOP.mk (ι := { p : Nat × List V // p.1 ≤ r.length ∧ p.2.length = r.length }) (fun p => mkS [(0, .rf 0 0 r.length), (2, iA p.1.1)] [(0, ro3 p.1.2)] [0]) (fun p => r.length - p.1.1) ⟨(0, r), Nat.zero_le _, rfl⟩ [(0, some 0)] rfl rfl ?_ (fun p => ?_)
  · (simp -implicitDefEqProofs only [go_sem, iA, ro3]; repeat (refine GO ?_; simp -implicitDefEqProofs only [go_sem, iA, ro3]))
    exact ⟨rfl, .same (ro3 r) _ _ (ro3_leafy r) rfl⟩
  · obtain ⟨⟨i, l⟩, hi, hll⟩ := p
    simp only at hi hll
    (simp -implicitDefEqProofs only [go_sem, iA, ro3]; repeat (refine GO ?_; simp -implicitDefEqProofs only [go_sem, iA, ro3]))
    refine VIF.split (fun h1 => ?_) (fun h1 => ?_)
    · have h1 : i < r.length := by simpa using h1
      have h2 : i < l.length := by omega
      have w1 := wrap_add1 (show i < 4611686018427387904 by omega)
      (simp -implicitDefEqProofs only [go_sem]; repeat (refine GO ?_; simp -implicitDefEqProofs only [go_sem]))
      refine ⟨by omega, EL.map h2 ?_⟩
      (simp -implicitDefEqProofs only [go_sem, w1]; repeat (refine GO ?_; simp -implicitDefEqProofs only [go_sem, w1]))
      refine ⟨Nat.le_refl 3, ?_⟩
      refine BACK.mk ⟨(i + 1, l.set i spV), by omega, by simp [hll]⟩ [(0, some 0)] rfl rfl (by show r.length - (i + 1) < r.length - i; omega) ?_
      (simp -implicitDefEqProofs only [go_sem, iA, ro3, w1]; repeat (refine GO ?_; simp -implicitDefEqProofs only [go_sem, iA, ro3, w1]))
      have e1 : (List.map V.c l).set i (V.c spV) = List.map V.c (l.set i spV) := by rw [List.map_set]
      have e2 : List.drop 3 l[i].c = [] := rfl
      rw [e2]
      exact .same (ro3 []) _ _ (fun x hx => ro3_leafy (l.set i spV) x (by rw [ro3]; exact e1 ▸ hx)) e1
    · (simp -implicitDefEqProofs only [go_sem]; repeat (refine GO ?_; simp -implicitDefEqProofs only [go_sem]))
      refine FIN_O rfl rfl (ro3_leafy l) ?_
      exact ⟨ro3 l, ⟨⟨rfl, l, hll, rfl⟩, rfl⟩, ro3_leafy l, rfl⟩
end Yt
namespace Yt
open Go Go.Vc Go.Proofs
set_option maxRecDepth 10000
set_option maxHeartbeats 8000000
set_option linter.unusedSimpArgs false
set_option linter.unusedVariables false
theorem CALL.takeI {P : Program} {f : Nat} {args args' : List AV} {st : St} {d : Option Nat} {K : St → Prop} {R : AV → Prop} {z : List It} (h : FunSpecD P f args' noOb (famI z 0) (famW z.length) fun r O' => (R r ∧ r.flat = true) ∧ O' = noOb) (a : Nat) (ν : Nat → Nat)
    (hnd : (a :: (List.range z.length).map ν).Nodup) {es : List (List AV)} (ha : st.objs a = some ⟨2, es⟩) (hes : es = cellsN ν z) (hrow : ∀ i (h : i < z.length), st.objs (ν i) = some (ro3 z[i].row))
    (hu : a ∈ st.used ∧ ∀ i < z.length, ν i ∈ st.used) (hargs : args = rns (rhoF a ν) args' ∧ inNs (· ∈ famW z.length) args') (b : Nat) (hb : ∀ n ∈ st.used, n < b)
    (k : ∀ r O, R r → (∀ n, n < b → n ≠ a → (∀ i < z.length, n ≠ ν i) → O n = st.objs n) → K { regs := (st.put d r).regs, objs := O, used := st.used }) : CALL P f args st d K := by
  subst hes
  have h' : FunSpecD P f args' (kept false (famI z 0)) (famI z 0) (famW z.length) fun r O' => (R r ∧ r.flat = true) ∧ O' = noOb := by rw [kept_false]; exact h
  have inj : ∀ i ∈ famW z.length, ∀ j ∈ famW z.length, rhoF a ν i = rhoF a ν j → i = j := fun i hi j hj e => by
    rw [famW_mem] at hi hj
    rw [List.nodup_cons] at hnd
    have hν : ∀ i j, i < z.length → j < z.length → ν i = ν j → i = j := fun i j hi hj e => by
      have := hnd.2
      rw [List.Nodup, List.pairwise_map] at this
      rcases Nat.lt_trichotomy i j with h | h | h
      · have := List.pairwise_iff_getElem.1 this i j (by simpa using hi) (by simpa using hj) h
        simp only [List.getElem_range] at this; exact absurd e this
      · exact h
      · have := List.pairwise_iff_getElem.1 this j i (by simpa using hj) (by simpa using hi) h
        simp only [List.getElem_range] at this; exact absurd e.symm this
    have hn : ∀ i, i < z.length → ν i ≠ a := fun i hi e => hnd.1 (e ▸ List.mem_map_of_mem (List.mem_range.2 hi))
    rcases hi with rfl | ⟨i, hi, rfl⟩ <;> rcases hj with rfl | ⟨j, hj, rfl⟩
    · rfl
    · rw [rhoF_0, rhoF_row] at e; exact absurd e.symm (hn j hj)
    · rw [rhoF_0, rhoF_row] at e; exact absurd e (hn i hi)
    · rw [rhoF_row, rhoF_row] at e; rw [hν i j hi hj e]
  have key := dep_sem (objs := st.objs) (used := st.used) (args := args) h' (rhoF a ν) inj (fun i o ho => famI_closed ho) (fun h => by cases h)
    (fun i o ho => by
      rcases famI_cases ho with ⟨rfl, rfl⟩ | ⟨i, hi, rfl, rfl⟩
      · rw [rhoF_0, ha, Ob.rn]
        simp only [List.map_append, List.map_replicate, zc_rn, famC_rho, List.replicate_zero, List.append_nil]
      · rw [rhoF_row, ro3_rn]; exact hrow i hi)
    (fun i hi => by
      rcases famW_mem.1 hi with rfl | ⟨k, hk, rfl⟩
      · exact hu.1
      · rw [rhoF_row]; exact hu.2 k hk) hargs b hb
    (fun _ _ => []) (fun r O' hR => by
      obtain ⟨⟨_, hf⟩, rfl⟩ := hR
      exact ⟨(fun i o ho => by cases ho), (noId_rn (ρ := id) _ (flat_noId _ hf)).2⟩)
  refine .sem _ key fun u O U hX => ?_
  obtain ⟨r, O', ⟨⟨hR, hf⟩, rfl⟩, rfl, rfl, rfl⟩ := hX
  have e1 : r.rn (nmD false (rhoF a ν 0) b) = r := (noId_rn (p := fun _ => True) _ (flat_noId _ hf)).1
  have := k r (depO false (rhoF a ν 0) b (List.map (rhoF a ν) (famW z.length)) noOb st.objs) hR fun n hn h1 h2 => by
    simp only [depO, Bool.false_eq_true, false_and, if_false]
    rw [if_neg (by omega), if_neg]
    intro hm
    obtain ⟨i, hi, rfl⟩ := List.mem_map.1 hm
    rcases famW_mem.1 hi with rfl | ⟨k, hk, rfl⟩
    · exact h1 rhoF_0
    · exact h2 k hk rhoF_row
  simp only [e1, List.map_nil, List.nil_append]
  exact this
theorem EL_fam {b : Nat} {z : List It} {i : Nat} {K : List AV → Prop} (h : i < z.length) (k : K [.rf (b + (i + 1)) 0 z[i].row.length, iA z[i].w]) : EL (famC b z) i K :=
  ⟨_, by rw [List.getElem?_eq_getElem (by simpa [famC_len] using h), famC_get h], k⟩
@[go_sem] theorem upd_fam' {α : Type} {b i k : Nat} {f : Nat → α} {v : α} (h : (k ≤ b) = True) : upd f (b + (i + 1)) v k = f k := by
  have : k ≤ b := by rw [h]; trivial
  exact upd_ne' _ _ (by omega)
theorem famC_put {b : Nat} {y : List It} {i : Nat} {r : List V} {w : Int} (h : i < y.length) (hr : r.length = y[i].row.length) : (famC b y).set i [.rf (b + (i + 1)) 0 y[i].row.length, iA w] = famC b (y.set i ⟨r, w⟩) := by
  refine List.ext_getElem (by simp [famC_len]) fun j q1 q2 => ?_
  have hj : j < y.length := by simpa [famC_len] using q1
  rw [List.getElem_set, famC_get (z := y) hj, famC_get (z := y.set i ⟨r, w⟩) (by simpa using hj)]
  by_cases e : i = j
  · subst e; simp [hr]
  · simp [e]
theorem f37 (z : List It) (hl : z.length ≤ 1048576) (hr : ∀ t ∈ z, t.row.length ≤ 1073741824) : FunSpecD Try.prog 14 [.rf 1000 0 z.length] noOb (famI z 0) (famW z.length) fun r O' => (r = .tu [] ∧ r.flat = true) ∧ O' = noOb := by
  refine funspecD_of_vc tabOk elems ord14 Try.func14 rfl (rl := []) rfl (by kernel_rfl) rfl (fun _ h => absurd rfl h) ?_
  (simp -implicitDefEqProofs only [go_sem, famI, famW, List.replicate_zero, List.append_nil]; repeat (refine GO ?_; simp -implicitDefEqProofs only [go_sem, famI, famW, List.replicate_zero, List.append_nil]))
  refine LOOP.mk (ι := { p : Nat × List It // p.1 ≤ z.length ∧ p.2.length = z.length ∧ ∀ j (h1 : j < p.2.length) (h2 : j < z.length), p.2[j].row.length = z[j].row.length }) (fun p => mkS [(0, .rf 1000 0 z.length), (2, iA p.1.1)] ([(1000, ⟨2, famC 2000 p.1.2⟩)] ++ famL 2000 p.1.2) ([1000] ++ famN 2000 z.length)) (fun p => z.length - p.1.1) ⟨(0, z), Nat.zero_le _, rfl, fun _ _ _ => rfl⟩ ([(1000, some 1000)] ++ famM 2000 z.length fun i => 2000 + (i + 1)) rfl (fam_nmOk rfl (fam_nd (by decide) (by decide))) ?_ (fun p => ?_)
  · (simp -implicitDefEqProofs only [go_sem, iA]; repeat (refine GO ?_; simp -implicitDefEqProofs only [go_sem, iA]))
    exact ⟨id, rfl, fam_es rfl fun i hi => fam_nms (m1 := [(1000, some 1000)]) (by simp) hi, fam_eobs (ν := fun i => 2000 + (i + 1)) fun i hi => ⟨fam_nms (m1 := [(1000, some 1000)]) (by simp) hi, by (simp -implicitDefEqProofs only [go_sem]; repeat (refine GO ?_; simp -implicitDefEqProofs only [go_sem])); exact famL_get hi⟩⟩
  · obtain ⟨⟨i, y⟩, hi, hyl, hyr⟩ := p
    simp only at hi hyl hyr
    (simp -implicitDefEqProofs only [go_sem, iA]; repeat (refine GO ?_; simp -implicitDefEqProofs only [go_sem, iA]))
    refine VIF.split (fun h1 => ?_) (fun h1 => ?_)
    · have h1 : i < z.length := by simpa using h1
      have h2 : i < y.length := by omega
      have w1 := wrap_add1 (show i < 4611686018427387904 by omega)
      have hlen := hyr i h2 h1
      have hrz := hr _ (List.getElem_mem h1)
      (simp -implicitDefEqProofs only [go_sem]; repeat (refine GO ?_; simp -implicitDefEqProofs only [go_sem]))
      refine ⟨by omega, ?_⟩
      refine EL_fam h2 ?_
      (simp -implicitDefEqProofs only [go_sem]; repeat (refine GO ?_; simp -implicitDefEqProofs only [go_sem]))
      refine .obj (2000 + (i + 1)) (ro3 y[i].row) _ [.rf 0 0 y[i].row.length] (s89 y[i].row (by omega)) (by (simp -implicitDefEqProofs only [go_sem]; repeat (refine GO ?_; simp -implicitDefEqProofs only [go_sem])); exact famL_get h2) (ro3_leafy _) rfl rfl fun r o' hr _ _ => ?_
      obtain ⟨rfl, r', hr', rfl⟩ := hr
      (simp -implicitDefEqProofs only [go_sem]; repeat (refine GO ?_; simp -implicitDefEqProofs only [go_sem]))
      refine ⟨by omega, EL_fam h2 ?_⟩
      (simp -implicitDefEqProofs only [go_sem, w1]; repeat (refine GO ?_; simp -implicitDefEqProofs only [go_sem, w1]))
      refine BACK.mk ⟨(i + 1, y.set i ⟨r', -7777⟩), by omega, by simp [hyl], fun j q1 q2 => ?_⟩ ([(1000, some 1000)] ++ famM 2000 z.length fun i => 2000 + (i + 1)) rfl (fam_nmOk rfl (fam_nd (by decide) (by decide))) (by show z.length - (i + 1) < z.length - i; omega) ?_
      · show (y.set i ⟨r', -7777⟩)[j].row.length = _
        rw [List.getElem_set]
        by_cases e : i = j
        · subst e; simp only [if_pos]; omega
        · rw [if_neg e]; exact hyr j (by omega) q2
      (simp -implicitDefEqProofs only [go_sem, iA, w1]; repeat (refine GO ?_; simp -implicitDefEqProofs only [go_sem, iA, w1]))
      have e1 := famC_put (b := 2000) (i := i) (y := y) (r := r') (w := -7777) h2 hr'
      simp only [iA] at e1
      rw [e1]
      refine ⟨id, fam_es rfl fun i hi => fam_nms (m1 := [(1000, some 1000)]) (by simp) (by simp at hi; omega), fam_eobs (ν := fun i => 2000 + (i + 1)) fun j hj => ⟨fam_nms (m1 := [(1000, some 1000)]) (by simp) (by simp at hj; omega), ?_⟩⟩
      have hj' : j < y.length := by simpa using hj
      rw [List.getElem_set]
      by_cases e : i = j
      · subst e
        simp only [if_pos]
        show upd (upd _ (2000 + (i + 1)) (some (ro3 r'))) 1000 _ (2000 + (i + 1)) = _
        rw [upd_ne' _ _ (by omega)]; simp [upd]
      · simp only [if_neg e]
        show upd (upd _ (2000 + (i + 1)) (some (ro3 r'))) 1000 _ (2000 + (j + 1)) = _
        rw [upd_ne' _ _ (by omega), upd_ne' _ _ (by omega)]
        (simp -implicitDefEqProofs only [go_sem]; repeat (refine GO ?_; simp -implicitDefEqProofs only [go_sem]))
        exact famL_get hj'
    · (simp -implicitDefEqProofs only [go_sem]; repeat (refine GO ?_; simp -implicitDefEqProofs only [go_sem]))
      refine FINmk [] [] [] [] rfl ⟨trivial, trivial⟩ ?_
      exact ⟨⟨rfl, rfl⟩, rfl⟩
end Yt
namespace Yt
open Go Go.Vc Go.Proofs
set_option maxRecDepth 10000
set_option maxHeartbeats 8000000
set_option linter.unusedSimpArgs false
set_option linter.unusedVariables false
theorem makeR_same {z o o' : List It} {e e' : Int} (h : MakeR z o e) (h' : MakeR z o' e') : o = o' ∧ e = e' := by
  rcases h with ⟨h1, rfl, rfl⟩ | ⟨h1, rfl, rfl, r, hr⟩ | ⟨h1, rfl, hm, ht, _⟩
  · obtain ⟨h2, h3⟩ := makeR_bad h' h1
    exact ⟨h2.symm, h3.symm⟩
  · obtain ⟨h2, h3⟩ := makeR_over h' h1 hr
    exact ⟨h2.symm, h3.symm⟩
  · obtain ⟨h2, h3⟩ := makeR_ok h' h1 hm ht
    exact ⟨h2.symm, h3.symm⟩
theorem Spec1.rowC {f : Nat} {args : List AV} {z : List V} (h : Spec1 Try.prog f args (fun r o => r = .rf 0 0 z.length ∧ o = ro3 z)) : Spec0 Try.prog f args (· = rowA z) :=
  (Spec1.fz h).mono fun r O' ⟨⟨⟨r0, o, ⟨e1, e2⟩, _, _, e3⟩, hn⟩, hO⟩ => by
    subst e1; subst e2; subst e3
    exact ⟨⟨fz_ro3 z, hn⟩, hO⟩
theorem c31 (z : List It) (hl : z.length ≤ 1048576) (hr : ∀ t ∈ z, t.row.length < 1073741824) :
    Spec1 Try.prog 6 [setA z] (fun r o => r = .rf 0 0 z.length ∧ o = so z) := by
  refine spec1_of_vc tabOk elems ord6 Try.func6 rfl (rl := [.tmp 2]) rfl (by kernel_rfl) rfl ?_
  (simp -implicitDefEqProofs only [go_sem, setA]; repeat (refine GO ?_; simp -implicitDefEqProofs only [go_sem, setA]))
  refine LOOP.mk (ι := { i : Nat // i ≤ z.length }) (fun p => mkS [(0, setA z), (3, .rf 1000 0 p.1), (4, iA p.1)] [(1000, so (z.take p.1))] [1000]) (fun p => z.length - p.1) ⟨0, Nat.zero_le _⟩ [(1000, none)] rfl rfl ?_ (fun p => ?_)
  · (simp -implicitDefEqProofs only [go_sem, setA, iA, so]; repeat (refine GO ?_; simp -implicitDefEqProofs only [go_sem, setA, iA, so]))
    simp
  obtain ⟨i, hi⟩ := p
  (simp -implicitDefEqProofs only [go_sem, setA, iA, so]; repeat (refine GO ?_; simp -implicitDefEqProofs only [go_sem, setA, iA, so]))
  refine VIF.split (fun h1 => ?_) (fun h1 => ?_)
  · have h1 : i < z.length := by simpa using h1
    have w1 := wrap_add1 (show i < 4611686018427387904 by omega)
    (simp -implicitDefEqProofs only [go_sem]; repeat (refine GO ?_; simp -implicitDefEqProofs only [go_sem]))
    refine EL.map h1 ?_
    (simp -implicitDefEqProofs only [go_sem, It.c]; repeat (refine GO ?_; simp -implicitDefEqProofs only [go_sem, It.c]))
    refine EL.map h1 ?_
    (simp -implicitDefEqProofs only [go_sem, It.c]; repeat (refine GO ?_; simp -implicitDefEqProofs only [go_sem, It.c]))
    refine .pure _ (show Spec0 Try.prog 23 [.im 3 (List.map V.c z[i].row)] _ from Spec1.rowC (s52 z[i].row (by have := hr _ (List.getElem_mem h1); omega))) rfl fun r hq _ => ?_
    subst hq
    (simp -implicitDefEqProofs only [go_sem, rowA, iA]; repeat (refine GO ?_; simp -implicitDefEqProofs only [go_sem, rowA, iA]))
    refine ⟨by omega, ?_⟩
    (simp -implicitDefEqProofs only [go_sem, w1]; repeat (refine GO ?_; simp -implicitDefEqProofs only [go_sem, w1]))
    refine BACK.mk ⟨i + 1, by omega⟩ [(1000, some 25)] rfl rfl (by show z.length - (i + 1) < z.length - i; omega) ?_
    (simp -implicitDefEqProofs only [go_sem, setA, iA, so, w1]; repeat (refine GO ?_; simp -implicitDefEqProofs only [go_sem, setA, iA, so, w1]))
    rw [List.take_of_length_le (l := List.map It.c (List.take i z)) (by simp; omega)]
    exact ⟨id, so_snoc (l := z.take i) (t := z[i]) (List.take_succ_eq_append_getElem h1)⟩
  · have h1 : i = z.length := by simp at h1; omega
    subst h1
    (simp -implicitDefEqProofs only [go_sem, List.take_length]; repeat (refine GO ?_; simp -implicitDefEqProofs only [go_sem, List.take_length]))
    refine FINmk [(0, some 1000)] [(2, .rf 0 0 z.length)] [(0, so z)] [0] rfl ?_ ?_
    · (simp -implicitDefEqProofs only [go_sem, so]; repeat (refine GO ?_; simp -implicitDefEqProofs only [go_sem, so]))
      exact .same (so z) _ _ (so_leafy z) rfl
    · exact ⟨so z, ⟨⟨rfl, rfl⟩, rfl⟩, so_leafy z, rfl⟩
theorem c38 (a b : List It) (hl : a.length + b.length ≤ 1048576) (ha : ∀ t ∈ a, t.row.length < 1073741824) (hb : ∀ t ∈ b, t.row.length < 1073741824) :
    Spec0 Try.prog 19 [setA a, setA b] (fun r => ∃ (out : List It) (err : Int), r = .tu [setA out, iA err] ∧ MakeR (a ++ b) out err) := by
  refine spec0_of_vc tabOk elems ord19 Try.func19 rfl (rl := [.tmp 4, .tmp 5]) rfl (by kernel_rfl) rfl ?_
  (simp -implicitDefEqProofs only [go_sem, setA]; repeat (refine GO ?_; simp -implicitDefEqProofs only [go_sem, setA]))
  refine ⟨by omega, by omega, ?_⟩
  simp -implicitDefEqProofs only [go_sem]
  refine TO [] [(11, setA (a ++ b))] [] [] rfl ?_ ?_
  · (simp -implicitDefEqProofs only [go_sem, setA]; repeat (refine GO ?_; simp -implicitDefEqProofs only [go_sem, setA]))
    exact ⟨id, by simp [olds], _, rfl, by have := so_leafy (a ++ b); rwa [so, List.map_append] at this, rfl, by rw [List.map_append, List.take_of_length_le (by simp)]⟩
  (simp -implicitDefEqProofs only [go_sem, setA]; repeat (refine GO ?_; simp -implicitDefEqProofs only [go_sem, setA]))
  refine .pure _ (show Spec0 Try.prog 8 [.im 2 (List.map It.c (a ++ b))] _ from Spec1.setE (s26 (a ++ b) (by simpa using hl) (fun t ht => by rcases List.mem_append.1 ht with h | h; exact ha t h; exact hb t h))) rfl fun q hq _ => ?_
  obtain ⟨out, err, rfl, hm⟩ := hq
  (simp -implicitDefEqProofs only [go_sem, iA, setA]; repeat (refine GO ?_; simp -implicitDefEqProofs only [go_sem, iA, setA]))
  exact ⟨rfl, out, err, rfl, hm⟩
theorem c90 (z : List It) (hl : z.length ≤ 1048576) (hr : ∀ t ∈ z, t.row.length < 1073741824) (hw : ∀ t ∈ z, -72057594037927936 ≤ t.w ∧ t.w ≤ 72057594037927936) :
    Spec1 Try.prog 20 [setA z] (fun r o => ∃ out : List It, r = .rf 0 0 out.length ∧ o = so out ∧ out = z.map negI) := by
  refine spec1_of_vc tabOk elems ord20 Try.func20 rfl (rl := [.tmp 2]) rfl (by kernel_rfl) rfl ?_
  (simp -implicitDefEqProofs only [go_sem, setA]; repeat (refine GO ?_; simp -implicitDefEqProofs only [go_sem, setA]))
  refine .make 6 _ (show Spec1 Try.prog 6 [.im 2 (List.map It.c z)] _ from c31 z hl hr) rfl (by simp) rfl fun q o hq _ => ?_
  obtain ⟨rfl, rfl⟩ := hq
  (simp -implicitDefEqProofs only [go_sem]; repeat (refine GO ?_; simp -implicitDefEqProofs only [go_sem]))
  refine LOOP.mk (ι := { p : Nat × List It // p.1 ≤ z.length ∧ p.2.length = z.length ∧ ∀ j (h1 : j < p.2.length) (h2 : j < z.length), p.2[j] = if j < p.1 then negI z[j] else z[j] }) (fun p => mkS [(3, .rf 1000 0 z.length), (4, iA p.1.1)] [(1000, so p.1.2)] [1000])
    (fun p => z.length - p.1.1) ⟨(0, z), Nat.zero_le _, rfl, fun j h1 h2 => by rw [if_neg (Nat.not_lt_zero _)]⟩ [(1000, some 6)] rfl rfl ?_ (fun p => ?_)
  · (simp -implicitDefEqProofs only [go_sem, iA, so]; repeat (refine GO ?_; simp -implicitDefEqProofs only [go_sem, iA, so]))
    exact ⟨id, rfl, .same (so z) _ _ (so_leafy z) rfl⟩
  · obtain ⟨⟨i, o⟩, hi, hol, hos⟩ := p
    simp only at hi hol hos
    (simp -implicitDefEqProofs only [go_sem, iA, so]; repeat (refine GO ?_; simp -implicitDefEqProofs only [go_sem, iA, so]))
    refine VIF.split (fun h => ?_) (fun h => ?_)
    · have h : i < z.length := by simpa using h
      have ho : i < o.length := by omega
      have hoi : o[i] = z[i] := by rw [hos i ho h, if_neg (Nat.lt_irrefl _)]
      have w1 := wrap_add1 (show i < 4611686018427387904 by omega)
      have hw1 := hw _ (List.getElem_mem h)
      have w2 : IntKind.i64.wrap (0 - z[i].w) = -z[i].w := by rw [wrap_i64] <;> omega
      have w3 : IntKind.i64.wrap (0 - o[i].w) = -z[i].w := by rw [hoi]; exact w2
      (simp -implicitDefEqProofs only [go_sem]; repeat (refine GO ?_; simp -implicitDefEqProofs only [go_sem]))
      refine ⟨by omega, EL.map ho ?_⟩
      (simp -implicitDefEqProofs only [go_sem, It.c, iA, w1, w2, w3]; repeat (refine GO ?_; simp -implicitDefEqProofs only [go_sem, It.c, iA, w1, w2, w3]))
      refine ⟨by omega, EL.map ho ?_⟩
      (simp -implicitDefEqProofs only [go_sem, It.c, iA, w1]; repeat (refine GO ?_; simp -implicitDefEqProofs only [go_sem, It.c, iA, w1]))
      refine BACK.mk ⟨(i + 1, o.set i (negI z[i])), by omega, by simp [hol], fun j h1 h2 => ?_⟩ [(1000, some 1000)] rfl rfl (by show z.length - (i + 1) < z.length - i; omega) ?_
      · show (o.set i (negI z[i]))[j] = _
        rw [List.getElem_set]
        by_cases e1 : i = j
        · subst e1; rw [if_pos rfl, if_pos (by omega)]
        · rw [if_neg e1, hos j (by omega) h2]
          by_cases e2 : j < i
          · rw [if_pos e2, if_pos (by omega)]
          · rw [if_neg e2, if_neg (by omega)]
      (simp -implicitDefEqProofs only [go_sem, iA, so, w1]; repeat (refine GO ?_; simp -implicitDefEqProofs only [go_sem, iA, so, w1]))
      have e1 : (List.map It.c o).set i [rowA o[i].row, iA (-z[i].w)] = List.map It.c (o.set i (negI z[i])) := by
        rw [List.map_set, hoi]; rfl
      exact ⟨id, .same (so []) _ _ (fun x hx => so_leafy (o.set i (negI z[i])) x (by rw [so]; exact e1 ▸ hx)) e1⟩
    · have h : i = z.length := by simp at h; omega
      have ho : o = z.map negI := List.ext_getElem (by simp [hol]) fun j h1 h2 => by
        rw [hos j h1 (by omega), if_pos (by omega), List.getElem_map]
      (simp -implicitDefEqProofs only [go_sem]; repeat (refine GO ?_; simp -implicitDefEqProofs only [go_sem]))
      refine FINmk [(0, some 1000)] [(2, .rf 0 0 z.length)] [(0, so (z.map negI))] [0] rfl ?_ ?_
      · (simp -implicitDefEqProofs only [go_sem, so, iA]; repeat (refine GO ?_; simp -implicitDefEqProofs only [go_sem, so, iA]))
        rw [ho]
        exact .same (so (z.map negI)) _ _ (so_leafy (z.map negI)) rfl
      · exact ⟨so (z.map negI), ⟨⟨z.map negI, by rw [List.length_map]; rfl, rfl, rfl⟩, rfl⟩, so_leafy (z.map negI), rfl⟩
end Yt
namespace Yt
open Go Go.Vc Go.Proofs
set_option maxRecDepth 10000
set_option maxHeartbeats 8000000
set_option linter.unusedSimpArgs false
set_option linter.unusedVariables false
theorem f47 (a b : List It) (hl : a.length + b.length ≤ 1048576) (ha : ∀ t ∈ a, t.row.length < 1073741824) (hb : ∀ t ∈ b, t.row.length < 1073741824) :
    SpecF Try.prog 16 [setA a, setA b] (fun r out => ∃ err : Int, r = .tu [.rf 0 0 out.length, iA err] ∧ AddR a b out err) := by
  refine funspecD_of_vc tabOk elems ord16 Try.func16 rfl (rl := [.tmp 4, .tmp 5]) rfl (by kernel_rfl) rfl (fun _ h => absurd rfl h) ?_
  (simp -implicitDefEqProofs only [go_sem, setA]; repeat (refine GO ?_; simp -implicitDefEqProofs only [go_sem, setA]))
  refine .pure _ (s16 a (by omega) (fun t ht => by have := ha t ht; omega)) rfl fun q hq _ => ?_
  obtain ⟨e1, rfl, _, h1⟩ := hq
  have bad : ∀ s : St, s.regs 4 = .nl → s.regs 5 = .pr (.int .i64 1) → ¬ (Good a ∧ Good b) → FIN T noOb [.tmp 4, .tmp 5] (fun r O' => ∃ z, ((∃ err : Int, r = .tu [.rf 0 0 z.length, iA err] ∧ AddR a b z err) ∧ r.only0 = true) ∧ O' = famF z) s := by
    intro s h4 h5 hn
    refine FINmk [(0, none)] [(4, .rf 0 0 0), (5, iA 1)] [(0, so [])] [0] rfl ?_ ?_
    · (simp -implicitDefEqProofs only [go_sem, iA, h4, h5]; repeat (refine GO ?_; simp -implicitDefEqProofs only [go_sem, iA, h4, h5]))
      simp [so]
    · exact ⟨[], ⟨⟨1, rfl, .inl ⟨hn, rfl, rfl⟩⟩, rfl⟩, rfl⟩
  (simp -implicitDefEqProofs only [go_sem, iA]; repeat (refine GO ?_; simp -implicitDefEqProofs only [go_sem, iA]))
  refine VIF.split (fun h => ?_) (fun h => ?_)
  · have h : e1 ≠ 0 := by simpa using h
    (simp -implicitDefEqProofs only [go_sem]; repeat (refine GO ?_; simp -implicitDefEqProofs only [go_sem]))
    exact bad _ rfl rfl fun g => h (h1.2 g.1)
  · have h : e1 = 0 := by simpa using h
    have h1 := h1.1 h
    (simp -implicitDefEqProofs only [go_sem]; repeat (refine GO ?_; simp -implicitDefEqProofs only [go_sem]))
    refine .pure _ (s16 b (by omega) (fun t ht => by have := hb t ht; omega)) rfl fun q hq _ => ?_
    obtain ⟨e2, rfl, _, h2⟩ := hq
    (simp -implicitDefEqProofs only [go_sem, iA]; repeat (refine GO ?_; simp -implicitDefEqProofs only [go_sem, iA]))
    refine VIF.split (fun h => ?_) (fun h => ?_)
    · have h : e2 ≠ 0 := by simpa using h
      (simp -implicitDefEqProofs only [go_sem]; repeat (refine GO ?_; simp -implicitDefEqProofs only [go_sem]))
      exact bad _ rfl rfl fun g => h (h2.2 g.2)
    · have h : e2 = 0 := by simpa using h
      have h2 := h2.1 h
      simp -implicitDefEqProofs only [go_sem]
      refine GO ?_
      simp -implicitDefEqProofs only [go_sem]
      refine TO [] [(16, setsA [a, b])] [] [] rfl ?_ ?_
      · (simp -implicitDefEqProofs only [go_sem, setsA, setA]; repeat (refine GO ?_; simp -implicitDefEqProofs only [go_sem, setsA, setA]))
        exact ⟨id, by decide, _, rfl, by simp [Ob.leafy, AV.leaf], rfl, rfl⟩
      simp -implicitDefEqProofs only [go_sem, setsA]
      have hcat : cat [a, b] = a ++ b := by simp [cat]
      refine .make 17 _ (s51 [a, b] (by simp) (by rw [hcat]; simpa using hl)) rfl (by simp) rfl fun q o hq hlf => ?_
      rw [hcat] at hq
      obtain ⟨rfl, hsz, hes⟩ := hq
      simp -implicitDefEqProofs only [go_sem]
      refine TO [] [(17, setA (a ++ b))] [] [] rfl ?_ ?_
      · (simp -implicitDefEqProofs only [go_sem, setA]; repeat (refine GO ?_; simp -implicitDefEqProofs only [go_sem, setA]))
        exact ⟨id, by decide, _, rfl, hlf, hsz, hes⟩
      (simp -implicitDefEqProofs only [go_sem, setA]; repeat (refine GO ?_; simp -implicitDefEqProofs only [go_sem, setA]))
      refine CALL.fam (f76 (a ++ b) (by simpa using hl) (fun t ht => by rcases List.mem_append.1 ht with h | h; exact ha t h; exact hb t h)) rfl 100000 (by simp) fun r out hq => ?_
      obtain ⟨err, rfl, hm⟩ := hq
      (simp -implicitDefEqProofs only [go_sem, AV.rn, rns, Nat.add_zero, iA]; repeat (refine GO ?_; simp -implicitDefEqProofs only [go_sem, AV.rn, rns, Nat.add_zero, iA]))
      refine FINfam 100000 (fun i => 100000 + (i + 1)) out [(4, .rf 0 0 out.length), (5, iA err)] (es := famC 100000 out) (fam_nd (l := [100000]) (by decide) (by decide)) (by (simp -implicitDefEqProofs only [go_sem]; repeat (refine GO ?_; simp -implicitDefEqProofs only [go_sem]))) rfl (fun i hi => by (simp -implicitDefEqProofs only [go_sem]; repeat (refine GO ?_; simp -implicitDefEqProofs only [go_sem])); exact famO_row hi) ?_ ?_
      · (simp -implicitDefEqProofs only [go_sem, iA]; repeat (refine GO ?_; simp -implicitDefEqProofs only [go_sem, iA]))
      · exact ⟨out, ⟨⟨err, rfl, .inr ⟨h1, h2, hm⟩⟩, rfl⟩, rfl⟩
theorem f59 (z : List It) (hl : z.length ≤ 1048576) (hr : ∀ t ∈ z, t.row.length < 1073741824) :
    SpecF Try.prog 17 [setA z] (fun r out => ∃ err : Int, r = .tu [.rf 0 0 out.length, iA err] ∧ ((¬ Good z ∧ out = [] ∧ err = 1) ∨ (Good z ∧ out = z.map negI ∧ err = 0))) := by
  refine funspecD_of_vc tabOk elems ord17 Try.func17 rfl (rl := [.tmp 2, .tmp 3]) rfl (by kernel_rfl) rfl (fun _ h => absurd rfl h) ?_
  (simp -implicitDefEqProofs only [go_sem, setA]; repeat (refine GO ?_; simp -implicitDefEqProofs only [go_sem, setA]))
  refine .pure _ (s16 z (by omega) (fun t ht => by have := hr t ht; omega)) rfl fun q hq _ => ?_
  obtain ⟨e, rfl, he, hg⟩ := hq
  (simp -implicitDefEqProofs only [go_sem, iA]; repeat (refine GO ?_; simp -implicitDefEqProofs only [go_sem, iA]))
  refine VIF.split (fun h => ?_) (fun h => ?_)
  · have h : e ≠ 0 := by simpa using h
    have h1 : e = 1 := by omega
    subst h1
    (simp -implicitDefEqProofs only [go_sem]; repeat (refine GO ?_; simp -implicitDefEqProofs only [go_sem]))
    refine FINmk [(0, none)] [(2, .rf 0 0 0), (3, iA 1)] [(0, so [])] [0] rfl ?_ ?_
    · (simp -implicitDefEqProofs only [go_sem, iA]; repeat (refine GO ?_; simp -implicitDefEqProofs only [go_sem, iA]))
      simp [so]
    · exact ⟨[], ⟨⟨1, rfl, .inl ⟨fun g => h (hg.2 g), rfl, rfl⟩⟩, rfl⟩, rfl⟩
  · have h : e = 0 := by simpa using h
    have hg := hg.1 h
    (simp -implicitDefEqProofs only [go_sem]; repeat (refine GO ?_; simp -implicitDefEqProofs only [go_sem]))
    refine CALL.fam (f83 z hl hr) rfl 10000 (by simp) fun q z2 hq => ?_
    obtain ⟨rfl, rfl⟩ := hq
    (simp -implicitDefEqProofs only [go_sem, AV.rn, Nat.add_zero]; repeat (refine GO ?_; simp -implicitDefEqProofs only [go_sem, AV.rn, Nat.add_zero]))
    refine LOOP.mk (ι := { p : Nat × List It // p.1 ≤ z2.length ∧ p.2.length = z2.length ∧ (∀ j (h1 : j < p.2.length) (h2 : j < z2.length), p.2[j] = if j < p.1 then negI z2[j] else z2[j]) }) (fun p => mkS [(5, .rf 1000 0 z2.length), (15, iA z2.length), (16, iA p.1.1)] ([(1000, ⟨2, famC 2000 p.1.2⟩)] ++ famL 2000 p.1.2) ([1000] ++ famN 2000 z2.length))
      (fun p => z2.length - p.1.1) ⟨(0, z2), Nat.zero_le _, rfl, fun j h1 h2 => by rw [if_neg (Nat.not_lt_zero _)]⟩ ([(1000, some 10000)] ++ famM 2000 z2.length fun i => 10000 + (i + 1)) rfl (fam_nmOk rfl (fam_nd (by decide) (by decide))) ?_ (fun p => ?_)
    · (simp -implicitDefEqProofs only [go_sem, iA]; repeat (refine GO ?_; simp -implicitDefEqProofs only [go_sem, iA]))
      exact ⟨by simp [famU_mem], rfl, fam_es rfl fun i hi => fam_nms (m1 := [(1000, some 10000)]) (by simp) hi, fam_eobs (ν := fun i => 10000 + (i + 1)) fun i hi => ⟨fam_nms (m1 := [(1000, some 10000)]) (by simp) hi, famO_row hi⟩⟩
    · obtain ⟨⟨i, o⟩, hi, hol, hos⟩ := p
      simp only at hi hol hos
      (simp -implicitDefEqProofs only [go_sem, iA]; repeat (refine GO ?_; simp -implicitDefEqProofs only [go_sem, iA]))
      refine VIF.split (fun h => ?_) (fun h => ?_)
      · have h : i < z2.length := by simpa using h
        have ho : i < o.length := by omega
        have hoi : o[i] = z2[i] := by rw [hos i ho h, if_neg (Nat.lt_irrefl _)]
        have w1 := wrap_add1 (show i < 4611686018427387904 by omega)
        have hw := okW_le ((good_made.1 hg).1.nz _ (List.getElem_mem h)).2
        have w2 : IntKind.i64.wrap (0 - z2[i].w) = -z2[i].w := by rw [wrap_i64] <;> omega
        have w3 : IntKind.i64.wrap (0 - o[i].w) = -z2[i].w := by rw [hoi]; exact w2
        (simp -implicitDefEqProofs only [go_sem]; repeat (refine GO ?_; simp -implicitDefEqProofs only [go_sem]))
        refine ⟨by omega, EL_fam ho ?_⟩
        (simp -implicitDefEqProofs only [go_sem, iA, w1, w2, w3]; repeat (refine GO ?_; simp -implicitDefEqProofs only [go_sem, iA, w1, w2, w3]))
        refine ⟨by omega, EL_fam ho ?_⟩
        (simp -implicitDefEqProofs only [go_sem, iA, w1]; repeat (refine GO ?_; simp -implicitDefEqProofs only [go_sem, iA, w1]))
        refine BACK.mk ⟨(i + 1, o.set i (negI z2[i])), by omega, by simp [hol], fun j h1 h2 => ?_⟩ ([(1000, some 1000)] ++ famM 2000 z2.length fun i => 2000 + (i + 1)) rfl (fam_nmOk rfl (fam_nd (by decide) (by decide))) (by show z2.length - (i + 1) < z2.length - i; omega) ?_
        · show (o.set i (negI z2[i]))[j] = _
          rw [List.getElem_set]
          by_cases e1 : i = j
          · subst e1; rw [if_pos rfl, if_pos (by omega)]
          · rw [if_neg e1, hos j (by omega) h2]
            by_cases e2 : j < i
            · rw [if_pos e2, if_pos (by omega)]
            · rw [if_neg e2, if_neg (by omega)]
        (simp -implicitDefEqProofs only [go_sem, iA, w1]; repeat (refine GO ?_; simp -implicitDefEqProofs only [go_sem, iA, w1]))
        have e1 := famC_put (b := 2000) (i := i) (y := o) (r := z2[i].row) (w := -z2[i].w) ho (by rw [hoi])
        simp only [iA] at e1
        rw [e1]
        refine ⟨id, fam_es rfl fun i hi => fam_nms (m1 := [(1000, some 1000)]) (by simp) (by simp at hi; omega), fam_eobs (ν := fun i => 2000 + (i + 1)) fun j hj => ⟨fam_nms (m1 := [(1000, some 1000)]) (by simp) (by simp at hj; omega), ?_⟩⟩
        have hj' : j < o.length := by simpa using hj
        (simp -implicitDefEqProofs only [go_sem]; repeat (refine GO ?_; simp -implicitDefEqProofs only [go_sem]))
        rw [famL_get hj', List.getElem_set]
        by_cases e : i = j
        · subst e; simp only [if_pos, negI, hoi]
        · simp only [if_neg e]
      · have h : i = z2.length := by simp at h; omega
        have ho : o = z2.map negI := List.ext_getElem (by simp [hol]) fun j h1 h2 => by
          rw [hos j h1 (by omega), if_pos (by omega), List.getElem_map]
        subst ho
        (simp -implicitDefEqProofs only [go_sem]; repeat (refine GO ?_; simp -implicitDefEqProofs only [go_sem]))
        refine FINfam 1000 (fun i => 2000 + (i + 1)) (z2.map negI) [(2, .rf 0 0 z2.length), (3, iA 0)] (es := famC 2000 (z2.map negI)) (fam_nd (l := [1000]) (by decide) (by decide)) (by (simp -implicitDefEqProofs only [go_sem]; repeat (refine GO ?_; simp -implicitDefEqProofs only [go_sem]))) rfl (fun i hi => by (simp -implicitDefEqProofs only [go_sem]; repeat (refine GO ?_; simp -implicitDefEqProofs only [go_sem])); exact famL_get hi) ?_ ?_
        · (simp -implicitDefEqProofs only [go_sem, iA]; repeat (refine GO ?_; simp -implicitDefEqProofs only [go_sem, iA]))
        · exact ⟨z2.map negI, ⟨⟨0, by rw [List.length_map]; rfl, .inr ⟨hg, rfl, rfl⟩⟩, rfl⟩, rfl⟩
end Yt
