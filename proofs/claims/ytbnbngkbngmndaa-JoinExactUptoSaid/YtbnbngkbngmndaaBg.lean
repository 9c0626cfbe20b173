/- Contracts of the program's functions over abstract values and states, plain facts on which these lean, and the framework of these values over the model: What is made of items, by the page; tame sets. Sets added. The law SetEnds. The law SetMakes. Tame sets. The law SetMany. Sets twinned and turned about. The law SetGroup. The law SetBent. Predicates; items deleted; sets filtered. Items deleted in place; sets filtered. Sets filtered, united, taken off. Columns picked; sets projected. The wake of chapter 16; what is left aside. Freezing; what is filtered is small. Plain facts of what is projected. Distinct rows; sets as what their makers answer, let go. Plain facts of distinct rows; the wake of chapter 18. Products in 64 bits; what meets. Rows side by side. The pairs that meet. Sets joined. What a join is more; the wake of chapter 17. Plain facts of joins. Few; the wake of chapter 17. The law JoinParts. Rows of two columns; sums over pairs. The law JoinSwaps. The law JoinFilters. The law JoinRows. The law LinRows. The law DistFilters. The law DistAdds. The law DistSteps. Groups: what is told of each. Groups: the search among them. slices.Insert at groups: the roads, of memory itself. Groups: slices.Insert; objects of a family. The groups of a set. agg.Group. Wide sets; the wake of chapter 19; Delta. Groups of small sets: plain facts. The wake of chapter 19. agg.Delta. The law AggSome. The law AggKeys. Groups: sums and bests of parts. The law AggTotal. The law AggTells. Changes of groups: plain facts. The law AggAdds. The page's sort keeps the order of those of one row. The conditions stand in each theorem. -/
import Derived.Test.YtbnbngkbngmndaaBf
import Derived.Test.YtbnbngkbngmndaaBb
import Derived.Test.YtbnbngkbngmndaaBe
import Derived.Shelf.RegionOpenPlain
import Derived.Shelf.Spec.SlicesInsertGrow
set_option linter.all false
namespace Yt
open Go Go.Vc Go.Proofs
set_option maxRecDepth 10000
set_option maxHeartbeats 8000000
set_option linter.unusedSimpArgs false
set_option linter.unusedVariables false
theorem and_mask32 (x : Int) : bitsOp .and .i64 x 4294967295 = x % 4294967296 := by
  simp only [bitsOp]
  have h1 : (BitVec.ofInt IntKind.i64.bits x &&& BitVec.ofInt IntKind.i64.bits 4294967295).toNat = (x % 4294967296).toNat := by
    rw [BitVec.toNat_and]
    have e1 : (BitVec.ofInt IntKind.i64.bits 4294967295).toNat = 2 ^ 32 - 1 := by decide
    rw [e1, Nat.and_two_pow_sub_one_eq_mod]
    simp only [BitVec.toNat_ofInt, IntKind.bits]
    omega
  rw [h1, wrap_i64] <;> omega
theorem shr32 (x : Int) : x / 2 ^ min (Int.toNat 32) 64 = x / 4294967296 := by
  have h2 : (2 : Int) ^ min (Int.toNat 32) 64 = 4294967296 := by decide
  rw [h2]
theorem shl32 (x : Int) : x * 2 ^ min (Int.toNat 32) 64 = x * 4294967296 := by
  have h2 : (2 : Int) ^ min (Int.toNat 32) 64 = 4294967296 := by decide
  rw [h2]
/-- What the first i items from off on come to, in two parts. -/
structure TJ (y : List It) (off i : Nat) (h l : Int) : Prop where
  le : off + i ≤ y.length
  same : ∀ j (hj : j < y.length) (h0 : off < y.length), off ≤ j → j < off + i → cI y[j] y[off] = 0
  sum : h * 4294967296 + l = sumW ((y.drop off).take i)
  hb : -((i : Int) * 33554432) ≤ h ∧ h ≤ (i : Int) * 33554432
  lb : 0 ≤ l ∧ l ≤ (i : Int) * 4294967296
theorem TJ.start {y : List It} {off : Nat} (h : off ≤ y.length) : TJ y off 0 0 0 :=
  ⟨h, fun j _ _ h1 h2 => by omega, by simp [sumW], by omega, by omega⟩
theorem TJ.step {y : List It} {off i : Nat} {h l : Int} (t : TJ y off i h l) (hi : off + i < y.length) (e : ∀ h0 : off < y.length, cI y[off + i] y[off] = 0) (hw : okW y[off + i].w = true) :
    TJ y off (i + 1) (h + y[off + i].w / 4294967296) (l + y[off + i].w % 4294967296) := by
  have hw := okW_le hw
  obtain ⟨t1, t2, t3, t4, t5⟩ := t
  refine ⟨by omega, fun j hj h0 h1 h2 => ?_, ?_, by omega, by omega⟩
  · by_cases hji : j = off + i
    · subst hji; exact e h0
    · exact t2 j hj h0 h1 (by omega)
  · have hd : i < (y.drop off).length := by rw [List.length_drop]; omega
    rw [List.take_succ_eq_append_getElem hd, sumW_append, ← t3]
    simp only [sumW, List.getElem_drop]
    omega
theorem TJ.run {y : List It} {off i : Nat} {h l : Int} (t : TJ y off i h l) (h0 : off < y.length) (hn : ∀ hi : off + i < y.length, cI y[off + i] y[off] ≠ 0) : Run y off (off + i) := by
  refine ⟨?_, t.le, t.same, fun hi h0 => hn hi⟩
  apply Classical.byContradiction
  intro hlt
  have : i = 0 := by omega
  subst this
  exact hn h0 (cI_eq.2 rfl)
/-- Where the page's making stands. -/
structure OS (y : List It) (off : Nat) (out : List It) (ov : Bool) : Prop where
  le : off ≤ y.length
  len : out.length ≤ off
  gi : ov = false → GI y off out
  bad : ov = true → ∃ r, okW (tot r y) = false
theorem OS.over {y out : List It} {off e : Nat} {ov : Bool} (o : OS y off out ov) (hs : SR cI y 0 y.length) (r : Run y off e) (h0 : off < y.length) (hb : okW (sumW ((y.drop off).take (e - off))) = false) : OS y e out true := by
  refine ⟨r.le, by have := r.lt; have := o.len; omega, fun h => absurd h (by decide), fun _ => ?_⟩
  cases ov with
  | true => exact o.bad rfl
  | false => exact ⟨y[off].row, by rw [(o.gi rfl).total hs r h0]; exact hb⟩
theorem OS.fine {y out : List It} {off e : Nat} {ov : Bool} (o : OS y off out ov) (hs : SR cI y 0 y.length) (r : Run y off e) (h0 : off < y.length) (hok : okW (sumW ((y.drop off).take (e - off))) = true) :
    OS y e (if sumW ((y.drop off).take (e - off)) = 0 then out else out ++ [⟨y[off].row, sumW ((y.drop off).take (e - off))⟩]) ov := by
  refine ⟨r.le, ?_, fun h => (o.gi h).step hs r h0 hok, o.bad⟩
  have := r.lt; have := o.len
  split
  · omega
  · simp; omega
theorem s26 (z : List It) (hl : z.length ≤ 1048576) (hr : ∀ t ∈ z, t.row.length < 1073741824) :
    Spec1 Try.prog 79 [setA z] (fun r o => ∃ (out : List It) (err : Int), r = .tu [.rf 0 0 out.length, iA err] ∧ o = so out ∧ MakeR z out err) := by
  refine spec1_of_vc tabOk elems ord79 Try.func79 rfl (rl := [.tmp 2, .tmp 3]) rfl (by kernel_rfl) rfl ?_
  (simp -implicitDefEqProofs only [go_sem, setA]; repeat (refine GO ?_; simp -implicitDefEqProofs only [go_sem, setA]))
  refine LOOP.mk (ι := { i : Nat // i ≤ z.length ∧ ∀ j (h : j < z.length), j < i → okI z[j] = true }) (fun p => mkS [(0, setA z), (4, iA p.1)] [] [])
    (fun p => z.length - p.1) ⟨0, Nat.zero_le _, fun j _ h => absurd h (Nat.not_lt_zero _)⟩ [] rfl rfl ?_ (fun p => ?_)
  · (simp -implicitDefEqProofs only [go_sem, setA, iA]; repeat (refine GO ?_; simp -implicitDefEqProofs only [go_sem, setA, iA]))
    exact ⟨id, rfl⟩
  · obtain ⟨i, hi, hg⟩ := p
    (simp -implicitDefEqProofs only [go_sem, setA, iA]; repeat (refine GO ?_; simp -implicitDefEqProofs only [go_sem, setA, iA]))
    refine VIF.split (fun h => ?_) (fun h => ?_)
    · have h : i < z.length := by simpa using h
      have w3 := wrap_add1 (show i < 4611686018427387904 by omega)
      have bad : okI z[i] = false → (z.any fun t => !okI t) = true := fun hn => by
        rw [List.any_eq_true]; exact ⟨_, List.getElem_mem h, by simp [hn]⟩
      (simp -implicitDefEqProofs only [go_sem]; repeat (refine GO ?_; simp -implicitDefEqProofs only [go_sem]))
      refine EL.map h ?_
      (simp -implicitDefEqProofs only [go_sem, It.c]; repeat (refine GO ?_; simp -implicitDefEqProofs only [go_sem, It.c]))
      refine .pure _ (s17 z[i].row (by have := hr _ (List.getElem_mem h); omega)) rfl fun q hq _ => ?_
      subst hq
      (simp -implicitDefEqProofs only [go_sem, iA]; repeat (refine GO ?_; simp -implicitDefEqProofs only [go_sem, iA]))
      refine VIF.split (fun h1 => ?_) (fun h1 => ?_)
      · have h1 : okR z[i].row ≠ 0 := by simpa using h1
        (simp -implicitDefEqProofs only [go_sem]; repeat (refine GO ?_; simp -implicitDefEqProofs only [go_sem]))
        refine FINmk [(0, none)] [(2, .rf 0 0 0), (3, iA 1)] [(0, so [])] [0] rfl ?_ ?_
        · (simp -implicitDefEqProofs only [go_sem, iA]; repeat (refine GO ?_; simp -implicitDefEqProofs only [go_sem, iA]))
          simp [so]
        · exact ⟨so [], ⟨⟨[], 1, rfl, rfl, .inl ⟨bad (by simp [okI, h1]), rfl, rfl⟩⟩, rfl⟩, so_leafy [], rfl⟩
      · have h1 : okR z[i].row = 0 := by simpa using h1
        (simp -implicitDefEqProofs only [go_sem]; repeat (refine GO ?_; simp -implicitDefEqProofs only [go_sem]))
        refine EL.map h ?_
        (simp -implicitDefEqProofs only [go_sem, It.c, iA]; repeat (refine GO ?_; simp -implicitDefEqProofs only [go_sem, It.c, iA]))
        refine .pure _ (s53 z[i].w (-72057594037927936) 72057594037927936) rfl fun q hq _ => ?_
        subst hq
        (simp -implicitDefEqProofs only [go_sem, bA]; repeat (refine GO ?_; simp -implicitDefEqProofs only [go_sem, bA]))
        refine VIF.split (fun h3 => ?_) (fun h3 => ?_)
        · have h3 : okW z[i].w = false := by simpa [okW] using h3
          (simp -implicitDefEqProofs only [go_sem]; repeat (refine GO ?_; simp -implicitDefEqProofs only [go_sem]))
          refine FINmk [(0, none)] [(2, .rf 0 0 0), (3, iA 1)] [(0, so [])] [0] rfl ?_ ?_
          · (simp -implicitDefEqProofs only [go_sem, iA]; repeat (refine GO ?_; simp -implicitDefEqProofs only [go_sem, iA]))
            simp [so]
          · exact ⟨so [], ⟨⟨[], 1, rfl, rfl, .inl ⟨bad (by simp [okI, h3]), rfl, rfl⟩⟩, rfl⟩, so_leafy [], rfl⟩
        · have h3 : okW z[i].w = true := by simpa [okW] using h3
          (simp -implicitDefEqProofs only [go_sem, w3]; repeat (refine GO ?_; simp -implicitDefEqProofs only [go_sem, w3]))
          refine BACK.mk ⟨i + 1, by omega, fun j hj hji => ?_⟩ [] rfl rfl (by show z.length - (i + 1) < z.length - i; omega) ?_
          · by_cases e : j = i
            · subst e; simp [okI, h1, h3]
            · exact hg j hj (by omega)
          · (simp -implicitDefEqProofs only [go_sem, setA, iA, w3]; repeat (refine GO ?_; simp -implicitDefEqProofs only [go_sem, setA, iA, w3]))
            exact id
    · have h : i = z.length := by simp at h; omega
      have hbad : (z.any fun t => !okI t) = false := by
        rw [List.any_eq_false]; intro t ht
        obtain ⟨j, hj, rfl⟩ := List.mem_iff_getElem.1 ht
        simp [hg j hj (by omega)]
      (simp -implicitDefEqProofs only [go_sem]; repeat (refine GO ?_; simp -implicitDefEqProofs only [go_sem]))
      refine .pure _ (s54 _ z (Nat.le_refl _) hl (fun t ht => by have := hr t ht; omega)) rfl fun q hq _ => ?_
      obtain ⟨y, rfl, hp, hsr⟩ := hq
      have hs := hsr.sr
      have hlen := hp.length_eq
      have hry : ∀ t ∈ y, t.row.length < 1073741824 := fun t ht => hr t (hp.mem_iff.1 ht)
      have hok : ∀ t ∈ y, okI t = true := fun t ht => by
        have h1 : ∀ u ∈ z, okI u = true := by simpa using hbad
        exact h1 t (hp.mem_iff.1 ht)
      (simp -implicitDefEqProofs only [go_sem, setA]; repeat (refine GO ?_; simp -implicitDefEqProofs only [go_sem, setA]))
      refine LOOP.mk (ι := { p : Nat × List It × Bool // OS y p.1 p.2.1 p.2.2 }) (fun p => mkS [(5, setA y), (6, .rf 1000 0 p.1.2.1.length), (7, bA p.1.2.2), (8, iA p.1.1)] [(1000, so p.1.2.1)] [1000])
        (fun p => y.length - p.1.1) ⟨(0, [], false), Nat.zero_le _, Nat.le_refl _, fun _ => .start y, fun h => absurd h (by decide)⟩ [(1000, none)] rfl rfl ?_ (fun p => ?_)
      · (simp -implicitDefEqProofs only [go_sem, setA, bA, iA, so]; repeat (refine GO ?_; simp -implicitDefEqProofs only [go_sem, setA, bA, iA, so]))
        exact ⟨id, rfl, rfl⟩
      · obtain ⟨⟨off, out, ov⟩, os⟩ := p
        have hle := os.le
        have hol := os.len
        simp only at hle hol
        (simp -implicitDefEqProofs only [go_sem, setA, bA, iA, so]; repeat (refine GO ?_; simp -implicitDefEqProofs only [go_sem, setA, bA, iA, so]))
        refine VIF.split (fun h1 => ?_) (fun h1 => ?_)
        · have h0 : off < y.length := by simpa using h1
          (simp -implicitDefEqProofs only [go_sem]; repeat (refine GO ?_; simp -implicitDefEqProofs only [go_sem]))
          refine LOOP.join (ι := { q : Nat × Int × Int // TJ y off q.1 q.2.1 q.2.2 ∧ Run y off (off + q.1) })
            (fun q => mkS [(5, setA y), (6, .rf 1000 0 out.length), (7, bA ov), (8, iA off), (9, iA q.1.2.1), (10, iA q.1.2.2), (11, iA (off + q.1.1 : Nat))] [(1000, so out)] [1000]) ?_ (fun q => ?_)
          · refine LOOP.mk (ι := { q : Nat × Int × Int // TJ y off q.1 q.2.1 q.2.2 })
              (fun q => mkS [(5, setA y), (6, .rf 1000 0 out.length), (7, bA ov), (8, iA off), (9, iA q.1.2.1), (10, iA q.1.2.2), (11, iA (off + q.1.1 : Nat))] [(1000, so out)] [1000])
              (fun q => y.length - off - q.1.1) ⟨(0, 0, 0), .start hle⟩ [(1000, some 1000)] rfl rfl ?_ (fun q => ?_)
            · (simp -implicitDefEqProofs only [go_sem, setA, bA, iA, so]; repeat (refine GO ?_; simp -implicitDefEqProofs only [go_sem, setA, bA, iA, so]))
              exact ⟨id, .same (so out) _ _ (so_leafy out) rfl⟩
            · obtain ⟨⟨i, h, l⟩, ti⟩ := q
              simp only at ti
              have til := ti.le
              (simp -implicitDefEqProofs only [go_sem, setA, bA, iA, so]; repeat (refine GO ?_; simp -implicitDefEqProofs only [go_sem, setA, bA, iA, so]))
              refine VIF.split (fun h2 => ?_) (fun h2 => ?_)
              · have hi : off + i < y.length := by simp at h2; omega
                (simp -implicitDefEqProofs only [go_sem]; repeat (refine GO ?_; simp -implicitDefEqProofs only [go_sem]))
                refine EL.map hi ?_
                (simp -implicitDefEqProofs only [go_sem, It.c]; repeat (refine GO ?_; simp -implicitDefEqProofs only [go_sem, It.c]))
                refine EL.map h0 ?_
                (simp -implicitDefEqProofs only [go_sem, It.c]; repeat (refine GO ?_; simp -implicitDefEqProofs only [go_sem, It.c]))
                refine .pure _ (s55 y[off + i].row y[off].row (by have := hry _ (List.getElem_mem hi); omega) (by have := hry _ (List.getElem_mem h0); omega)) rfl fun q hq _ => ?_
                subst hq
                (simp -implicitDefEqProofs only [go_sem, iA]; repeat (refine GO ?_; simp -implicitDefEqProofs only [go_sem, iA]))
                refine VIF.split (fun h3 => ?_) (fun h3 => ?_)
                · have h3 : cI y[off + i] y[off] = 0 := by simpa [cI] using h3
                  have hbb : i ≤ 1048576 := by omega
                  have hb1 := ti.hb
                  have hb2 := ti.lb
                  have hoi := hok y[off + i] (List.getElem_mem hi)
                  have hwi : okW y[off + i].w = true := by
                    simp only [okI, Bool.and_eq_true] at hoi; exact hoi.2
                  have hwl := okW_le hwi
                  have w1 : IntKind.i64.wrap (h + y[off + i].w / 4294967296) = h + y[off + i].w / 4294967296 := by rw [wrap_i64] <;> omega
                  have w2 : IntKind.i64.wrap (l + y[off + i].w % 4294967296) = l + y[off + i].w % 4294967296 := by rw [wrap_i64] <;> omega
                  have w3 := wrap_add1 (show off + i < 4611686018427387904 by omega)
                  (simp -implicitDefEqProofs only [go_sem]; repeat (refine GO ?_; simp -implicitDefEqProofs only [go_sem]))
                  refine EL.map hi ?_
                  (simp -implicitDefEqProofs only [go_sem, It.c, iA, shr32]; repeat (refine GO ?_; simp -implicitDefEqProofs only [go_sem, It.c, iA, shr32]))
                  refine ⟨by decide, EL.map hi ?_⟩
                  (simp -implicitDefEqProofs only [go_sem, It.c, iA, and_mask32, shr32, w1, w2, w3]; repeat (refine GO ?_; simp -implicitDefEqProofs only [go_sem, It.c, iA, and_mask32, shr32, w1, w2, w3]))
                  refine BACK.mk ⟨(i + 1, h + y[off + i].w / 4294967296, l + y[off + i].w % 4294967296), ti.step hi (fun _ => h3) hwi⟩ [(1000, some 1000)] rfl rfl (by show y.length - off - (i + 1) < y.length - off - i; omega) ?_
                  (simp -implicitDefEqProofs only [go_sem, setA, bA, iA, so, w1, w2, w3]; repeat (refine GO ?_; simp -implicitDefEqProofs only [go_sem, setA, bA, iA, so, w1, w2, w3]))
                  exact ⟨id, rfl, .same (so out) _ _ (so_leafy out) rfl⟩
                · have h3 : cI y[off + i] y[off] ≠ 0 := by simpa [cI] using h3
                  (simp -implicitDefEqProofs only [go_sem]; repeat (refine GO ?_; simp -implicitDefEqProofs only [go_sem]))
                  refine JB.mk ⟨(i, h, l), ti, ti.run h0 (fun hi => h3)⟩ [(1000, some 1000)] rfl rfl ?_
                  (simp -implicitDefEqProofs only [go_sem, setA, bA, iA, so]; repeat (refine GO ?_; simp -implicitDefEqProofs only [go_sem, setA, bA, iA, so]))
                  exact ⟨id, .same (so out) _ _ (so_leafy out) rfl⟩
              · have hi : off + i = y.length := by simp at h2; omega
                (simp -implicitDefEqProofs only [go_sem]; repeat (refine GO ?_; simp -implicitDefEqProofs only [go_sem]))
                refine JB.mk ⟨(i, h, l), ti, ti.run h0 (fun hi => by omega)⟩ [(1000, some 1000)] rfl rfl ?_
                (simp -implicitDefEqProofs only [go_sem, setA, bA, iA, so]; repeat (refine GO ?_; simp -implicitDefEqProofs only [go_sem, setA, bA, iA, so]))
                exact ⟨id, .same (so out) _ _ (so_leafy out) rfl⟩
          · obtain ⟨⟨i, h, l⟩, ti, ru⟩ := q
            simp only at ti ru
            have hbb : i ≤ 1048576 := by have := ti.le; omega
            have hb1 := ti.hb
            have hb2 := ti.lb
            have hoff : off + i - off = i := by omega
            have hsum := ti.sum
            have hlt2 := ru.lt
            have w1 : IntKind.i64.wrap (h + l / 4294967296) = h + l / 4294967296 := by rw [wrap_i64] <;> omega
            have ov1 : okW (h * 4294967296 + l) = false → OS y (off + i) out true := fun hb => os.over hs ru h0 (by rw [hoff, ← hsum]; exact hb)
            have ok1 := fun hb : okW (h * 4294967296 + l) = true => os.fine hs ru h0 (by rw [hoff, ← hsum]; exact hb)
            rw [hoff, ← hsum] at ok1
            (simp -implicitDefEqProofs only [go_sem, setA, bA, iA, so, shr32, and_mask32, w1]; repeat (refine GO ?_; simp -implicitDefEqProofs only [go_sem, setA, bA, iA, so, shr32, and_mask32, w1]))
            refine ⟨by decide, GO ?_⟩
            (simp -implicitDefEqProofs only [go_sem]; repeat (refine GO ?_; simp -implicitDefEqProofs only [go_sem]))
            refine .pure _ (s53 (h + l / 4294967296) (-33554432) 33554432) rfl fun q hq _ => ?_
            subst hq
            (simp -implicitDefEqProofs only [go_sem, bA]; repeat (refine GO ?_; simp -implicitDefEqProofs only [go_sem, bA]))
            refine VIF.split (fun h3 => ?_) (fun h3 => ?_)
            · have hb : okW (h * 4294967296 + l) = false := by simp [inB] at h3; simp [okW, inB]; omega
              (simp -implicitDefEqProofs only [go_sem]; repeat (refine GO ?_; simp -implicitDefEqProofs only [go_sem]))
              refine BACK.mk ⟨(off + i, out, true), ov1 hb⟩ [(1000, some 1000)] rfl rfl (by show y.length - (off + i) < y.length - off; omega) ?_
              (simp -implicitDefEqProofs only [go_sem, setA, bA, iA, so]; repeat (refine GO ?_; simp -implicitDefEqProofs only [go_sem, setA, bA, iA, so]))
              exact ⟨id, .same (so out) _ _ (so_leafy out) rfl⟩
            · have hin : -33554432 ≤ h + l / 4294967296 ∧ h + l / 4294967296 ≤ 33554432 := by simpa [inB] using h3
              have w2 : IntKind.i64.wrap ((h + l / 4294967296) * 4294967296) = (h + l / 4294967296) * 4294967296 := by rw [wrap_i64] <;> omega
              have w3 : IntKind.i64.wrap ((h + l / 4294967296) * 4294967296 + l % 4294967296) = h * 4294967296 + l := by rw [wrap_i64] <;> omega
              (simp -implicitDefEqProofs only [go_sem, shl32, w2, w3]; repeat (refine GO ?_; simp -implicitDefEqProofs only [go_sem, shl32, w2, w3]))
              refine ⟨by decide, GO ?_⟩
              (simp -implicitDefEqProofs only [go_sem]; repeat (refine GO ?_; simp -implicitDefEqProofs only [go_sem]))
              refine .pure _ (s53 (h * 4294967296 + l) (-72057594037927936) 72057594037927936) rfl fun q hq _ => ?_
              subst hq
              (simp -implicitDefEqProofs only [go_sem, bA]; repeat (refine GO ?_; simp -implicitDefEqProofs only [go_sem, bA]))
              refine VIF.split (fun h4 => ?_) (fun h4 => ?_)
              · have hb : okW (h * 4294967296 + l) = false := by simpa [okW] using h4
                (simp -implicitDefEqProofs only [go_sem]; repeat (refine GO ?_; simp -implicitDefEqProofs only [go_sem]))
                refine BACK.mk ⟨(off + i, out, true), ov1 hb⟩ [(1000, some 1000)] rfl rfl (by show y.length - (off + i) < y.length - off; omega) ?_
                (simp -implicitDefEqProofs only [go_sem, setA, bA, iA, so]; repeat (refine GO ?_; simp -implicitDefEqProofs only [go_sem, setA, bA, iA, so]))
                exact ⟨id, .same (so out) _ _ (so_leafy out) rfl⟩
              · have hk : okW (h * 4294967296 + l) = true := by simpa [okW] using h4
                have os2 := ok1 hk
                (simp -implicitDefEqProofs only [go_sem]; repeat (refine GO ?_; simp -implicitDefEqProofs only [go_sem]))
                refine VIF.split (fun h5 => ?_) (fun h5 => ?_)
                · have h5 : h * 4294967296 + l ≠ 0 := by simpa using h5
                  rw [if_neg h5] at os2
                  (simp -implicitDefEqProofs only [go_sem]; repeat (refine GO ?_; simp -implicitDefEqProofs only [go_sem]))
                  refine EL.map h0 ?_
                  (simp -implicitDefEqProofs only [go_sem, It.c]; repeat (refine GO ?_; simp -implicitDefEqProofs only [go_sem, It.c]))
                  refine .make 102 _ (s52 y[off].row (by have := hry _ (List.getElem_mem h0); omega)) rfl (by simp) rfl fun q o hq _ => ?_
                  obtain ⟨rfl, rfl⟩ := hq
                  (simp -implicitDefEqProofs only [go_sem]; repeat (refine GO ?_; simp -implicitDefEqProofs only [go_sem]))
                  refine ⟨by omega, ?_⟩
                  (simp -implicitDefEqProofs only [go_sem]; repeat (refine GO ?_; simp -implicitDefEqProofs only [go_sem]))
                  refine BACK.mk ⟨(off + i, out ++ [⟨y[off].row, h * 4294967296 + l⟩], ov), os2⟩ [(1000, some 106)] rfl rfl (by show y.length - (off + i) < y.length - off; omega) ?_
                  (simp -implicitDefEqProofs only [go_sem, setA, bA, iA, so]; repeat (refine GO ?_; simp -implicitDefEqProofs only [go_sem, setA, bA, iA, so]))
                  refine ⟨id, by simp, ?_⟩
                  rw [List.map_append, show List.take out.length (List.map It.c out) = List.map It.c out from List.take_of_length_le (by simp)]
                  refine Es_snoc (fun x hx a ha => so_leafy out x hx a ha) ?_
                  (simp -implicitDefEqProofs only [go_sem, It.c, rowA, iA]; repeat (refine GO ?_; simp -implicitDefEqProofs only [go_sem, It.c, rowA, iA]))
                  exact ⟨by decide, _, rfl, ro3_leafy _, rfl, List.take_of_length_le (by simp [ro3])⟩
                · have h5 : h * 4294967296 + l = 0 := by simpa using h5
                  rw [if_pos h5] at os2
                  (simp -implicitDefEqProofs only [go_sem]; repeat (refine GO ?_; simp -implicitDefEqProofs only [go_sem]))
                  refine BACK.mk ⟨(off + i, out, ov), os2⟩ [(1000, some 1000)] rfl rfl (by show y.length - (off + i) < y.length - off; omega) ?_
                  (simp -implicitDefEqProofs only [go_sem, setA, bA, iA, so]; repeat (refine GO ?_; simp -implicitDefEqProofs only [go_sem, setA, bA, iA, so]))
                  exact ⟨id, .same (so out) _ _ (so_leafy out) rfl⟩
        · have h1 : off = y.length := by simp at h1; omega
          subst h1
          (simp -implicitDefEqProofs only [go_sem]; repeat (refine GO ?_; simp -implicitDefEqProofs only [go_sem]))
          refine VIF.split (fun h2 => ?_) (fun h2 => ?_)
          · obtain ⟨r, hr2⟩ := os.bad h2
            (simp -implicitDefEqProofs only [go_sem]; repeat (refine GO ?_; simp -implicitDefEqProofs only [go_sem]))
            refine FINmk [(0, none)] [(2, .rf 0 0 0), (3, iA 11)] [(0, so [])] [0] rfl ?_ ?_
            · (simp -implicitDefEqProofs only [go_sem, iA]; repeat (refine GO ?_; simp -implicitDefEqProofs only [go_sem, iA]))
              simp [so]
            · exact ⟨so [], ⟨⟨[], 11, rfl, rfl, .inr (.inl ⟨hbad, rfl, rfl, r, by rw [← tot_perm hp]; exact hr2⟩)⟩, rfl⟩, so_leafy [], rfl⟩
          · have g := os.gi h2
            have hgt := g.tot
            rw [List.take_length] at hgt
            (simp -implicitDefEqProofs only [go_sem]; repeat (refine GO ?_; simp -implicitDefEqProofs only [go_sem]))
            refine FINmk [(0, some 1000)] [(2, .rf 0 0 out.length), (3, iA 0)] [(0, so out)] [0] rfl ?_ ?_
            · (simp -implicitDefEqProofs only [go_sem, iA, so]; repeat (refine GO ?_; simp -implicitDefEqProofs only [go_sem, iA, so]))
              exact .same (so out) _ _ (so_leafy out) rfl
            · refine ⟨so out, ⟨⟨out, 0, rfl, rfl, .inr (.inr ⟨hbad, rfl, g.made, fun r => (hgt r).trans (tot_perm hp), fun t ht => ?_, by omega⟩)⟩, rfl⟩, so_leafy out, rfl⟩
              obtain ⟨u, hu, e⟩ := g.src t ht
              have := hok u hu
              refine ⟨?_, u, hp.mem_iff.1 hu, e⟩
              rw [← e]
              simp [okI] at this
              exact this.1
end Yt
namespace Yt
open Go Go.Vc Go.Proofs
set_option maxRecDepth 10000
set_option maxHeartbeats 4000000
set_option linter.unusedSimpArgs false
set_option linter.unusedVariables false
/-- What two sets are together: out, and the refusal. -/
def AddR (a b out : List It) (err : Int) : Prop := (¬ (Good a ∧ Good b) ∧ out = [] ∧ err = 1) ∨ (Good a ∧ Good b ∧ MakeR (a ++ b) out err)
theorem s23 (a b : List It) (hl : a.length + b.length ≤ 1048576) (ha : ∀ t ∈ a, t.row.length < 1073741824) (hb : ∀ t ∈ b, t.row.length < 1073741824) :
    Spec1 Try.prog 47 [setA a, setA b] (fun r o => ∃ (out : List It) (err : Int), r = .tu [.rf 0 0 out.length, iA err] ∧ o = so out ∧ AddR a b out err) := by
  refine spec1_of_vc tabOk elems ord47 Try.func47 rfl (rl := [.tmp 4, .tmp 5]) rfl (by kernel_rfl) rfl ?_
  (simp -implicitDefEqProofs only [go_sem, setA]; repeat (refine GO ?_; simp -implicitDefEqProofs only [go_sem, setA]))
  refine .pure _ (s16 a (by omega) (fun t ht => by have := ha t ht; omega)) rfl fun q hq _ => ?_
  obtain ⟨e1, rfl, _, h1⟩ := hq
  have bad : ∀ s : St, s.regs 4 = .nl → s.regs 5 = .pr (.int .i64 1) → ¬ (Good a ∧ Good b) → FIN T noOb [.tmp 4, .tmp 5] (fun r O' => ∃ o, ((∃ (out : List It) (err : Int), r = .tu [.rf 0 0 out.length, iA err] ∧ o = so out ∧ AddR a b out err) ∧ r.only0 = true) ∧ o.leafy ∧ O' = upd noOb 0 (some o)) s := by
    intro s h4 h5 hn
    refine FINmk [(0, none)] [(4, .rf 0 0 0), (5, iA 1)] [(0, so [])] [0] rfl ?_ ?_
    · (simp -implicitDefEqProofs only [go_sem, iA, h4, h5]; repeat (refine GO ?_; simp -implicitDefEqProofs only [go_sem, iA, h4, h5]))
      simp [so]
    · exact ⟨so [], ⟨⟨[], 1, rfl, rfl, .inl ⟨hn, rfl, rfl⟩⟩, rfl⟩, so_leafy [], rfl⟩
  (simp -implicitDefEqProofs only [go_sem, iA]; repeat (refine GO ?_; simp -implicitDefEqProofs only [go_sem, iA]))
  refine VIF.split (fun h => ?_) (fun h => ?_)
  · have h : e1 ≠ 0 := by simpa using h
    (simp -implicitDefEqProofs only [go_sem]; repeat (refine GO ?_; simp -implicitDefEqProofs only [go_sem]))
    exact bad _ rfl rfl fun g => h (h1.2 g.1)
  · have h : e1 = 0 := by simpa using h
    have h1 := h1.1 h
    (simp -implicitDefEqProofs only [go_sem]; repeat (refine GO ?_; simp -implicitDefEqProofs only [go_sem]))
    refine .pure _ (s16 b (by omega) (fun t ht => by have := hb t ht; omega)) rfl fun q hq _ => ?_
    obtain ⟨e2, rfl, _, h2⟩ := hq
    (simp -implicitDefEqProofs only [go_sem, iA]; repeat (refine GO ?_; simp -implicitDefEqProofs only [go_sem, iA]))
    refine VIF.split (fun h => ?_) (fun h => ?_)
    · have h : e2 ≠ 0 := by simpa using h
      (simp -implicitDefEqProofs only [go_sem]; repeat (refine GO ?_; simp -implicitDefEqProofs only [go_sem]))
      exact bad _ rfl rfl fun g => h (h2.2 g.2)
    · have h : e2 = 0 := by simpa using h
      have h2 := h2.1 h
      simp -implicitDefEqProofs only [go_sem]
      refine GO ?_
      simp -implicitDefEqProofs only [go_sem]
      refine TO [] [(16, setsA [a, b])] [] [] rfl ?_ ?_
      · (simp -implicitDefEqProofs only [go_sem, setsA, setA]; repeat (refine GO ?_; simp -implicitDefEqProofs only [go_sem, setsA, setA]))
        exact ⟨id, by decide, _, rfl, by simp [Ob.leafy, AV.leaf], rfl, rfl⟩
      simp -implicitDefEqProofs only [go_sem, setsA]
      have hcat : cat [a, b] = a ++ b := by simp [cat]
      refine .make 17 _ (s51 [a, b] (by simp) (by rw [hcat]; simpa using hl)) rfl (by simp) rfl fun q o hq hlf => ?_
      rw [hcat] at hq
      obtain ⟨rfl, hsz, hes⟩ := hq
      simp -implicitDefEqProofs only [go_sem]
      refine TO [] [(17, setA (a ++ b))] [] [] rfl ?_ ?_
      · (simp -implicitDefEqProofs only [go_sem, setA]; repeat (refine GO ?_; simp -implicitDefEqProofs only [go_sem, setA]))
        exact ⟨id, by decide, _, rfl, hlf, hsz, hes⟩
      (simp -implicitDefEqProofs only [go_sem, setA]; repeat (refine GO ?_; simp -implicitDefEqProofs only [go_sem, setA]))
      refine .make 18 _ (s11 (a ++ b) (by simpa using hl) (fun t ht => by rcases List.mem_append.1 ht with h | h; exact ha t h; exact hb t h)) rfl (by simp) rfl fun q o hq _ => ?_
      obtain ⟨out, err, rfl, rfl, hm⟩ := hq
      (simp -implicitDefEqProofs only [go_sem, iA]; repeat (refine GO ?_; simp -implicitDefEqProofs only [go_sem, iA]))
      refine FINmk [(0, some 18)] [(4, .rf 0 0 out.length), (5, iA err)] [(0, so out)] [0] rfl ?_ ?_
      · (simp -implicitDefEqProofs only [go_sem, so, iA]; repeat (refine GO ?_; simp -implicitDefEqProofs only [go_sem, so, iA]))
        exact .same (so out) _ _ (so_leafy out) rfl
      · exact ⟨so out, ⟨⟨out, err, rfl, rfl, .inr ⟨h1, h2, hm⟩⟩, rfl⟩, so_leafy out, rfl⟩
end Yt
namespace Yt
open Go Go.Vc Go.Proofs
set_option maxRecDepth 10000
set_option maxHeartbeats 4000000
set_option linter.unusedSimpArgs false
set_option linter.unusedVariables false
theorem made_okW {o : List It} (h : Made o) (r : List V) : okW (tot r o) = true := by
  by_cases hn : tot r o = 0
  · rw [hn]; simp [okW, inB]
  · obtain ⟨t, ht, rfl⟩ := (tot_there h r).1 hn
    rw [tot_made h ht]; exact (h.nz t ht).2
theorem makeR_bad {z out : List It} {err : Int} (h : MakeR z out err) (hb : (z.any fun t => !okI t) = true) : out = [] ∧ err = 1 := by
  rcases h with ⟨_, h⟩ | ⟨h, _⟩ | ⟨h, _⟩
  · exact h
  · rw [hb] at h; cases h
  · rw [hb] at h; cases h
theorem makeR_over {z out : List It} {err : Int} (h : MakeR z out err) (hb : (z.any fun t => !okI t) = false) {r : List V} (hr : okW (tot r z) = false) : out = [] ∧ err = 11 := by
  rcases h with ⟨h, _⟩ | ⟨_, h1, h2, _⟩ | ⟨_, _, hm, ht, _⟩
  · rw [hb] at h; cases h
  · exact ⟨h1, h2⟩
  · rw [← ht r, made_okW hm r] at hr; cases hr
theorem makeR_ok {z out o : List It} {err : Int} (h : MakeR z out err) (hb : (z.any fun t => !okI t) = false) (ho : Made o) (hr : ∀ r, tot r o = tot r z) : out = o ∧ err = 0 := by
  rcases h with ⟨h, _⟩ | ⟨_, h1, h2, r, h3⟩ | ⟨_, h1, hm, ht, _⟩
  · rw [hb] at h; cases h
  · rw [← hr r, made_okW ho r] at h3; cases h3
  · exact ⟨made_eq hm ho fun r => (ht r).trans (hr r).symm, h1⟩
def r1 : List V := [⟨3, 1, ByteArray.empty⟩]
end Yt
namespace Yt
open Go Go.Vc Go.Proofs
set_option maxRecDepth 10000
set_option maxHeartbeats 8000000
set_option linter.unusedSimpArgs false
set_option linter.unusedVariables false
theorem makeR_fine {z out : List It} {err : Int} (h : MakeR z out err) (hb : (z.any fun t => !okI t) = false) (hr : ∀ r, okW (tot r z) = true) :
    err = 0 ∧ Made out ∧ (∀ r, tot r out = tot r z) ∧ (∀ t ∈ out, okR t.row = 0 ∧ ∃ u ∈ z, u.row = t.row) ∧ out.length ≤ z.length := by
  rcases h with ⟨h, _⟩ | ⟨_, _, _, r, h⟩ | ⟨_, h1, hm, ht, h2⟩
  · rw [hb] at h; cases h
  · rw [hr r] at h; cases h
  · exact ⟨h1, hm, ht, h2⟩
theorem tot_bound {z : List It} {k : Int} (hk : 0 ≤ k) (h : ∀ t ∈ z, -k ≤ t.w ∧ t.w ≤ k) (r : List V) : -(k * z.length) ≤ tot r z ∧ tot r z ≤ k * z.length := by
  induction z with
  | nil => simp [tot]
  | cons t z ih =>
    have h1 := h t (by simp)
    have h2 := ih fun u hu => h u (by simp [hu])
    have e : k * ((t :: z).length : Int) = k + k * (z.length : Int) := by
      rw [List.length_cons, Int.natCast_add, Int.mul_add]; omega
    rw [e]
    simp only [tot]
    split <;> omega
def redI (k : Int) (t : It) : It := ⟨t.row, t.w.tmod k⟩
def okB (t : It) : Bool := decide (okR t.row = 0)
/-- The first items whose rows are right, their weights cut short. -/
def inp (k : Int) (l : List It) : List It := (l.filter okB).map (redI k)
end Yt
namespace Yt
open Go Go.Vc Go.Proofs
set_option maxRecDepth 10000
set_option maxHeartbeats 8000000
set_option linter.unusedSimpArgs false
set_option linter.unusedVariables false
@[go_sem] theorem cells_rowA {r : List V} {K : List AV → Prop} : cellsOf (rowA r) K = K [rowA r] := rfl
/-- A tame set, of items. -/
structure Tm (l z : List It) : Prop where
  made : Made z
  tot : ∀ r, tot r z = Yt.tot r (inp 100 (l.take 60))
  rows : ∀ t ∈ z, okR t.row = 0 ∧ ∃ u ∈ l, u.row = t.row
  len : z.length ≤ 60
  small : ∀ t ∈ z, -5940 ≤ t.w ∧ t.w ≤ 5940
theorem Tm.good {l z : List It} (h : Tm l z) : Good z := good_made.2 ⟨h.made, fun t ht => (h.rows t ht).1⟩
end Yt
namespace Yt
open Go Go.Vc Go.Proofs
set_option maxRecDepth 10000
set_option maxHeartbeats 8000000
set_option linter.unusedSimpArgs false
set_option linter.unusedVariables false
def mulI (n : Int) (t : It) : It := ⟨t.row, n * t.w⟩
theorem tot_mul (n : Int) (z : List It) (r : List V) : tot r (z.map (mulI n)) = n * tot r z := by
  induction z with
  | nil => simp [tot]
  | cons t z ih =>
    simp only [List.map_cons, tot, ih, mulI]
    split
    · rw [Int.mul_add]
    · rw [Int.zero_add, Int.zero_add]
theorem made_mul {n : Int} {z : List It} (hn : 0 < n) (hm : Made z) (hb : ∀ t ∈ z, okW (n * t.w) = true) : Made (z.map (mulI n)) := by
  refine ⟨?_, fun t ht => ?_⟩
  · rw [List.pairwise_map]
    exact hm.pw
  · obtain ⟨u, hu, rfl⟩ := List.mem_map.1 ht
    refine ⟨?_, hb u hu⟩
    exact Int.mul_ne_zero (by omega) (hm.nz u hu).1
end Yt
namespace Yt
open Go Go.Vc Go.Proofs
set_option maxRecDepth 10000
set_option maxHeartbeats 8000000
set_option linter.unusedSimpArgs false
set_option linter.unusedVariables false
theorem Es_refl {st : St} {m : List (Nat × Option Nat)} : ∀ {l : List (List AV)}, (∀ x ∈ l, ∀ a ∈ x, a.leaf = true) → Es st m l l := fun {l} h => .same ⟨0, []⟩ _ _ h rfl
theorem Es_set {st : St} {m : List (Nat × Option Nat)} : ∀ {l : List (List AV)} {i : Nat} {cs cs' : List AV}, (∀ x ∈ l, ∀ a ∈ x, a.leaf = true) → l[i]? = some cs' → wk.wks st m cs cs' → Es st m (l.set i cs) l
  | [], _, _, _, _, h, _ => by simp at h
  | x :: r, 0, cs, cs', hl, h, hw => by
    simp at h
    subst h
    exact .cons hw (Es_refl fun y hy => hl y (by simp [hy]))
  | x :: r, i + 1, cs, cs', hl, h, hw => .cons (wks_leaf (hl x (by simp))) (Es_set (fun y hy => hl y (by simp [hy])) (by simpa using h) hw)
theorem s57 (z : List It) (hl : z.length ≤ 1048576) (hr : ∀ t ∈ z, t.row.length < 1073741824) :
    Spec1 Try.prog 83 [setA z] (fun r o => r = .rf 0 0 z.length ∧ o = so z) := by
  refine spec1_of_vc tabOk elems ord83 Try.func83 rfl (rl := [.tmp 2]) rfl (by kernel_rfl) rfl ?_
  (simp -implicitDefEqProofs only [go_sem, setA]; repeat (refine GO ?_; simp -implicitDefEqProofs only [go_sem, setA]))
  refine .make 6 _ (s38 z (by omega)) rfl (by simp) rfl fun q o hq _ => ?_
  obtain ⟨rfl, rfl⟩ := hq
  (simp -implicitDefEqProofs only [go_sem]; repeat (refine GO ?_; simp -implicitDefEqProofs only [go_sem]))
  refine LOOP.mk (ι := { i : Nat // i ≤ z.length }) (fun p => mkS [(3, .rf 1000 0 z.length), (8, iA z.length), (9, iA p.1)] [(1000, so z)] [1000])
    (fun p => z.length - p.1) ⟨0, Nat.zero_le _⟩ [(1000, some 6)] rfl rfl ?_ (fun p => ?_)
  · (simp -implicitDefEqProofs only [go_sem, iA, so]; repeat (refine GO ?_; simp -implicitDefEqProofs only [go_sem, iA, so]))
    exact ⟨id, rfl, .same (so z) _ _ (so_leafy z) rfl⟩
  · obtain ⟨i, hi⟩ := p
    (simp -implicitDefEqProofs only [go_sem, iA, so]; repeat (refine GO ?_; simp -implicitDefEqProofs only [go_sem, iA, so]))
    refine VIF.split (fun h => ?_) (fun h => ?_)
    · have h : i < z.length := by simpa using h
      have w1 := wrap_add1 (show i < 4611686018427387904 by omega)
      (simp -implicitDefEqProofs only [go_sem]; repeat (refine GO ?_; simp -implicitDefEqProofs only [go_sem]))
      refine ⟨by omega, EL.map h ?_⟩
      (simp -implicitDefEqProofs only [go_sem, It.c]; repeat (refine GO ?_; simp -implicitDefEqProofs only [go_sem, It.c]))
      refine .make 19 _ (s43 z[i].row (by have := hr _ (List.getElem_mem h); omega)) rfl (by simp) rfl fun q o hq _ => ?_
      obtain ⟨rfl, rfl⟩ := hq
      (simp -implicitDefEqProofs only [go_sem, w1]; repeat (refine GO ?_; simp -implicitDefEqProofs only [go_sem, w1]))
      refine ⟨by omega, EL.map h ?_⟩
      (simp -implicitDefEqProofs only [go_sem, It.c, w1]; repeat (refine GO ?_; simp -implicitDefEqProofs only [go_sem, It.c, w1]))
      refine BACK.mk ⟨i + 1, by omega⟩ [(1000, some 1000)] rfl rfl (by show z.length - (i + 1) < z.length - i; omega) ?_
      (simp -implicitDefEqProofs only [go_sem, iA, so, w1]; repeat (refine GO ?_; simp -implicitDefEqProofs only [go_sem, iA, so, w1]))
      refine ⟨id, Es_set (so_leafy z) (show (z.map It.c)[i]? = some (It.c z[i]) by simp [h]) ?_⟩
      (simp -implicitDefEqProofs only [go_sem, It.c, rowA, iA]; repeat (refine GO ?_; simp -implicitDefEqProofs only [go_sem, It.c, rowA, iA]))
      exact ⟨by decide, _, rfl, ro3_leafy _, rfl, List.take_of_length_le (by simp [ro3])⟩
    · have h : i = z.length := by simp at h; omega
      (simp -implicitDefEqProofs only [go_sem]; repeat (refine GO ?_; simp -implicitDefEqProofs only [go_sem]))
      refine FINmk [(0, some 1000)] [(2, .rf 0 0 z.length)] [(0, so z)] [0] rfl ?_ ?_
      · (simp -implicitDefEqProofs only [go_sem, so]; repeat (refine GO ?_; simp -implicitDefEqProofs only [go_sem, so]))
        exact .same (so z) _ _ (so_leafy z) rfl
      · exact ⟨so z, ⟨⟨rfl, rfl⟩, rfl⟩, so_leafy z, rfl⟩
def negI (t : It) : It := ⟨t.row, -t.w⟩
theorem s31 (z : List It) (hl : z.length ≤ 1048576) (hr : ∀ t ∈ z, t.row.length < 1073741824) :
    Spec1 Try.prog 59 [setA z] (fun r o => ∃ (out : List It) (err : Int), r = .tu [.rf 0 0 out.length, iA err] ∧ o = so out ∧ ((¬ Good z ∧ out = [] ∧ err = 1) ∨ (Good z ∧ out = z.map negI ∧ err = 0))) := by
  refine spec1_of_vc tabOk elems ord59 Try.func59 rfl (rl := [.tmp 2, .tmp 3]) rfl (by kernel_rfl) rfl ?_
  (simp -implicitDefEqProofs only [go_sem, setA]; repeat (refine GO ?_; simp -implicitDefEqProofs only [go_sem, setA]))
  refine .pure _ (s16 z (by omega) (fun t ht => by have := hr t ht; omega)) rfl fun q hq _ => ?_
  obtain ⟨e, rfl, he, hg⟩ := hq
  (simp -implicitDefEqProofs only [go_sem, iA]; repeat (refine GO ?_; simp -implicitDefEqProofs only [go_sem, iA]))
  refine VIF.split (fun h => ?_) (fun h => ?_)
  · have h : e ≠ 0 := by simpa using h
    have h1 : e = 1 := by omega
    subst h1
    (simp -implicitDefEqProofs only [go_sem]; repeat (refine GO ?_; simp -implicitDefEqProofs only [go_sem]))
    refine FINmk [(0, none)] [(2, .rf 0 0 0), (3, iA 1)] [(0, so [])] [0] rfl ?_ ?_
    · (simp -implicitDefEqProofs only [go_sem, iA]; repeat (refine GO ?_; simp -implicitDefEqProofs only [go_sem, iA]))
      simp [so]
    · exact ⟨so [], ⟨⟨[], 1, rfl, rfl, .inl ⟨fun g => h (hg.2 g), rfl, rfl⟩⟩, rfl⟩, so_leafy [], rfl⟩
  · have h : e = 0 := by simpa using h
    have hg := hg.1 h
    (simp -implicitDefEqProofs only [go_sem]; repeat (refine GO ?_; simp -implicitDefEqProofs only [go_sem]))
    refine .make 13 _ (s57 z hl hr) rfl (by simp) rfl fun q o hq _ => ?_
    obtain ⟨rfl, rfl⟩ := hq
    (simp -implicitDefEqProofs only [go_sem]; repeat (refine GO ?_; simp -implicitDefEqProofs only [go_sem]))
    refine LOOP.mk (ι := { p : Nat × List It // p.1 ≤ z.length ∧ p.2.length = z.length ∧ ∀ j (h1 : j < p.2.length) (h2 : j < z.length), p.2[j] = if j < p.1 then negI z[j] else z[j] }) (fun p => mkS [(5, .rf 1000 0 z.length), (15, iA z.length), (16, iA p.1.1)] [(1000, so p.1.2)] [1000])
      (fun p => z.length - p.1.1) ⟨(0, z), Nat.zero_le _, rfl, fun j h1 h2 => by rw [if_neg (Nat.not_lt_zero _)]⟩ [(1000, some 13)] rfl rfl ?_ (fun p => ?_)
    · (simp -implicitDefEqProofs only [go_sem, iA, so]; repeat (refine GO ?_; simp -implicitDefEqProofs only [go_sem, iA, so]))
      exact ⟨id, rfl, .same (so z) _ _ (so_leafy z) rfl⟩
    · obtain ⟨⟨i, o⟩, hi, hol, hos⟩ := p
      simp only at hi hol hos
      (simp -implicitDefEqProofs only [go_sem, iA, so]; repeat (refine GO ?_; simp -implicitDefEqProofs only [go_sem, iA, so]))
      refine VIF.split (fun h => ?_) (fun h => ?_)
      · have h : i < z.length := by simpa using h
        have ho : i < o.length := by omega
        have hoi : o[i] = z[i] := by rw [hos i ho h, if_neg (Nat.lt_irrefl _)]
        have w1 := wrap_add1 (show i < 4611686018427387904 by omega)
        have hw := okW_le ((good_made.1 hg).1.nz _ (List.getElem_mem h)).2
        have w2 : IntKind.i64.wrap (0 - z[i].w) = -z[i].w := by rw [wrap_i64] <;> omega
        have w3 : IntKind.i64.wrap (0 - o[i].w) = -z[i].w := by rw [hoi]; exact w2
        (simp -implicitDefEqProofs only [go_sem]; repeat (refine GO ?_; simp -implicitDefEqProofs only [go_sem]))
        refine ⟨by omega, EL.map ho ?_⟩
        (simp -implicitDefEqProofs only [go_sem, It.c, iA, w1, w2, w3]; repeat (refine GO ?_; simp -implicitDefEqProofs only [go_sem, It.c, iA, w1, w2, w3]))
        refine ⟨by omega, EL.map ho ?_⟩
        (simp -implicitDefEqProofs only [go_sem, It.c, iA, w1]; repeat (refine GO ?_; simp -implicitDefEqProofs only [go_sem, It.c, iA, w1]))
        refine BACK.mk ⟨(i + 1, o.set i (negI z[i])), by omega, by simp [hol], fun j h1 h2 => ?_⟩ [(1000, some 1000)] rfl rfl (by show z.length - (i + 1) < z.length - i; omega) ?_
        · show (o.set i (negI z[i]))[j] = _
          rw [List.getElem_set]
          by_cases e1 : i = j
          · subst e1; rw [if_pos rfl, if_pos (by omega)]
          · rw [if_neg e1, hos j (by omega) h2]
            by_cases e2 : j < i
            · rw [if_pos e2, if_pos (by omega)]
            · rw [if_neg e2, if_neg (by omega)]
        (simp -implicitDefEqProofs only [go_sem, iA, so, w1]; repeat (refine GO ?_; simp -implicitDefEqProofs only [go_sem, iA, so, w1]))
        have e1 : (List.map It.c o).set i [rowA o[i].row, iA (-z[i].w)] = List.map It.c (o.set i (negI z[i])) := by
          rw [List.map_set, hoi]; rfl
        exact ⟨id, .same (so []) _ _ (fun x hx => so_leafy (o.set i (negI z[i])) x (by rw [so]; exact e1 ▸ hx)) e1⟩
      · have h : i = z.length := by simp at h; omega
        have ho : o = z.map negI := List.ext_getElem (by simp [hol]) fun j h1 h2 => by
          rw [hos j h1 (by omega), if_pos (by omega), List.getElem_map]
        (simp -implicitDefEqProofs only [go_sem]; repeat (refine GO ?_; simp -implicitDefEqProofs only [go_sem]))
        refine FINmk [(0, some 1000)] [(2, .rf 0 0 z.length), (3, iA 0)] [(0, so (z.map negI))] [0] rfl ?_ ?_
        · (simp -implicitDefEqProofs only [go_sem, so, iA]; repeat (refine GO ?_; simp -implicitDefEqProofs only [go_sem, so, iA]))
          rw [ho]
          exact .same (so (z.map negI)) _ _ (so_leafy (z.map negI)) rfl
        · exact ⟨so (z.map negI), ⟨⟨z.map negI, 0, by rw [List.length_map]; rfl, rfl, .inr ⟨hg, rfl, rfl⟩⟩, rfl⟩, so_leafy (z.map negI), rfl⟩
end Yt
namespace Yt
open Go Go.Vc Go.Proofs
set_option maxRecDepth 10000
set_option maxHeartbeats 8000000
set_option linter.unusedSimpArgs false
set_option linter.unusedVariables false
theorem tot_neg (z : List It) (r : List V) : tot r (z.map negI) = -tot r z := by
  induction z with
  | nil => simp [tot]
  | cons t z ih => simp only [List.map_cons, tot, ih, negI]; split <;> omega
theorem okW_neg {w : Int} (h : okW w = true) : okW (-w) = true := by simp [okW, inB] at h ⊢; omega
theorem made_neg {z : List It} (h : Made z) : Made (z.map negI) := by
  refine ⟨?_, fun t ht => ?_⟩
  · rw [List.pairwise_map]; exact h.pw
  · obtain ⟨u, hu, rfl⟩ := List.mem_map.1 ht
    have := h.nz u hu
    exact ⟨by simp only [negI]; omega, okW_neg this.2⟩
/-- A small set. -/
structure Sm (z : List It) (k : Nat) : Prop where
  made : Made z
  rows : ∀ t ∈ z, okR t.row = 0 ∧ t.row.length ≤ 40
  len : z.length ≤ 60 * k
  tot : ∀ r, -(356400 * (k : Int)) ≤ Yt.tot r z ∧ Yt.tot r z ≤ 356400 * k
theorem Sm.good {z : List It} {k : Nat} (h : Sm z k) : Good z := good_made.2 ⟨h.made, fun t ht => (h.rows t ht).1⟩
/-- Two small ones together. -/
theorem Sm.add {x y out : List It} {i j : Nat} {err : Int} (hx : Sm x i) (hy : Sm y j) (hij : i + j ≤ 100) (h : AddR x y out err) : err = 0 ∧ Sm out (i + j) ∧ ∀ r, Yt.tot r out = Yt.tot r x + Yt.tot r y := by
  have hm : MakeR (x ++ y) out err := by
    rcases h with ⟨h, _⟩ | ⟨_, _, h⟩
    · exact absurd ⟨hx.good, hy.good⟩ h
    · exact h
  have hfine : ((x ++ y).any fun t => !okI t) = false := by
    rw [List.any_eq_false]; intro t ht
    rcases List.mem_append.1 ht with ht | ht
    · simp [okI, (hx.rows t ht).1, (hx.made.nz t ht).2]
    · simp [okI, (hy.rows t ht).1, (hy.made.nz t ht).2]
  have hb : ∀ r, -(356400 * ((i + j : Nat) : Int)) ≤ Yt.tot r (x ++ y) ∧ Yt.tot r (x ++ y) ≤ 356400 * ((i + j : Nat) : Int) := fun r => by
    have h1 := hx.tot r
    have h2 := hy.tot r
    rw [tot_append]; omega
  obtain ⟨h1, h2, h3, h4, h5⟩ := makeR_fine hm hfine fun r => by
    have := hb r
    simp only [okW, inB, Bool.and_eq_true, decide_eq_true_eq]; omega
  refine ⟨h1, ⟨h2, fun t ht => ?_, ?_, fun r => by rw [h3]; exact hb r⟩, fun r => by rw [h3, tot_append]⟩
  · obtain ⟨g1, u, hu, e⟩ := h4 t ht
    refine ⟨g1, ?_⟩
    rw [← e]
    rcases List.mem_append.1 hu with hu | hu
    · exact (hx.rows u hu).2
    · exact (hy.rows u hu).2
  · have h6 := hx.len; have h7 := hy.len
    rw [List.length_append] at h5; omega
theorem Sm.neg {x : List It} {i : Nat} (h : Sm x i) : Sm (x.map negI) i :=
  ⟨made_neg h.made, fun t ht => by obtain ⟨u, hu, rfl⟩ := List.mem_map.1 ht; exact h.rows u hu, by rw [List.length_map]; exact h.len, fun r => by rw [tot_neg]; have := h.tot r; omega⟩
end Yt
namespace Yt
open Go Go.Vc Go.Proofs
set_option maxRecDepth 10000
set_option maxHeartbeats 8000000
set_option linter.unusedSimpArgs false
set_option linter.unusedVariables false
end Yt
namespace Yt
open Go Go.Vc Go.Proofs
set_option maxRecDepth 10000
set_option maxHeartbeats 8000000
set_option linter.unusedSimpArgs false
set_option linter.unusedVariables false
structure Pr where
  kind : Int
  col : Int
  other : Int
  val : V
def Pr.c (p : Pr) : List AV := [.pr (.int .i64 p.kind), .pr (.int .i64 p.col), .pr (.int .i64 p.other), .pr (.int .i64 p.val.k), .pr (.int .i64 p.val.i), .pr (.string p.val.s)]
def inC (c n : Int) : Bool := decide (0 ≤ c) && decide (c < n)
def getV (r : List V) (c : Int) : V := (r[c.toNat]?).getD ⟨0, 0, ByteArray.empty⟩
end Yt
namespace Yt
open Go Go.Vc Go.Proofs
set_option maxRecDepth 10000
set_option maxHeartbeats 8000000
set_option linter.unusedSimpArgs false
set_option linter.unusedVariables false
mutual
theorem lend_noId {f : List AV → List AV} {p : List AV → Prop} {objs : Nat → Option Ob} : ∀ (v : AV), v.noId = true → v.lendW f objs = v ∧ v.lok p objs
  | .un, _ => by simp [AV.lendW, AV.lok]
  | .pr v, _ => by simp [AV.lendW, AV.lok]
  | .nl, _ => by simp [AV.lendW, AV.lok]
  | .im a b, _ => by simp [AV.lendW, AV.lok]
  | .rf a b c, h => by simp [AV.noId] at h
  | .pt a b c, h => by simp [AV.noId] at h
  | .ro a b, _ => by simp [AV.lendW, AV.lok]
  | .ag cs, h => by
    have := lends_noId (f := f) (p := p) (objs := objs) cs (by simpa [AV.noId] using h)
    simp only [AV.lendW, AV.lok]; exact ⟨by rw [this.1], this.2⟩
  | .tu cs, h => by
    have := lends_noId (f := f) (p := p) (objs := objs) cs (by simpa [AV.noId] using h)
    simp only [AV.lendW, AV.lok]; exact ⟨by rw [this.1], this.2⟩
  | .fn g cs, h => by
    have := lends_noId (f := f) (p := p) (objs := objs) cs (by simpa [AV.noId] using h)
    simp only [AV.lendW, AV.lok]; exact ⟨by rw [this.1], this.2⟩
theorem lends_noId {f : List AV → List AV} {p : List AV → Prop} {objs : Nat → Option Ob} : ∀ (l : List AV), noIds l = true → lendsW f objs l = l ∧ loks p objs l
  | [], _ => ⟨rfl, trivial⟩
  | x :: r, h => by
    simp only [noIds, Bool.and_eq_true] at h
    have h1 := lend_noId (f := f) (p := p) (objs := objs) x h.1
    have h2 := lends_noId (f := f) (p := p) (objs := objs) r h.2
    simp only [lendsW, loks]; exact ⟨by rw [h1.1, h2.1], h1.2, h2.2⟩
end
theorem so_leafs (z : List It) : leafs2 (z.map It.c) := by
  have := so_leafy z
  rw [so, leafy_do] at this; exact this
/-- Where deleting stands: i are kept of the first j. -/
structure Dl (p : It → Bool) (z y : List It) (i j : Nat) : Prop where
  ij : i < j
  jn : j ≤ z.length
  len : y.length = z.length
  kept : y.take i = (z.take j).filter fun t => !p t
  rest : y.drop j = z.drop j
theorem Dl.keep {p : It → Bool} {z y : List It} {i j : Nat} (d : Dl p z y i j) (hj : j < z.length) (hp : p z[j] = false) : Dl p z (y.set i z[j]) (i + 1) (j + 1) := by
  obtain ⟨h1, h2, h3, h4, h5⟩ := d
  refine ⟨by omega, by omega, by simp [h3], ?_, ?_⟩
  · rw [List.take_succ_eq_append_getElem (by simp; omega), List.take_succ_eq_append_getElem hj, List.filter_append, ← h4, List.take_set_of_le (Nat.le_refl _)]
    simp [hp]
  · rw [List.drop_set_of_lt (by omega)]
    have := congrArg (List.drop 1) h5
    simpa [List.drop_drop, Nat.add_comm] using this
theorem Dl.drop {p : It → Bool} {z y : List It} {i j : Nat} (d : Dl p z y i j) (hj : j < z.length) (hp : p z[j] = true) : Dl p z y i (j + 1) := by
  obtain ⟨h1, h2, h3, h4, h5⟩ := d
  refine ⟨by omega, by omega, h3, ?_, ?_⟩
  · rw [List.take_succ_eq_append_getElem hj, List.filter_append, ← h4]
    simp [hp]
  · have := congrArg (List.drop 1) h5
    simpa [List.drop_drop, Nat.add_comm] using this
theorem Dl.at {p : It → Bool} {z y : List It} {i j : Nat} (d : Dl p z y i j) (hj : j < z.length) (hy : j < y.length) : y[j] = z[j] := by
  have h : (y.drop j)[0]? = (z.drop j)[0]? := by rw [d.rest]
  simp only [List.getElem?_drop, Nat.add_zero, List.getElem?_eq_getElem hj, List.getElem?_eq_getElem hy, Option.some.injEq] at h
  exact h
theorem Dl.done {p : It → Bool} {z y : List It} {i : Nat} (d : Dl p z y i z.length) : y.take i = z.filter fun t => !p t := by
  rw [d.kept, List.take_length]
theorem c82 (g : Nat) (caps : List AV) (hc : noIds caps = true) (p : It → Bool) (B : It → Prop) (hg : ∀ t : It, B t → Spec0 Try.prog g (.ag t.c :: caps) (· = bA (p t))) (z : List It) (hB : ∀ t ∈ z, B t) (hl : z.length ≤ 1048576) :
    SpecB Try.prog 82 [.rf 0 0 z.length, .fn g caps] (so z) (fun r o' => ∃ y, y = (z.filter fun t => !p t) ∧ r = .rf 0 0 y.length ∧ o'.sz = 2 ∧ o'.es.take y.length = y.map It.c) := by
  refine specB_of_vc tabOk elems ord82 Try.func82 rfl (rl := [.tmp 4]) rfl (by kernel_rfl) rfl ?_
  (simp -implicitDefEqProofs only [go_sem, so]; repeat (refine GO ?_; simp -implicitDefEqProofs only [go_sem, so]))
  refine .lendTo (s47 g caps hc p B hg z hB (by omega)) ?_ (by rintro _ rfl; rfl) fun q hq => ?_
  · (simp -implicitDefEqProofs only [go_sem, setA]; repeat (refine GO ?_; simp -implicitDefEqProofs only [go_sem, setA]))
    exact ⟨by rw [List.take_of_length_le (by simp), (lends_noId (p := leafs) caps hc).1], so_leafs z, (lends_noId (f := fun x => x) caps hc).2⟩
  subst hq
  (simp -implicitDefEqProofs only [go_sem, idxA, iA]; repeat (refine GO ?_; simp -implicitDefEqProofs only [go_sem, idxA, iA]))
  refine VIF.split (fun h => ?_) (fun h => ?_)
  · have hn : z.findIdx? p = none := by
      cases hf : z.findIdx? p with
      | none => rfl
      | some i => rw [hf] at h; simp [idxI] at h
    rw [List.findIdx?_eq_none_iff] at hn
    have hz : (z.filter fun t => !p t) = z := List.filter_eq_self.2 fun t ht => by simp [hn t ht]
    (simp -implicitDefEqProofs only [go_sem]; repeat (refine GO ?_; simp -implicitDefEqProofs only [go_sem]))
    refine FIN_B [(4, .rf 0 0 z.length)] rfl (so_leafy z) ?_ ?_
    · (simp -implicitDefEqProofs only [go_sem]; repeat (refine GO ?_; simp -implicitDefEqProofs only [go_sem]))
    · exact ⟨so z, ⟨⟨z, hz.symm, rfl, rfl, List.take_of_length_le (by simp [so])⟩, rfl⟩, so_leafy z, rfl⟩
  · obtain ⟨i, hf⟩ : ∃ i, z.findIdx? p = some i := by
      cases hf : z.findIdx? p with
      | none => rw [hf] at h; simp [idxI] at h
      | some i => exact ⟨i, rfl⟩
    rw [hf]
    rw [List.findIdx?_eq_some_iff_getElem] at hf
    obtain ⟨hi, hp, hlt⟩ := hf
    have start : Dl p z z i (i + 1) := by
      refine ⟨by omega, by omega, rfl, ?_, rfl⟩
      rw [List.take_succ_eq_append_getElem hi, List.filter_append]
      have : (z.take i).filter (fun t => !p t) = z.take i := List.filter_eq_self.2 fun t ht => by
        obtain ⟨j, hj, rfl⟩ := List.mem_iff_getElem.1 ht
        rw [List.length_take] at hj
        rw [List.getElem_take]
        have := hlt j (by omega)
        simp [this]
      rw [this]
      simp [hp]
    have w0 := wrap_add1 (show i < 4611686018427387904 by omega)
    (simp -implicitDefEqProofs only [go_sem, idxI, w0]; repeat (refine GO ?_; simp -implicitDefEqProofs only [go_sem, idxI, w0]))
    refine LOOP.mk (ι := { q : Nat × Nat × List It // Dl p z q.2.2 q.1 q.2.1 }) (fun q => mkS [(0, .rf 0 0 z.length), (1, .fn g caps), (5, iA q.1.1), (6, iA q.1.2.1)] [(0, so q.1.2.2)] [0])
      (fun q => z.length - q.1.2.1) ⟨(i, i + 1, z), start⟩ [(0, some 0)] rfl rfl ?_ (fun q => ?_)
    · (simp -implicitDefEqProofs only [go_sem, iA, so]; repeat (refine GO ?_; simp -implicitDefEqProofs only [go_sem, iA, so]))
      exact ⟨wks_noId caps hc, .same (so z) _ _ (so_leafy z) rfl⟩
    · obtain ⟨⟨i, j, y⟩, d⟩ := q
      simp only at d
      have dl := d.len
      have dij := d.ij
      have djn := d.jn
      (simp -implicitDefEqProofs only [go_sem, iA, so]; repeat (refine GO ?_; simp -implicitDefEqProofs only [go_sem, iA, so]))
      refine VIF.split (fun h1 => ?_) (fun h1 => ?_)
      · have h1 : j < z.length := by simpa using h1
        have hjy : j < y.length := by omega
        have hat := d.at h1 hjy
        have w1 := wrap_add1 (show j < 4611686018427387904 by omega)
        have w2 := wrap_add1 (show i < 4611686018427387904 by omega)
        (simp -implicitDefEqProofs only [go_sem]; repeat (refine GO ?_; simp -implicitDefEqProofs only [go_sem]))
        refine ⟨by omega, EL.map hjy ?_⟩
        (simp -implicitDefEqProofs only [go_sem, It.c]; repeat (refine GO ?_; simp -implicitDefEqProofs only [go_sem, It.c]))
        refine .pure _ (hg y[j] (by rw [hat]; exact hB _ (List.getElem_mem h1))) (by simpa [noIds, It.c, AV.noId, rowA, iA] using hc) fun q hq _ => ?_
        subst hq
        (simp -implicitDefEqProofs only [go_sem, bA]; repeat (refine GO ?_; simp -implicitDefEqProofs only [go_sem, bA]))
        refine VIF.split (fun h2 => ?_) (fun h2 => ?_)
        · have h2 : p z[j] = false := by rw [← hat]; simpa using h2
          have d2 := d.keep h1 h2
          have hiy : i < y.length := by omega
          rw [← hat] at d2
          (simp -implicitDefEqProofs only [go_sem]; repeat (refine GO ?_; simp -implicitDefEqProofs only [go_sem]))
          refine ⟨by omega, EL.map hiy ?_⟩
          (simp -implicitDefEqProofs only [go_sem, It.c, w1, w2]; repeat (refine GO ?_; simp -implicitDefEqProofs only [go_sem, It.c, w1, w2]))
          refine BACK.mk ⟨(i + 1, j + 1, y.set i y[j]), d2⟩ [(0, some 0)] rfl rfl (by show z.length - (j + 1) < z.length - j; omega) ?_
          (simp -implicitDefEqProofs only [go_sem, iA, so, w1, w2]; repeat (refine GO ?_; simp -implicitDefEqProofs only [go_sem, iA, so, w1, w2]))
          have e1 : (List.map It.c y).set i [rowA y[j].row, iA y[j].w] = List.map It.c (y.set i y[j]) := by rw [List.map_set]; rfl
          exact ⟨fun _ => trivial, wks_noId caps hc, .same (so []) _ _ (fun x hx => so_leafy (y.set i y[j]) x (by rw [so]; exact e1 ▸ hx)) e1⟩
        · have h2 : p z[j] = true := by rw [← hat]; simpa using h2
          have d2 := d.drop h1 h2
          (simp -implicitDefEqProofs only [go_sem, w1, w2]; repeat (refine GO ?_; simp -implicitDefEqProofs only [go_sem, w1, w2]))
          refine BACK.mk ⟨(i, j + 1, y), d2⟩ [(0, some 0)] rfl rfl (by show z.length - (j + 1) < z.length - j; omega) ?_
          (simp -implicitDefEqProofs only [go_sem, iA, so, w1, w2]; repeat (refine GO ?_; simp -implicitDefEqProofs only [go_sem, iA, so, w1, w2]))
          exact ⟨fun _ => trivial, wks_noId caps hc, .same (so y) _ _ (so_leafy y) rfl⟩
      · have h1 : j = z.length := by simp at h1; omega
        subst h1
        have hk := d.done
        (simp -implicitDefEqProofs only [go_sem]; repeat (refine GO ?_; simp -implicitDefEqProofs only [go_sem]))
        refine ⟨by omega, by omega, by omega, ?_⟩
        have hlf : (Ob.mk 2 (List.take i (List.map It.c y) ++ List.replicate (z.length - i) [.nl, iA 0] ++ List.drop (i + (z.length - i)) (List.map It.c y))).leafy := by
          intro x hx a ha
          simp only [List.mem_append] at hx
          rcases hx with (hx | hx) | hx
          · exact so_leafy y x (List.mem_of_mem_take hx) a ha
          · rw [(List.mem_replicate.1 hx).2] at ha
            simp only [List.mem_cons, List.not_mem_nil, or_false] at ha
            rcases ha with rfl | rfl <;> rfl
          · exact so_leafy y x (List.mem_of_mem_drop hx) a ha
        refine FIN_B [(4, .rf 0 0 i)] rfl hlf ?_ ?_
        · (simp -implicitDefEqProofs only [go_sem]; repeat (refine GO ?_; simp -implicitDefEqProofs only [go_sem]))
          exact ⟨rfl, rfl⟩
        · have hkl : i = (z.filter fun t => !p t).length := by rw [← hk, List.length_take]; omega
          refine ⟨_, ⟨⟨z.filter fun t => !p t, rfl, by rw [← hkl]; rfl, rfl, ?_⟩, rfl⟩, hlf, rfl⟩
          rw [← hkl]
          show List.take i (List.take i (List.map It.c y) ++ List.replicate (z.length - i) [.nl, iA 0] ++ List.drop (i + (z.length - i)) (List.map It.c y)) = _
          rw [List.append_assoc, List.take_append_of_le_length (by rw [List.length_take, List.length_map]; omega), List.take_take, Nat.min_self, ← List.map_take, hk]
end Yt
namespace Yt
open Go Go.Vc Go.Proofs
set_option maxRecDepth 10000
set_option maxHeartbeats 8000000
set_option linter.unusedSimpArgs false
set_option linter.unusedVariables false
/-- What is left of one set, the other taken off. -/
def MinR (a b out : List It) (err : Int) : Prop := (¬ (Good a ∧ Good b) ∧ out = [] ∧ err = 1) ∨ (Good a ∧ Good b ∧ MakeR (a ++ b.map negI) out err)
theorem good_neg {z : List It} (h : Good z) : Good (z.map negI) := by
  obtain ⟨h1, h2⟩ := good_made.1 h
  exact good_made.2 ⟨made_neg h1, fun t ht => by obtain ⟨u, hu, rfl⟩ := List.mem_map.1 ht; exact h2 u hu⟩
theorem c55 (a b : List It) (hl : a.length + b.length ≤ 1048576) (ha : ∀ t ∈ a, t.row.length < 1073741824) (hb : ∀ t ∈ b, t.row.length < 1073741824) :
    Spec1 Try.prog 55 [setA a, setA b] (fun r o => ∃ (out : List It) (err : Int), r = .tu [.rf 0 0 out.length, iA err] ∧ o = so out ∧ MinR a b out err) := by
  refine spec1_of_vc tabOk elems ord55 Try.func55 rfl (rl := [.tmp 4, .tmp 5]) rfl (by kernel_rfl) rfl ?_
  (simp -implicitDefEqProofs only [go_sem, setA]; repeat (refine GO ?_; simp -implicitDefEqProofs only [go_sem, setA]))
  have bad : ∀ s : St, s.regs 4 = .nl → s.regs 5 = .pr (.int .i64 1) → ¬ (Good a ∧ Good b) → FIN T noOb [.tmp 4, .tmp 5] (fun r O' => ∃ o, ((∃ (out : List It) (err : Int), r = .tu [.rf 0 0 out.length, iA err] ∧ o = so out ∧ MinR a b out err) ∧ r.only0 = true) ∧ o.leafy ∧ O' = upd noOb 0 (some o)) s := by
    intro s h4 h5 hn
    refine FINmk [(0, none)] [(4, .rf 0 0 0), (5, iA 1)] [(0, so [])] [0] rfl ?_ ?_
    · (simp -implicitDefEqProofs only [go_sem, iA, h4, h5]; repeat (refine GO ?_; simp -implicitDefEqProofs only [go_sem, iA, h4, h5]))
      simp [so]
    · exact ⟨so [], ⟨⟨[], 1, rfl, rfl, .inl ⟨hn, rfl, rfl⟩⟩, rfl⟩, so_leafy [], rfl⟩
  refine .pure _ (s16 a (by omega) (fun t ht => by have := ha t ht; omega)) rfl fun q hq _ => ?_
  obtain ⟨e, rfl, he, hg⟩ := hq
  (simp -implicitDefEqProofs only [go_sem, iA]; repeat (refine GO ?_; simp -implicitDefEqProofs only [go_sem, iA]))
  refine VIF.split (fun h => ?_) (fun h => ?_)
  · have h : e ≠ 0 := by simpa using h
    have h1 : e = 1 := by omega
    subst h1
    (simp -implicitDefEqProofs only [go_sem]; repeat (refine GO ?_; simp -implicitDefEqProofs only [go_sem]))
    exact bad _ rfl rfl fun g => h (hg.2 g.1)
  · have h : e = 0 := by simpa using h
    have hg := hg.1 h
    (simp -implicitDefEqProofs only [go_sem]; repeat (refine GO ?_; simp -implicitDefEqProofs only [go_sem]))
    refine .make 15 _ (s31 b (by omega) hb) rfl (by simp) rfl fun q o hq _ => ?_
    obtain ⟨n, err, rfl, rfl, hn⟩ := hq
    (simp -implicitDefEqProofs only [go_sem, iA, so]; repeat (refine GO ?_; simp -implicitDefEqProofs only [go_sem, iA, so]))
    refine VIF.split (fun h2 => ?_) (fun h2 => ?_)
    · have h2 : err ≠ 0 := by simpa using h2
      obtain ⟨hb2, rfl, rfl⟩ : ¬ Good b ∧ n = [] ∧ err = 1 := by
        rcases hn with h | ⟨_, _, h⟩
        · exact h
        · exact absurd h h2
      (simp -implicitDefEqProofs only [go_sem]; repeat (refine GO ?_; simp -implicitDefEqProofs only [go_sem]))
      exact bad _ rfl rfl fun g => hb2 g.2
    · have h2 : err = 0 := by simpa using h2
      obtain ⟨hb2, rfl⟩ : Good b ∧ n = b.map negI := by
        rcases hn with ⟨_, _, h⟩ | ⟨h, h3, _⟩
        · omega
        · exact ⟨h, h3⟩
      simp -implicitDefEqProofs only [go_sem]
      refine GO ?_
      simp -implicitDefEqProofs only [go_sem]
      refine TO [] [(21, setA a), (22, setA (b.map negI))] [] [] rfl ?_ ?_
      · (simp -implicitDefEqProofs only [go_sem, setA]; repeat (refine GO ?_; simp -implicitDefEqProofs only [go_sem, setA]))
        exact ⟨id, by decide, _, rfl, so_leafy (b.map negI), rfl, List.take_of_length_le (by simp)⟩
      (simp -implicitDefEqProofs only [go_sem, setA]; repeat (refine GO ?_; simp -implicitDefEqProofs only [go_sem, setA]))
      refine .make 23 _ (s23 a (b.map negI) (by rw [List.length_map]; exact hl) ha (fun t ht => by obtain ⟨u, hu, rfl⟩ := List.mem_map.1 ht; exact hb u hu)) rfl (by simp) rfl fun q o hq _ => ?_
      obtain ⟨out, err, rfl, rfl, hm⟩ := hq
      have hm : MakeR (a ++ b.map negI) out err := by
        rcases hm with ⟨h, _⟩ | ⟨_, _, h⟩
        · exact absurd ⟨hg, good_neg hb2⟩ h
        · exact h
      (simp -implicitDefEqProofs only [go_sem, iA]; repeat (refine GO ?_; simp -implicitDefEqProofs only [go_sem, iA]))
      refine FINmk [(0, some 23)] [(4, .rf 0 0 out.length), (5, iA err)] [(0, so out)] [0] rfl ?_ ?_
      · (simp -implicitDefEqProofs only [go_sem, so, iA]; repeat (refine GO ?_; simp -implicitDefEqProofs only [go_sem, so, iA]))
        exact .same (so out) _ _ (so_leafy out) rfl
      · exact ⟨so out, ⟨⟨out, err, rfl, rfl, .inr ⟨hg, hb2, hm⟩⟩, rfl⟩, so_leafy out, rfl⟩
end Yt
namespace Yt
open Go Go.Vc Go.Proofs
set_option maxRecDepth 10000
set_option maxHeartbeats 8000000
set_option linter.unusedSimpArgs false
set_option linter.unusedVariables false
def intsL (l : List Int) : AV := .im 1 (l.map fun n => [iA n])
def outC (n : Nat) (c : Int) : Bool := decide (c < 0) || decide ((n : Int) ≤ c)
/-- What is picked of a row, or why not. -/
def pickE (r : List V) (cols : List Int) : Int := if cols.any (outC r.length) then 1 else if 12 < cols.length then 2 else 0
def pickR (r : List V) (cols : List Int) : List V := cols.map (getV r)
/-- An item projected. -/
def projI (cols : List Int) (t : It) : It := ⟨pickR t.row cols, t.w⟩
/-- What is projected: out, and the refusal. -/
def ProjR (z : List It) (cols : List Int) (out : List It) (err : Int) : Prop :=
  (¬ Good z ∧ out = [] ∧ err = 1) ∨ (Good z ∧ (∃ t ∈ z, pickE t.row cols = err) ∧ err ≠ 0 ∧ out = []) ∨
  (Good z ∧ (∀ t ∈ z, pickE t.row cols = 0) ∧ MakeR (z.map (projI cols)) out err)
end Yt
namespace Yt
open Go Go.Vc Go.Proofs
set_option maxRecDepth 10000
set_option maxHeartbeats 8000000
set_option linter.unusedSimpArgs false
set_option linter.unusedVariables false
def wl (n : Int) : List V := [⟨3, n, ByteArray.empty⟩]
theorem wl_ok (n : Int) (h : -1152921504606846976 ≤ n ∧ n ≤ 1152921504606846976) : okR (wl n) = 0 := by
  simp [wl, okR, okV, inB, h.1, h.2]; rfl
end Yt
namespace Yt
open Go Go.Vc Go.Proofs
set_option maxRecDepth 10000
set_option maxHeartbeats 8000000
set_option linter.unusedSimpArgs false
set_option linter.unusedVariables false
@[go_sem] theorem fzE_so (id : Nat) (o : Ob) (z : List It) : fzE id o (List.map It.c z) = List.map It.c z := fzE_leafy (so_leafy z)
@[go_sem] theorem fzE_ro3 (id : Nat) (o : Ob) (z : List V) : fzE id o (List.map V.c z) = List.map V.c z := fzE_leafy (ro3_leafy z)
@[go_sem] theorem take_so (z : List It) : List.take z.length (List.map It.c z) = List.map It.c z := take_map_len _ _
@[go_sem] theorem take_ro3 (z : List V) : List.take z.length (List.map V.c z) = List.map V.c z := take_map_len _ _
theorem Sm.mono {z : List It} {k j : Nat} (h : Sm z k) (hk : k ≤ j) : Sm z j := ⟨h.made, h.rows, by have := h.len; omega, fun r => by have := h.tot r; omega⟩
theorem Sm.nil (k : Nat) : Sm [] k := ⟨⟨.nil, by simp⟩, by simp, by simp, fun r => by simp [Yt.tot]; omega⟩
theorem Sm.min {x y out : List It} {i j : Nat} {err : Int} (hx : Sm x i) (hy : Sm y j) (hij : i + j ≤ 100) (h : MinR x y out err) : err = 0 ∧ Sm out (i + j) ∧ ∀ r, Yt.tot r out = Yt.tot r x - Yt.tot r y := by
  have h2 : AddR x (y.map negI) out err := by
    rcases h with ⟨h, _⟩ | ⟨_, _, h⟩
    · exact absurd ⟨hx.good, hy.good⟩ h
    · exact .inr ⟨hx.good, hy.neg.good, h⟩
  obtain ⟨a, b, c⟩ := hx.add hy.neg hij h2
  exact ⟨a, b, fun r => by rw [c, tot_neg]; omega⟩
theorem Sm.eq {x y : List It} {i j : Nat} (hx : Sm x i) (hy : Sm y j) (h : ∀ r, Yt.tot r x = Yt.tot r y) : x = y := made_eq hx.made hy.made h
theorem Sm.w {z : List It} {k : Nat} (h : Sm z k) : ∀ t ∈ z, -(356400 * (k : Int)) ≤ t.w ∧ t.w ≤ 356400 * k := fun t ht => by
  rw [← tot_made h.made ht]; exact h.tot _
theorem Sm.mul {z : List It} {k : Nat} (h : Sm z k) (n : Nat) (hn : 0 < n) (hk : n * k ≤ 1000) : Sm (z.map (mulI n)) (n * k) := by
  refine ⟨made_mul (by omega) h.made fun t ht => ?_, fun t ht => by obtain ⟨u, hu, rfl⟩ := List.mem_map.1 ht; exact h.rows u hu, ?_, fun r => ?_⟩
  · have h1 := h.w t ht
    have h2 : (n : Int) * t.w ≤ n * (356400 * k) := Int.mul_le_mul_of_nonneg_left h1.2 (by omega)
    have h3 : (n : Int) * (-(356400 * k)) ≤ n * t.w := Int.mul_le_mul_of_nonneg_left h1.1 (by omega)
    have e : (n : Int) * (356400 * k) = 356400 * ((n * k : Nat) : Int) := by rw [Int.natCast_mul, ← Int.mul_assoc, ← Int.mul_assoc, Int.mul_comm (n : Int) 356400]
    rw [Int.mul_neg, e] at h3
    rw [e] at h2
    simp only [okW, inB, Bool.and_eq_true, decide_eq_true_eq]; omega
  · rw [List.length_map]
    have := Nat.le_mul_of_pos_left k hn
    have := h.len
    have : 60 * k ≤ 60 * (n * k) := by omega
    omega
  · rw [tot_mul]
    have h1 := h.tot r
    have h2 : (n : Int) * Yt.tot r z ≤ n * (356400 * k) := Int.mul_le_mul_of_nonneg_left h1.2 (by omega)
    have h3 : (n : Int) * (-(356400 * k)) ≤ n * Yt.tot r z := Int.mul_le_mul_of_nonneg_left h1.1 (by omega)
    have e : (n : Int) * (356400 * k) = 356400 * ((n * k : Nat) : Int) := by rw [Int.natCast_mul, ← Int.mul_assoc, ← Int.mul_assoc, Int.mul_comm (n : Int) 356400]
    rw [Int.mul_neg, e] at h3
    rw [e] at h2
    exact ⟨h3, h2⟩
end Yt
namespace Yt
open Go Go.Vc Go.Proofs
set_option maxRecDepth 10000
set_option maxHeartbeats 8000000
set_option linter.unusedSimpArgs false
set_option linter.unusedVariables false
theorem pick_in {r : List V} {cols : List Int} (h : pickE r cols = 0) : cols.length ≤ 12 ∧ ∀ c ∈ cols, 0 ≤ c ∧ c < r.length := by
  simp only [pickE] at h
  split at h
  · cases h
  · rename_i h1
    split at h
    · cases h
    · refine ⟨by omega, fun c hc => ?_⟩
      have h1 : cols.any (outC r.length) = false := by simpa using h1
      rw [List.any_eq_false] at h1
      have := h1 c hc
      simp [outC] at this
      omega
theorem pick_row {r : List V} {cols : List Int} (h : pickE r cols = 0) (hr : okR r = 0) : okR (pickR r cols) = 0 ∧ (pickR r cols).length ≤ 12 := by
  obtain ⟨h1, h2⟩ := pick_in h
  have hl : (pickR r cols).length = cols.length := by simp [pickR]
  have ha : (pickR r cols).all okV = true := by
    rw [List.all_eq_true]
    intro v hv
    obtain ⟨c, hc, rfl⟩ := List.mem_map.1 hv
    obtain ⟨g1, g2⟩ := h2 c hc
    have hlt : c.toNat < r.length := by omega
    have e : getV r c = r[c.toNat] := by simp [getV, hlt]
    rw [e]
    simp only [okR] at hr
    split at hr
    · cases hr
    · split at hr
      · rename_i h3
        exact List.all_eq_true.1 h3 _ (List.getElem_mem _)
      · cases hr
  refine ⟨?_, by omega⟩
  rw [okR, if_neg (by omega), if_pos ha]
theorem ProjR.ok {z out : List It} {k j : Nat} {cols : List Int} {err : Int} (h : Sm z k) (hb : ∀ r, -(356400 * (j : Int)) ≤ Yt.tot r (z.map (projI cols)) ∧ Yt.tot r (z.map (projI cols)) ≤ 356400 * j) (hk : k ≤ j) (hj : j ≤ 1000)
    (hp : ProjR z cols out err) : (err = 0 ∧ (∀ t ∈ z, pickE t.row cols = 0) ∧ Sm out j ∧ ∀ r, Yt.tot r out = Yt.tot r (z.map (projI cols))) ∨ (err ≠ 0 ∧ out = [] ∧ ∃ t ∈ z, pickE t.row cols = err) := by
  rcases hp with ⟨hn, _⟩ | ⟨_, ht, he, ho⟩ | ⟨_, ht, hm⟩
  · exact absurd h.good hn
  · exact .inr ⟨he, ho, ht⟩
  · refine .inl ?_
    obtain ⟨h1, h2, h3, h4, h5⟩ := makeR_fine hm (by
      rw [List.any_eq_false]; intro t hv
      obtain ⟨u, hu, rfl⟩ := List.mem_map.1 hv
      have e1 := (pick_row (ht u hu) (h.rows u hu).1).1
      have e2 := (h.made.nz u hu).2
      simp [okI, projI, e1, e2]) fun r => by
        have := hb r
        simp only [okW, inB, Bool.and_eq_true, decide_eq_true_eq]; omega
    refine ⟨h1, ht, ⟨h2, fun t hu => ?_, ?_, fun r => by rw [h3]; exact hb r⟩, h3⟩
    · obtain ⟨g1, u, hu, e⟩ := h4 t hu
      obtain ⟨v, hv, rfl⟩ := List.mem_map.1 hu
      refine ⟨g1, ?_⟩
      rw [← e]
      have := (pick_row (ht v hv) (h.rows v hv).1).2
      have e3 : (projI cols v).row = pickR v.row cols := rfl
      rw [e3]; omega
    · have := h.len
      rw [List.length_map] at h5; omega
theorem ProjR.len {z out : List It} {cols : List Int} {err : Int} (h : ProjR z cols out err) : out.length ≤ z.length := by
  rcases h with ⟨_, rfl, _⟩ | ⟨_, _, _, rfl⟩ | ⟨_, _, h⟩
  · simp
  · simp
  · rcases h with ⟨_, rfl, _⟩ | ⟨_, rfl, _⟩ | ⟨_, _, _, _, _, h⟩
    · simp
    · simp
    · simpa using h
end Yt
namespace Yt
open Go Go.Vc Go.Proofs
set_option maxRecDepth 10000
set_option maxHeartbeats 8000000
set_option linter.unusedSimpArgs false
set_option linter.unusedVariables false
theorem fz_so (z : List It) : (AV.rf 0 0 z.length).fz 0 (so z) = setA z := by
  rw [fz_rf, if_pos rfl, List.drop_zero, List.take_of_length_le (by simp [so])]; rfl
theorem fz_ro3 (r : List V) : (AV.rf 0 0 r.length).fz 0 (ro3 r) = rowA r := by
  rw [fz_rf, if_pos rfl, List.drop_zero, List.take_of_length_le (by simp [ro3])]; rfl
theorem Spec1.setE {f : Nat} {args : List AV} {Q : List It → Int → Prop} (h : Spec1 Try.prog f args (fun r o => ∃ (out : List It) (err : Int), r = .tu [.rf 0 0 out.length, iA err] ∧ o = so out ∧ Q out err)) :
    Spec0 Try.prog f args fun r => ∃ (out : List It) (err : Int), r = .tu [setA out, iA err] ∧ Q out err :=
  (Spec1.fz h).mono fun r O' ⟨⟨⟨r0, o, ⟨out, err, e1, e2, hq⟩, _, _, e3⟩, hn⟩, hO⟩ => by
    subst e1; subst e2; subst e3
    refine ⟨⟨⟨out, err, ?_, hq⟩, hn⟩, hO⟩
    rw [fz_tu, fzs_cons, fzs_cons, fzs_nil, fz_so, iA, fz_pr]
theorem Spec1.set1 {f : Nat} {args : List AV} {Q : List It → Prop} (h : Spec1 Try.prog f args (fun r o => ∃ (out : List It), r = .rf 0 0 out.length ∧ o = so out ∧ Q out)) :
    Spec0 Try.prog f args fun r => ∃ (out : List It), r = setA out ∧ Q out :=
  (Spec1.fz h).mono fun r O' ⟨⟨⟨r0, o, ⟨out, e1, e2, hq⟩, _, _, e3⟩, hn⟩, hO⟩ => by
    subst e1; subst e2; subst e3
    exact ⟨⟨⟨out, fz_so out, hq⟩, hn⟩, hO⟩
theorem Spec1.setC {f : Nat} {args : List AV} {z : List It} (h : Spec1 Try.prog f args (fun r o => r = .rf 0 0 z.length ∧ o = so z)) : Spec0 Try.prog f args (· = setA z) :=
  (Spec1.fz h).mono fun r O' ⟨⟨⟨r0, o, ⟨e1, e2⟩, _, _, e3⟩, hn⟩, hO⟩ => by
    subst e1; subst e2; subst e3
    exact ⟨⟨fz_so z, hn⟩, hO⟩
theorem EL.mapL {α : Type} {f : α → List AV} {l : List α} {tail : List (List AV)} {i : Nat} {K : List AV → Prop} (h : i < l.length) (k : K (f l[i])) : EL (l.map f ++ tail) i K :=
  ⟨f l[i], by rw [List.getElem?_append_left (by simpa using h)]; simp [h], k⟩
theorem setL {α : Type} {f : α → List AV} {l : List α} {tail : List (List AV)} {i : Nat} {x : α} (h : i < l.length) : (l.map f ++ tail).set i (f x) = (l.set i x).map f ++ tail := by
  rw [List.set_append_left _ _ (by simpa using h), List.map_set]
theorem Spec1.row1 {f : Nat} {args : List AV} {Q : List V → Prop} (h : Spec1 Try.prog f args (fun r o => ∃ (out : List V), r = .rf 0 0 out.length ∧ o = ro3 out ∧ Q out)) :
    Spec0 Try.prog f args fun r => ∃ (out : List V), r = rowA out ∧ Q out :=
  (Spec1.fz h).mono fun r O' ⟨⟨⟨r0, o, ⟨out, e1, e2, hq⟩, _, _, e3⟩, hn⟩, hO⟩ => by
    subst e1; subst e2; subst e3
    exact ⟨⟨⟨out, fz_ro3 out, hq⟩, hn⟩, hO⟩
theorem c84 (t : It) : Spec0 Try.prog 84 [.ag t.c] (· = bA (decide (t.w < 0))) := by
  refine spec0_of_vc tabOk elems ord84 Try.func84 rfl (rl := [.tmp 2]) rfl (by kernel_rfl) rfl ?_
  (simp -implicitDefEqProofs only [go_sem, It.c, iA, rowA]; repeat (refine GO ?_; simp -implicitDefEqProofs only [go_sem, It.c, iA, rowA]))
  simp [bA]
def distL (z : List It) : List It := (z.filter fun t => !decide (t.w < 0)).map fun t => oneI t.row
/-- The first so many with weight 1. -/
def upto1 (y : List It) (i : Nat) : List It := (y.take i).map (fun t => oneI t.row) ++ y.drop i
theorem upto1_len {y : List It} {i : Nat} (h : i ≤ y.length) : (upto1 y i).length = y.length := by simp [upto1]; omega
theorem upto1_get {y : List It} {i : Nat} (h : i < y.length) (h2 : i < (upto1 y i).length) : (upto1 y i)[i] = y[i] := by
  simp only [upto1]
  rw [List.getElem_append_right (by simp; omega)]
  simp [Nat.min_eq_left (Nat.le_of_lt h)]
theorem upto1_set {y : List It} {i : Nat} (h : i < y.length) : (upto1 y i).set i (oneI y[i].row) = upto1 y (i + 1) := by
  simp only [upto1]
  rw [List.set_append_right _ _ (by simp; omega), List.take_succ_eq_append_getElem h, List.map_append, List.length_map, List.length_take, Nat.min_eq_left (Nat.le_of_lt h), Nat.sub_self, List.drop_eq_getElem_cons h, List.set_cons_zero]
  simp only [List.map_cons, List.map_nil, List.append_assoc, List.cons_append, List.nil_append]
theorem c32 (z : List It) (hl : z.length ≤ 1048576) (hr : ∀ t ∈ z, t.row.length < 1073741824) :
    Spec0 Try.prog 32 [setA z] (fun r => ∃ (out : List It) (err : Int), r = .tu [setA out, iA err] ∧ ((¬ Good z ∧ out = [] ∧ err = 1) ∨ (Good z ∧ out = distL z ∧ err = 0))) := by
  refine spec0_of_vc tabOk elems ord32 Try.func32 rfl (rl := [.tmp 2, .tmp 3]) rfl (by kernel_rfl) rfl ?_
  (simp -implicitDefEqProofs only [go_sem, setA]; repeat (refine GO ?_; simp -implicitDefEqProofs only [go_sem, setA]))
  refine .pure _ (s16 z (by omega) (fun t ht => by have := hr t ht; omega)) rfl fun q hq _ => ?_
  obtain ⟨e, rfl, he, hg⟩ := hq
  (simp -implicitDefEqProofs only [go_sem, iA]; repeat (refine GO ?_; simp -implicitDefEqProofs only [go_sem, iA]))
  refine VIF.split (fun h => ?_) (fun h => ?_)
  · have h : e ≠ 0 := by simpa using h
    have h1 : e = 1 := by omega
    subst h1
    simp -implicitDefEqProofs only [go_sem]
    refine TO [] [(2, setA []), (3, iA 1)] [] [] rfl ?_ ?_
    · (simp -implicitDefEqProofs only [go_sem, setA, iA]; repeat (refine GO ?_; simp -implicitDefEqProofs only [go_sem, setA, iA]))
      exact ⟨id, rfl⟩
    (simp -implicitDefEqProofs only [go_sem]; repeat (refine GO ?_; simp -implicitDefEqProofs only [go_sem]))
    exact ⟨rfl, [], 1, rfl, .inl ⟨fun g => h (hg.2 g), rfl, rfl⟩⟩
  · have h : e = 0 := by simpa using h
    have hg := hg.1 h
    (simp -implicitDefEqProofs only [go_sem]; repeat (refine GO ?_; simp -implicitDefEqProofs only [go_sem]))
    refine .make 13 _ (s57 z hl hr) rfl (by simp) rfl fun q o hq _ => ?_
    obtain ⟨rfl, rfl⟩ := hq
    simp -implicitDefEqProofs only [go_sem, so]
    refine GO ?_
    simp -implicitDefEqProofs only [go_sem, so]
    refine .both 13 (so z) _ [.rf 0 0 z.length, .fn 84 []] (c82 84 [] rfl (fun t => decide (t.w < 0)) (fun t => True) (fun t ht => c84 t) z (fun t ht => trivial) hl) rfl (so_leafy z) rfl rfl fun q o' hq hlf => ?_
    obtain ⟨y, hy, rfl, hsz, hes⟩ := hq
    have hyl : y.length ≤ z.length := by rw [hy]; exact List.length_filter_le _ _
    obtain ⟨tail, rfl, htl⟩ : ∃ tail, o' = ⟨2, y.map It.c ++ tail⟩ ∧ ∀ x ∈ tail, ∀ a ∈ x, a.leaf = true := by
      refine ⟨o'.es.drop y.length, ?_, fun x hx => hlf x (List.mem_of_mem_drop hx)⟩
      rw [← hes, List.take_append_drop, ← hsz]
    (simp -implicitDefEqProofs only [go_sem]; repeat (refine GO ?_; simp -implicitDefEqProofs only [go_sem]))
    have hlf2 : ∀ i, (Ob.mk 2 ((upto1 y i).map It.c ++ tail)).leafy := fun i x hx => by
      rcases List.mem_append.1 hx with hx | hx
      · exact so_leafy (upto1 y i) x hx
      · exact htl x hx
    refine LOOP.mk (ι := { i : Nat // i ≤ y.length }) (fun p => mkS [(5, .rf 1000 0 y.length), (16, iA y.length), (17, iA p.1)] [(1000, ⟨2, (upto1 y p.1).map It.c ++ tail⟩)] [1000])
      (fun p => y.length - p.1) ⟨0, Nat.zero_le _⟩ [(1000, some 13)] rfl rfl ?_ (fun p => ?_)
    · (simp -implicitDefEqProofs only [go_sem, iA]; repeat (refine GO ?_; simp -implicitDefEqProofs only [go_sem, iA]))
      exact ⟨id, rfl, .same ⟨2, y.map It.c ++ tail⟩ _ _ (hlf2 0) rfl⟩
    · obtain ⟨i, hi⟩ := p
      (simp -implicitDefEqProofs only [go_sem, iA]; repeat (refine GO ?_; simp -implicitDefEqProofs only [go_sem, iA]))
      refine VIF.split (fun h1 => ?_) (fun h1 => ?_)
      · have h1 : i < y.length := by simpa using h1
        have w1 := wrap_add1 (show i < 4611686018427387904 by omega)
        have hi2 : i < (upto1 y i).length := by rw [upto1_len hi]; exact h1
        have e1 : (List.map It.c (upto1 y i) ++ tail).set i [rowA y[i].row, iA 1] = List.map It.c (upto1 y (i + 1)) ++ tail := by
          rw [← upto1_set h1]; exact setL (f := It.c) (x := oneI y[i].row) hi2
        (simp -implicitDefEqProofs only [go_sem]; repeat (refine GO ?_; simp -implicitDefEqProofs only [go_sem]))
        refine ⟨by omega, EL.mapL hi2 ?_⟩
        rw [upto1_get h1]
        (simp -implicitDefEqProofs only [go_sem, It.c, w1]; repeat (refine GO ?_; simp -implicitDefEqProofs only [go_sem, It.c, w1]))
        refine BACK.mk ⟨i + 1, by omega⟩ [(1000, some 1000)] rfl rfl (by show y.length - (i + 1) < y.length - i; omega) ?_
        (simp -implicitDefEqProofs only [go_sem, iA, w1]; repeat (refine GO ?_; simp -implicitDefEqProofs only [go_sem, iA, w1]))
        exact ⟨id, .same (so []) _ _ (fun x hx => hlf2 (i + 1) x (e1 ▸ hx)) e1⟩
      · have h1 : i = y.length := by simp at h1; omega
        subst h1
        have hd : upto1 y y.length = distL z := by
          simp only [upto1, List.take_length, List.drop_length, List.append_nil, distL, hy]
        rw [hd]
        have hdl : (distL z).length = y.length := by rw [← hd, upto1_len (Nat.le_refl _)]
        simp -implicitDefEqProofs only [go_sem]
        refine GO ?_
        simp -implicitDefEqProofs only [go_sem]
        refine TO [] [(25, setA (distL z))] [] [] rfl ?_ ?_
        · (simp -implicitDefEqProofs only [go_sem, setA]; repeat (refine GO ?_; simp -implicitDefEqProofs only [go_sem, setA]))
          refine ⟨id, by decide, _, rfl, ?_, rfl, ?_⟩
          · rw [← hd]; exact hlf2 _
          · rw [← hdl]; show List.take _ (List.map It.c (distL z) ++ tail) = _
            rw [List.take_append_of_le_length (by simp), take_so]
        (simp -implicitDefEqProofs only [go_sem, setA]; repeat (refine GO ?_; simp -implicitDefEqProofs only [go_sem, setA]))
        refine .pure _ (Spec1.setC (s38 (distL z) (by omega))) rfl fun q hq _ => ?_
        subst hq
        (simp -implicitDefEqProofs only [go_sem, setA]; repeat (refine GO ?_; simp -implicitDefEqProofs only [go_sem, setA]))
        exact ⟨rfl, distL z, 0, rfl, .inr ⟨hg, rfl, rfl⟩⟩
/-- What of the distinct rows is more. -/
def DDel (z dz out : List It) (err : Int) : Prop := ∃ now e, AddR z dz now e ∧ ((e ≠ 0 ∧ out = [] ∧ err = e) ∨ (e = 0 ∧ MinR (distL now) (distL z) out err))
theorem makeR_rows {z out : List It} {err : Int} (h : MakeR z out err) : out.length ≤ z.length ∧ ∀ t ∈ out, ∃ u ∈ z, u.row = t.row := by
  rcases h with ⟨_, rfl, _⟩ | ⟨_, rfl, _⟩ | ⟨_, _, _, _, h, hl⟩
  · simp
  · simp
  · exact ⟨hl, fun t ht => (h t ht).2⟩
theorem addR_rows {a b out : List It} {err : Int} (h : AddR a b out err) : out.length ≤ a.length + b.length ∧ ∀ t ∈ out, ∃ u ∈ a ++ b, u.row = t.row := by
  rcases h with ⟨_, rfl, _⟩ | ⟨_, _, h⟩
  · simp
  · have := makeR_rows h
    rw [List.length_append] at this; exact this
theorem distL_len (z : List It) : (distL z).length ≤ z.length := by
  rw [distL, List.length_map]; exact List.length_filter_le _ _
theorem distL_rows {z : List It} {P : List V → Prop} (h : ∀ t ∈ z, P t.row) : ∀ t ∈ distL z, P t.row := fun t ht => by
  obtain ⟨u, hu, rfl⟩ := List.mem_map.1 ht
  exact h u (List.mem_filter.1 hu).1
theorem addR_good {a b out : List It} {err : Int} (h : AddR a b out err) (he : err = 0) : Good a ∧ Good b ∧ Made out ∧ Good out ∧ ∀ r, tot r out = tot r a + tot r b := by
  rcases h with ⟨_, _, h⟩ | ⟨ha, hb, h⟩
  · omega
  · rcases h with ⟨_, _, h⟩ | ⟨_, _, h, _⟩ | ⟨_, _, hm, ht, hr, _⟩
    · omega
    · omega
    · exact ⟨ha, hb, hm, good_made.2 ⟨hm, fun t h => (hr t h).1⟩, fun r => by rw [ht, tot_append]⟩
theorem dist_ok {z out : List It} {err : Int} (hg : Good z) (h : (¬ Good z ∧ out = [] ∧ err = 1) ∨ (Good z ∧ out = distL z ∧ err = 0)) : err = 0 ∧ out = distL z := by
  rcases h with ⟨h, _⟩ | ⟨_, h1, h2⟩
  · exact absurd hg h
  · exact ⟨h2, h1⟩
theorem c33 (z dz : List It) (hl : z.length + dz.length ≤ 300000) (hz : ∀ t ∈ z, t.row.length < 1073741824) (hd : ∀ t ∈ dz, t.row.length < 1073741824) :
    Spec0 Try.prog 33 [setA z, setA dz] (fun r => ∃ (out : List It) (err : Int), r = .tu [setA out, iA err] ∧ DDel z dz out err) := by
  refine spec0_of_vc tabOk elems ord33 Try.func33 rfl (rl := [.tmp 4, .tmp 5]) rfl (by kernel_rfl) rfl ?_
  (simp -implicitDefEqProofs only [go_sem, setA]; repeat (refine GO ?_; simp -implicitDefEqProofs only [go_sem, setA]))
  refine .pure _ (Spec1.setE (s23 z dz (by omega) hz hd)) rfl fun q hq _ => ?_
  obtain ⟨now, e, rfl, hm⟩ := hq
  obtain ⟨nl, nr⟩ := addR_rows hm
  have nr : ∀ t ∈ now, t.row.length < 1073741824 := fun t ht => by
    obtain ⟨u, hu, e⟩ := nr t ht
    rw [← e]
    rcases List.mem_append.1 hu with hu | hu
    · exact hz u hu
    · exact hd u hu
  (simp -implicitDefEqProofs only [go_sem, iA, setA]; repeat (refine GO ?_; simp -implicitDefEqProofs only [go_sem, iA, setA]))
  refine VIF.split (fun h => ?_) (fun h => ?_)
  · have h : e ≠ 0 := by simpa using h
    simp -implicitDefEqProofs only [go_sem]
    refine TO [] [(4, setA []), (5, iA e)] [] [] rfl ?_ ?_
    · (simp -implicitDefEqProofs only [go_sem, setA, iA]; repeat (refine GO ?_; simp -implicitDefEqProofs only [go_sem, setA, iA]))
      exact ⟨id, rfl⟩
    (simp -implicitDefEqProofs only [go_sem]; repeat (refine GO ?_; simp -implicitDefEqProofs only [go_sem]))
    exact ⟨rfl, [], e, rfl, now, e, hm, .inl ⟨h, rfl, rfl⟩⟩
  · have h : e = 0 := by simpa using h
    subst h
    obtain ⟨gz, gd, mn, gn, tn⟩ := addR_good hm rfl
    (simp -implicitDefEqProofs only [go_sem]; repeat (refine GO ?_; simp -implicitDefEqProofs only [go_sem]))
    refine .pure _ (c32 now (by omega) nr) rfl fun q hq _ => ?_
    obtain ⟨a, e1, rfl, ha⟩ := hq
    obtain ⟨rfl, rfl⟩ := dist_ok gn ha
    have la := distL_len now
    (simp -implicitDefEqProofs only [go_sem, iA, setA]; repeat (refine GO ?_; simp -implicitDefEqProofs only [go_sem, iA, setA]))
    refine .pure _ (c32 z (by omega) hz) rfl fun q hq _ => ?_
    obtain ⟨b, e2, rfl, hb⟩ := hq
    obtain ⟨rfl, rfl⟩ := dist_ok gz hb
    have lb := distL_len z
    (simp -implicitDefEqProofs only [go_sem, iA, setA]; repeat (refine GO ?_; simp -implicitDefEqProofs only [go_sem, iA, setA]))
    refine .pure _ (Spec1.setE (c55 (distL now) (distL z) (by omega) (distL_rows (P := fun r => r.length < 1073741824) nr) (distL_rows (P := fun r => r.length < 1073741824) hz))) rfl fun q hq _ => ?_
    obtain ⟨out, err, rfl, ho⟩ := hq
    (simp -implicitDefEqProofs only [go_sem, iA, setA]; repeat (refine GO ?_; simp -implicitDefEqProofs only [go_sem, iA, setA]))
    exact ⟨rfl, out, err, rfl, now, 0, hm, .inr ⟨rfl, ho⟩⟩
end Yt
namespace Yt
open Go Go.Vc Go.Proofs
set_option maxRecDepth 10000
set_option maxHeartbeats 8000000
set_option linter.unusedSimpArgs false
set_option linter.unusedVariables false
theorem made_dist {z : List It} (h : Made z) : Made (distL z) := by
  refine ⟨?_, fun t ht => ?_⟩
  · rw [distL, List.pairwise_map]
    exact h.pw.filter _
  · obtain ⟨u, hu, rfl⟩ := List.mem_map.1 ht
    exact ⟨by simp [oneI], by simp [oneI, okW, inB]⟩
def sg (n : Int) : Int := if 0 < n then 1 else 0
theorem sg_cases (n : Int) : (0 < n ∧ sg n = 1) ∨ (n ≤ 0 ∧ sg n = 0) := by
  by_cases h : 0 < n
  · exact .inl ⟨h, if_pos h⟩
  · exact .inr ⟨by omega, if_neg h⟩
theorem tot_dist {z : List It} (h : Made z) (r : List V) : tot r (distL z) = sg (tot r z) := by
  by_cases hr : ∃ t ∈ z, t.row = r
  · obtain ⟨t, ht, rfl⟩ := hr
    rw [tot_made h ht]
    have h0 := (h.nz t ht).1
    by_cases hw : t.w < 0
    · have : sg t.w = 0 := if_neg (by omega)
      rw [this]
      refine tot_none fun u hu e => ?_
      obtain ⟨v, hv, rfl⟩ := List.mem_map.1 hu
      obtain ⟨hv1, hv2⟩ := List.mem_filter.1 hv
      have e : v.row = t.row := lin_cmpR.eq _ _ e
      have h1 := tot_made h hv1
      rw [e, tot_made h ht] at h1
      simp at hv2
      omega
    · have : sg t.w = 1 := if_pos (by omega)
      rw [this]
      exact tot_made (made_dist h) (t := oneI t.row) (List.mem_map.2 ⟨t, List.mem_filter.2 ⟨ht, by simpa using hw⟩, rfl⟩)
  · have hz : tot r z = 0 := tot_none fun u hu e => hr ⟨u, hu, lin_cmpR.eq _ _ e⟩
    rw [hz, tot_none fun u hu e => ?_]
    · rfl
    · obtain ⟨v, hv, rfl⟩ := List.mem_map.1 hu
      exact hr ⟨v, (List.mem_filter.1 hv).1, lin_cmpR.eq _ _ e⟩
theorem Sm.dist {z : List It} {k : Nat} (h : Sm z k) : Sm (distL z) (k + 1) :=
  ⟨made_dist h.made, fun t ht => distL_rows (P := fun r => okR r = 0 ∧ r.length ≤ 40) h.rows t ht, by have := distL_len z; have := h.len; omega, fun r => by
    rw [tot_dist h.made]
    have := sg_cases (Yt.tot r z)
    omega⟩
theorem Sm.ddel {z dz out : List It} {i j : Nat} {err : Int} (hz : Sm z i) (hd : Sm dz j) (hij : i + j + 1 + (i + 1) ≤ 100) (h : DDel z dz out err) :
    err = 0 ∧ Sm out (i + j + 1 + (i + 1)) ∧ ∀ r, Yt.tot r out = sg (Yt.tot r z + Yt.tot r dz) - sg (Yt.tot r z) := by
  obtain ⟨now, e, ha, h⟩ := h
  obtain ⟨rfl, sn, tn⟩ := hz.add hd (by omega) ha
  rcases h with ⟨h, _⟩ | ⟨_, h⟩
  · exact absurd rfl h
  · obtain ⟨a, b, c⟩ := sn.dist.min hz.dist hij h
    exact ⟨a, b, fun r => by rw [c, tot_dist sn.made, tot_dist hz.made, tn]⟩
theorem c40 (n : Int) : Spec0 Try.prog 40 [iA n] (· = rowA (wl n)) := by
  have h : Spec1 Try.prog 40 [iA n] (fun r o => ∃ (out : List V), r = .rf 0 0 out.length ∧ o = ro3 out ∧ out = wl n) := by
    refine spec1_of_vc tabOk elems ord40 Try.func40 rfl (rl := [.tmp 2]) rfl (by kernel_rfl) rfl ?_
    (simp -implicitDefEqProofs only [go_sem, iA]; repeat (refine GO ?_; simp -implicitDefEqProofs only [go_sem, iA]))
    refine FINmk [(0, some 5)] [(2, .rf 0 0 1)] [(0, ro3 (wl n))] [0] rfl ?_ ?_
    · (simp -implicitDefEqProofs only [go_sem, ro3, wl]; repeat (refine GO ?_; simp -implicitDefEqProofs only [go_sem, ro3, wl]))
      exact .same (ro3 (wl n)) _ _ (ro3_leafy (wl n)) rfl
    · exact ⟨ro3 _, ⟨⟨wl n, rfl, rfl, rfl⟩, rfl⟩, ro3_leafy _, rfl⟩
  refine (Spec1.row1 h).mono ?_
  rintro r O' ⟨⟨⟨out, rfl, rfl⟩, hn⟩, hO⟩
  exact ⟨⟨rfl, hn⟩, hO⟩
def wd : List It := [⟨wl 1, -2⟩, ⟨wl 3, 4⟩]
theorem wl_cmp (a b : Int) : cmpR (wl a) (wl b) = cmpI a b := by
  have : cmpS ByteArray.empty ByteArray.empty = 0 := by
    have := lin_cmpV.self ⟨0, 0, ByteArray.empty⟩
    simp [cmpV, nz, cmpI] at this
    exact Classical.byContradiction fun h => h (this h)
  simp only [wl, cmpR, cmpV, nz, cmpI, this]
  split <;> simp_all
theorem wl_sm {n w : Int} (hn : -1152921504606846976 ≤ n ∧ n ≤ 1152921504606846976) (h0 : w ≠ 0) (hw : -356400 ≤ w ∧ w ≤ 356400) : Sm [⟨wl n, w⟩] 1 :=
  ⟨⟨List.pairwise_singleton _ _, by simpa [okW, inB, h0] using by omega⟩, by simpa using ⟨wl_ok n hn, by simp [wl]⟩, by simp, fun r => by
    simp only [Yt.tot]; split <;> omega⟩
theorem wd_good : Good wd := good_made.2 ⟨⟨by simp [wd, cI, wl_cmp, cmpI], by simp [wd, okW, inB]⟩, fun t ht => by
  simp only [wd, List.mem_cons, List.not_mem_nil, or_false] at ht
  rcases ht with rfl | rfl <;> exact wl_ok _ (by decide)⟩
theorem wd_dist : distL wd = [⟨wl 3, 1⟩] := by simp [distL, wd, oneI]
theorem c35 : Spec0 Try.prog 35 [] (· = bA true) := by
  refine spec0_of_vc tabOk elems ord35 Try.func35 rfl (rl := [.tmp 0]) rfl (by kernel_rfl) rfl ?_
  (simp -implicitDefEqProofs only [go_sem]; repeat (refine GO ?_; simp -implicitDefEqProofs only [go_sem]))
  refine .pure _ (c40 1) rfl fun r hq _ => ?_
  subst hq
  (simp -implicitDefEqProofs only [go_sem]; repeat (refine GO ?_; simp -implicitDefEqProofs only [go_sem]))
  refine .pure _ (c40 3) rfl fun r hq _ => ?_
  subst hq
  simp -implicitDefEqProofs only [go_sem]
  refine FRZ 10 (so wd) rfl (so_leafy wd) ?_
  simp -implicitDefEqProofs only [go_sem, so]
  refine .pure _ (show Spec0 Try.prog 32 [setA wd] _ from c32 wd (by decide) (by simp [wd, wl])) rfl fun r hq _ => ?_
  obtain ⟨a, e, rfl, ha⟩ := hq
  obtain ⟨rfl, rfl⟩ := dist_ok wd_good ha
  rw [wd_dist]
  (simp -implicitDefEqProofs only [go_sem, iA]; repeat (refine GO ?_; simp -implicitDefEqProofs only [go_sem, iA]))
  refine .pure _ (c40 3) rfl fun r hq _ => ?_
  subst hq
  simp -implicitDefEqProofs only [go_sem]
  refine FRZ 18 (so [⟨wl 3, -1⟩]) rfl (so_leafy [⟨wl 3, -1⟩]) ?_
  simp -implicitDefEqProofs only [go_sem, so]
  refine .pure _ (show Spec0 Try.prog 33 [setA [⟨wl 3, 1⟩], setA [⟨wl 3, -1⟩]] _ from c33 _ _ (by decide) (by simp [wl]) (by simp [wl])) rfl fun r hq _ => ?_
  obtain ⟨b, e, rfl, hb⟩ := hq
  obtain ⟨rfl, sb, tb⟩ := (wl_sm (n := 3) (w := 1) (by decide) (by decide) (by decide)).ddel (wl_sm (n := 3) (w := -1) (by decide) (by decide) (by decide)) (by decide) hb
  obtain rfl : b = [⟨wl 3, -1⟩] := made_eq sb.made (wl_sm (n := 3) (w := -1) (by decide) (by decide) (by decide)).made fun r => by
    rw [tb]
    simp only [tot]
    split <;> simp [sg]
  (simp -implicitDefEqProofs only [go_sem, setA, iA]; repeat (refine GO ?_; simp -implicitDefEqProofs only [go_sem, setA, iA]))
  repeat (refine VIF.split (fun _ => ?_) (fun h => absurd h (by decide)); (simp -implicitDefEqProofs only [go_sem]; repeat (refine GO ?_; simp -implicitDefEqProofs only [go_sem])))
  refine ⟨by decide, EL.map (l := [(⟨wl 3, 1⟩ : It)]) (i := 0) (by decide) ?_⟩
  (simp -implicitDefEqProofs only [go_sem, It.c, iA, rowA]; repeat (refine GO ?_; simp -implicitDefEqProofs only [go_sem, It.c, iA, rowA]))
  repeat (refine VIF.split (fun _ => ?_) (fun h => absurd h (by decide)); (simp -implicitDefEqProofs only [go_sem]; repeat (refine GO ?_; simp -implicitDefEqProofs only [go_sem])))
  refine ⟨by decide, EL.map (l := [(⟨wl 3, 1⟩ : It)]) (i := 0) (by decide) ?_⟩
  (simp -implicitDefEqProofs only [go_sem, It.c, iA, rowA]; repeat (refine GO ?_; simp -implicitDefEqProofs only [go_sem, It.c, iA, rowA]))
  repeat (refine VIF.split (fun _ => ?_) (fun h => absurd h (by decide)); (simp -implicitDefEqProofs only [go_sem]; repeat (refine GO ?_; simp -implicitDefEqProofs only [go_sem])))
  refine ⟨by decide, EL.map (l := [(⟨wl 3, 1⟩ : It)]) (i := 0) (by decide) ?_⟩
  (simp -implicitDefEqProofs only [go_sem, It.c, iA, rowA]; repeat (refine GO ?_; simp -implicitDefEqProofs only [go_sem, It.c, iA, rowA]))
  refine ⟨by decide, EL.map (l := wl 3) (i := 0) (by decide) ?_⟩
  (simp -implicitDefEqProofs only [go_sem, V.c]; repeat (refine GO ?_; simp -implicitDefEqProofs only [go_sem, V.c]))
  repeat (refine VIF.split (fun _ => ?_) (fun h => absurd h (by decide)); (simp -implicitDefEqProofs only [go_sem]; repeat (refine GO ?_; simp -implicitDefEqProofs only [go_sem])))
  refine ⟨by decide, EL.map (l := [(⟨wl 3, -1⟩ : It)]) (i := 0) (by decide) ?_⟩
  (simp -implicitDefEqProofs only [go_sem, It.c, iA]; repeat (refine GO ?_; simp -implicitDefEqProofs only [go_sem, It.c, iA]))
  simp [bA]
end Yt
namespace Yt
open Go Go.Vc Go.Proofs
set_option maxRecDepth 10000
set_option maxHeartbeats 8000000
set_option linter.unusedSimpArgs false
set_option linter.unusedVariables false
def uA (n : Int) : AV := .pr (.int .u64 n)
theorem and_32 {x : Int} (h0 : 0 ≤ x) (h1 : x < 18446744073709551616) : bitsOp .and .u64 x 4294967295 = x % 4294967296 := by
  simp only [bitsOp]
  have h1 : (BitVec.ofInt IntKind.u64.bits x &&& BitVec.ofInt IntKind.u64.bits 4294967295).toNat = (x % 4294967296).toNat := by
    rw [BitVec.toNat_and]
    have e1 : (BitVec.ofInt IntKind.u64.bits 4294967295).toNat = 2 ^ 32 - 1 := by decide
    rw [e1, Nat.and_two_pow_sub_one_eq_mod]
    simp only [BitVec.toNat_ofInt, IntKind.bits]
    omega
  rw [h1]
  simp [IntKind.wrap, IntKind.signed, IntKind.bits]; omega
theorem wrap_u64 {x : Int} (h0 : 0 ≤ x) (h1 : x < 18446744073709551616) : IntKind.u64.wrap x = x := by
  simp [IntKind.wrap, IntKind.signed, IntKind.bits]; omega
theorem mul_bd {a b : Int} (ha : 0 ≤ a ∧ a ≤ 4294967295) (hb : 0 ≤ b ∧ b ≤ 4294967295) : 0 ≤ a * b ∧ a * b ≤ 18446744065119617025 :=
  ⟨Int.mul_nonneg ha.1 hb.1, Int.le_trans (Int.mul_le_mul ha.2 hb.2 hb.1 (by decide)) (by decide)⟩
/-- The upper half of a product of 64 bits, as it is worked out. -/
theorem mul64 {x y : Int} (hx : 0 ≤ x ∧ x < 18446744073709551616) (hy : 0 ≤ y ∧ y < 18446744073709551616) :
    IntKind.u64.wrap (IntKind.u64.wrap (IntKind.u64.wrap (x / 4294967296 * (y / 4294967296)) +
      IntKind.u64.wrap (IntKind.u64.wrap (x / 4294967296 * bitsOp .and .u64 y 4294967295) + IntKind.u64.wrap (bitsOp .and .u64 x 4294967295 * bitsOp .and .u64 y 4294967295) / 4294967296) / 4294967296) +
      IntKind.u64.wrap (bitsOp .and .u64 (IntKind.u64.wrap (IntKind.u64.wrap (x / 4294967296 * bitsOp .and .u64 y 4294967295) + IntKind.u64.wrap (bitsOp .and .u64 x 4294967295 * bitsOp .and .u64 y 4294967295) / 4294967296)) 4294967295 +
        IntKind.u64.wrap (bitsOp .and .u64 x 4294967295 * (y / 4294967296))) / 4294967296) = x * y / 18446744073709551616 := by
  rw [and_32 hx.1 hx.2, and_32 hy.1 hy.2]
  have ex : x = x / 4294967296 * 4294967296 + x % 4294967296 := by omega
  have ey : y = y / 4294967296 * 4294967296 + y % 4294967296 := by omega
  generalize hx1 : x / 4294967296 = x1 at *
  generalize hx0 : x % 4294967296 = x0 at *
  generalize hy1 : y / 4294967296 = y1 at *
  generalize hy0 : y % 4294967296 = y0 at *
  have e : x * y = x1 * y1 * 18446744073709551616 + (x1 * y0 + x0 * y1) * 4294967296 + x0 * y0 := by
    rw [ex, ey]
    simp only [Int.add_mul, Int.mul_add]
    have e1 : x1 * 4294967296 * (y1 * 4294967296) = x1 * y1 * 18446744073709551616 := by rw [Int.mul_assoc, Int.mul_left_comm 4294967296, ← Int.mul_assoc]; rfl
    have e2 : x1 * 4294967296 * y0 = x1 * y0 * 4294967296 := Int.mul_right_comm _ _ _
    have e3 : x0 * (y1 * 4294967296) = x0 * y1 * 4294967296 := (Int.mul_assoc _ _ _).symm
    rw [e1, e2, e3]
    omega
  have b1 := mul_bd (a := x1) (b := y1) (by omega) (by omega)
  have b2 := mul_bd (a := x1) (b := y0) (by omega) (by omega)
  have b3 := mul_bd (a := x0) (b := y1) (by omega) (by omega)
  have b4 := mul_bd (a := x0) (b := y0) (by omega) (by omega)
  rw [e]
  generalize x1 * y1 = d at *
  generalize x1 * y0 = a at *
  generalize x0 * y1 = c at *
  generalize x0 * y0 = b at *
  rw [wrap_u64 (x := d) (by omega) (by omega), wrap_u64 (x := a) (by omega) (by omega), wrap_u64 (x := b) (by omega) (by omega), wrap_u64 (x := c) (by omega) (by omega)]
  rw [wrap_u64 (x := a + b / 4294967296) (by omega) (by omega), and_32 (by omega) (by omega), wrap_u64 (x := (a + b / 4294967296) % 4294967296 + c) (by omega) (by omega)]
  rw [wrap_u64 (x := d + (a + b / 4294967296) / 4294967296) (by omega) (by omega), wrap_u64 (by omega) (by omega)]
  omega
theorem c115 (x y : Int) (hx : 0 ≤ x ∧ x < 18446744073709551616) (hy : 0 ≤ y ∧ y < 18446744073709551616) :
    Spec0 Try.prog 115 [uA x, uA y] (· = .tu [uA (x * y / 18446744073709551616), uA (x * y % 18446744073709551616)]) := by
  refine spec0_of_vc tabOk elems ord115 Try.func115 rfl (rl := [.tmp 4, .tmp 5]) rfl (by kernel_rfl) rfl ?_
  (simp -implicitDefEqProofs only [go_sem, uA]; repeat (refine GO ?_; simp -implicitDefEqProofs only [go_sem, uA]))
  refine ⟨by decide, by decide, by decide, by decide, by decide, ?_⟩
  (simp -implicitDefEqProofs only [go_sem, uA]; repeat (refine GO ?_; simp -implicitDefEqProofs only [go_sem, uA]))
  refine ⟨rfl, ?_⟩
  simp only [shr32]
  rw [mul64 hx hy]
  have e : IntKind.u64.wrap (x * y) = x * y % 18446744073709551616 := by simp [IntKind.wrap, IntKind.signed, IntKind.bits]
  rw [e]
theorem c116 (n : Int) (h : -9223372036854775807 ≤ n ∧ n ≤ 9223372036854775807) : Spec0 Try.prog 116 [iA n] (· = uA (n.natAbs : Int)) := by
  refine spec0_of_vc tabOk elems ord116 Try.func116 rfl (rl := [.tmp 2]) rfl (by kernel_rfl) rfl ?_
  have w1 : IntKind.i64.wrap (0 - n) = -n := by rw [wrap_i64] <;> omega
  (simp -implicitDefEqProofs only [go_sem, iA, uA, w1]; repeat (refine GO ?_; simp -implicitDefEqProofs only [go_sem, iA, uA, w1]))
  have e : IntKind.u64.wrap (max n (-n)) = n.natAbs := by rw [wrap_u64] <;> omega
  rw [e]
theorem natAbs_mul_le (a b : Int) (k : Nat) : (a.natAbs : Int) * b.natAbs ≤ k ↔ -(k : Int) ≤ a * b ∧ a * b ≤ k := by
  have h := Int.natAbs_mul a b
  rw [← Int.natCast_mul, ← h]
  omega
theorem c74 (a b : Int) (ha : -4611686018427387904 ≤ a ∧ a ≤ 4611686018427387904) (hb : -4611686018427387904 ≤ b ∧ b ≤ 4611686018427387904) :
    Spec0 Try.prog 74 [iA a, iA b] (· = .tu [iA (IntKind.i64.wrap (a * b)), bA (okW (a * b))]) := by
  refine spec0_of_vc tabOk elems ord74 Try.func74 rfl (rl := [.tmp 4, .tmp 5]) rfl (by kernel_rfl) rfl ?_
  (simp -implicitDefEqProofs only [go_sem, iA]; repeat (refine GO ?_; simp -implicitDefEqProofs only [go_sem, iA]))
  refine .pure _ (c116 a (by omega)) rfl fun r hq _ => ?_
  subst hq
  (simp -implicitDefEqProofs only [go_sem, iA]; repeat (refine GO ?_; simp -implicitDefEqProofs only [go_sem, iA]))
  refine .pure _ (c116 b (by omega)) rfl fun r hq _ => ?_
  subst hq
  (simp -implicitDefEqProofs only [go_sem, iA, uA]; repeat (refine GO ?_; simp -implicitDefEqProofs only [go_sem, iA, uA]))
  refine .pure _ (c115 (a.natAbs : Int) (b.natAbs : Int) (by omega) (by omega)) rfl fun r hq _ => ?_
  subst hq
  have hk := natAbs_mul_le a b 72057594037927936
  have h0 : 0 ≤ (a.natAbs : Int) * b.natAbs := Int.mul_nonneg (by omega) (by omega)
  (simp -implicitDefEqProofs only [go_sem, iA, uA]; repeat (refine GO ?_; simp -implicitDefEqProofs only [go_sem, iA, uA]))
  refine VIF.split (fun h => ?_) (fun h => ?_)
  · have h : (a.natAbs : Int) * b.natAbs / 18446744073709551616 = 0 := by simpa using h
    (simp -implicitDefEqProofs only [go_sem]; repeat (refine GO ?_; simp -implicitDefEqProofs only [go_sem]))
    have e : (a.natAbs : Int) * b.natAbs % 18446744073709551616 = (a.natAbs : Int) * b.natAbs := by omega
    rw [e]
    simp only [okW, inB, bA, h, decide_true]
    refine ⟨rfl, ?_⟩
    congr 5
    rw [← Bool.decide_and, decide_eq_decide]
    exact hk
  · have h : (a.natAbs : Int) * b.natAbs / 18446744073709551616 ≠ 0 := by simpa using h
    (simp -implicitDefEqProofs only [go_sem]; repeat (refine GO ?_; simp -implicitDefEqProofs only [go_sem]))
    have hn : ¬ (-72057594037927936 ≤ a * b ∧ a * b ≤ 72057594037927936) := fun h' => by have := hk.2 h'; omega
    have e : okW (a * b) = false := by
      simp only [okW, inB, ← Bool.decide_and]; exact decide_eq_false hn
    simp [h, e, bA, iA]
/-- Do two rows meet? -/
def meetP (a b : List V) (cols others : List Int) : Bool := (cols.zip others).all fun p =>
  inC p.1 a.length && inC p.2 b.length && !decide ((getV a p.1).k = 1) && !decide ((getV b p.2).k = 1) && decide (cmpV (getV a p.1) (getV b p.2) = 0)
theorem c114 (a b : List V) (cols others : List Int) (hl : cols.length = others.length) (ha : a.length < 4611686018427387904) (hb : b.length < 4611686018427387904) (hc : cols.length < 4611686018427387904) :
    Spec0 Try.prog 114 [rowA a, rowA b, intsL cols, intsL others] (· = bA (meetP a b cols others)) := by
  refine spec0_of_vc tabOk elems ord114 Try.func114 rfl (rl := [.tmp 8]) rfl (by kernel_rfl) rfl ?_
  (simp -implicitDefEqProofs only [go_sem, rowA, intsL]; repeat (refine GO ?_; simp -implicitDefEqProofs only [go_sem, rowA, intsL]))
  have fin : ∀ (i : Nat) (h : i < cols.length) (h2 : i < others.length), (inC cols[i] a.length && inC others[i] b.length && !decide ((getV a cols[i]).k = 1) && !decide ((getV b others[i]).k = 1) && decide (cmpV (getV a cols[i]) (getV b others[i]) = 0)) = false →
      meetP a b cols others = false := fun i h h2 e => by
    simp only [meetP]
    rw [List.all_eq_false]
    exact ⟨(cols[i], others[i]), List.mem_iff_getElem.2 ⟨i, by simp; omega, by simp⟩, by rw [e]; simp⟩
  refine LOOP.mk (ι := { i : Nat // i ≤ cols.length ∧ ∀ j (h : j < cols.length) (h2 : j < others.length), j < i → (inC cols[j] a.length && inC others[j] b.length && !decide ((getV a cols[j]).k = 1) && !decide ((getV b others[j]).k = 1) && decide (cmpV (getV a cols[j]) (getV b others[j]) = 0)) = true })
    (fun q => mkS [(0, rowA a), (1, rowA b), (3, intsL others), (12, intsL cols), (13, iA cols.length), (14, iA q.1)] [] []) (fun q => cols.length - q.1) ⟨0, Nat.zero_le _, fun j _ _ h => absurd h (Nat.not_lt_zero _)⟩ [] rfl rfl ?_ (fun q => ?_)
  · (simp -implicitDefEqProofs only [go_sem, rowA, intsL, iA]; repeat (refine GO ?_; simp -implicitDefEqProofs only [go_sem, rowA, intsL, iA]))
    exact ⟨id, rfl⟩
  · obtain ⟨i, hi, hz⟩ := q
    (simp -implicitDefEqProofs only [go_sem, rowA, intsL, iA]; repeat (refine GO ?_; simp -implicitDefEqProofs only [go_sem, rowA, intsL, iA]))
    refine VIF.split (fun h => ?_) (fun h => ?_)
    · have h : i < cols.length := by simpa using h
      have h2 : i < others.length := by omega
      have w1 := wrap_add1 (show i < 4611686018427387904 by omega)
      (simp -implicitDefEqProofs only [go_sem]; repeat (refine GO ?_; simp -implicitDefEqProofs only [go_sem]))
      refine EL.map h ?_
      (simp -implicitDefEqProofs only [go_sem, iA]; repeat (refine GO ?_; simp -implicitDefEqProofs only [go_sem, iA]))
      refine EL.map h2 ?_
      (simp -implicitDefEqProofs only [go_sem, iA]; repeat (refine GO ?_; simp -implicitDefEqProofs only [go_sem, iA]))
      have bad : (inC cols[i] a.length && inC others[i] b.length && !decide ((getV a cols[i]).k = 1) && !decide ((getV b others[i]).k = 1) && decide (cmpV (getV a cols[i]) (getV b others[i]) = 0)) = false →
          AV.pr (Value.bool false) = bA (meetP a b cols others) := fun e => by rw [fin i h h2 e]; rfl
      refine VIF.split (fun g1 => ?_) (fun g1 => ?_)
      · have g1 : cols[i] < 0 := by simpa using g1
        (simp -implicitDefEqProofs only [go_sem]; repeat (refine GO ?_; simp -implicitDefEqProofs only [go_sem]))
        exact bad (by simp [inC]; intros; omega)
      have g1 : ¬ cols[i] < 0 := by simpa using g1
      (simp -implicitDefEqProofs only [go_sem]; repeat (refine GO ?_; simp -implicitDefEqProofs only [go_sem]))
      refine VIF.split (fun g2 => ?_) (fun g2 => ?_)
      · have g2 : (a.length : Int) ≤ cols[i] := by simpa using g2
        (simp -implicitDefEqProofs only [go_sem]; repeat (refine GO ?_; simp -implicitDefEqProofs only [go_sem]))
        exact bad (by simp [inC]; intros; omega)
      have g2 : ¬ (a.length : Int) ≤ cols[i] := by simpa using g2
      (simp -implicitDefEqProofs only [go_sem]; repeat (refine GO ?_; simp -implicitDefEqProofs only [go_sem]))
      refine VIF.split (fun g3 => ?_) (fun g3 => ?_)
      · have g3 : others[i] < 0 := by simpa using g3
        (simp -implicitDefEqProofs only [go_sem]; repeat (refine GO ?_; simp -implicitDefEqProofs only [go_sem]))
        exact bad (by simp [inC]; intros; omega)
      have g3 : ¬ others[i] < 0 := by simpa using g3
      (simp -implicitDefEqProofs only [go_sem]; repeat (refine GO ?_; simp -implicitDefEqProofs only [go_sem]))
      refine VIF.split (fun g4 => ?_) (fun g4 => ?_)
      · have g4 : (b.length : Int) ≤ others[i] := by simpa using g4
        (simp -implicitDefEqProofs only [go_sem]; repeat (refine GO ?_; simp -implicitDefEqProofs only [go_sem]))
        exact bad (by simp [inC]; intros; omega)
      have g4 : ¬ (b.length : Int) ≤ others[i] := by simpa using g4
      have k1 : cols[i].toNat < a.length := by omega
      have k2 : others[i].toNat < b.length := by omega
      have hg1 : getV a cols[i] = a[cols[i].toNat] := by simp [getV, k1]
      have hg2 : getV b others[i] = b[others[i].toNat] := by simp [getV, k2]
      rw [hg1, hg2] at bad
      have i1 : inC cols[i] a.length = true := by simp [inC]; omega
      have i2 : inC others[i] b.length = true := by simp [inC]; omega
      (simp -implicitDefEqProofs only [go_sem]; repeat (refine GO ?_; simp -implicitDefEqProofs only [go_sem]))
      refine ⟨by omega, EL.map k1 ?_⟩
      (simp -implicitDefEqProofs only [go_sem, V.c]; repeat (refine GO ?_; simp -implicitDefEqProofs only [go_sem, V.c]))
      refine VIF.split (fun g5 => ?_) (fun g5 => ?_)
      · (simp -implicitDefEqProofs only [go_sem]; repeat (refine GO ?_; simp -implicitDefEqProofs only [go_sem]))
        exact bad (by simp [g5])
      have g5 : decide (a[cols[i].toNat].k = 1) = false := by simpa using g5
      (simp -implicitDefEqProofs only [go_sem]; repeat (refine GO ?_; simp -implicitDefEqProofs only [go_sem]))
      refine ⟨by omega, EL.map k2 ?_⟩
      (simp -implicitDefEqProofs only [go_sem, V.c]; repeat (refine GO ?_; simp -implicitDefEqProofs only [go_sem, V.c]))
      refine VIF.split (fun g6 => ?_) (fun g6 => ?_)
      · (simp -implicitDefEqProofs only [go_sem]; repeat (refine GO ?_; simp -implicitDefEqProofs only [go_sem]))
        exact bad (by simp [g6])
      have g6 : decide (b[others[i].toNat].k = 1) = false := by simpa using g6
      (simp -implicitDefEqProofs only [go_sem]; repeat (refine GO ?_; simp -implicitDefEqProofs only [go_sem]))
      refine ⟨by omega, EL.map k1 ?_⟩
      (simp -implicitDefEqProofs only [go_sem, V.c]; repeat (refine GO ?_; simp -implicitDefEqProofs only [go_sem, V.c]))
      refine ⟨by omega, EL.map k2 ?_⟩
      (simp -implicitDefEqProofs only [go_sem, V.c]; repeat (refine GO ?_; simp -implicitDefEqProofs only [go_sem, V.c]))
      refine .pure _ (s45 a[cols[i].toNat] b[others[i].toNat]) rfl fun r hq _ => ?_
      subst hq
      (simp -implicitDefEqProofs only [go_sem, iA]; repeat (refine GO ?_; simp -implicitDefEqProofs only [go_sem, iA]))
      refine VIF.split (fun g7 => ?_) (fun g7 => ?_)
      · have g7 : cmpV a[cols[i].toNat] b[others[i].toNat] ≠ 0 := by simpa using g7
        (simp -implicitDefEqProofs only [go_sem]; repeat (refine GO ?_; simp -implicitDefEqProofs only [go_sem]))
        exact bad (by simp [g7])
      have g7 : cmpV a[cols[i].toNat] b[others[i].toNat] = 0 := by simpa using g7
      (simp -implicitDefEqProofs only [go_sem, w1]; repeat (refine GO ?_; simp -implicitDefEqProofs only [go_sem, w1]))
      refine BACK.mk ⟨i + 1, by omega, fun j hj hj2 hji => ?_⟩ [] rfl rfl (by show cols.length - (i + 1) < cols.length - i; omega) ?_
      · by_cases e2 : j = i
        · subst e2
          rw [i1, i2, hg1, hg2, g5, g6, g7]; rfl
        · exact hz j hj hj2 (by omega)
      · (simp -implicitDefEqProofs only [go_sem, rowA, intsL, iA]; repeat (refine GO ?_; simp -implicitDefEqProofs only [go_sem, rowA, intsL, iA]))
        exact id
    · have h : i = cols.length := by simp at h; omega
      subst h
      (simp -implicitDefEqProofs only [go_sem]; repeat (refine GO ?_; simp -implicitDefEqProofs only [go_sem]))
      have e : meetP a b cols others = true := by
        simp only [meetP]
        rw [List.all_eq_true]
        intro p hp
        obtain ⟨j, hj, rfl⟩ := List.mem_iff_getElem.1 hp
        simp only [List.length_zip] at hj
        simpa using hz j (by omega) (by omega) (by omega)
      rw [e]; rfl
end Yt
namespace Yt
open Go Go.Vc Go.Proofs
set_option maxRecDepth 10000
set_option maxHeartbeats 8000000
set_option linter.unusedSimpArgs false
set_option linter.unusedVariables false
theorem zerosV_leafy (n : Nat) : (Ob.mk 3 (List.replicate n [iA 0, iA 0, .pr (.string ⟨#[]⟩)])).leafy := by
  intro x hx a ha
  rw [(List.mem_replicate.1 hx).2] at ha
  simp only [List.mem_cons, List.not_mem_nil, or_false] at ha
  rcases ha with rfl | rfl | rfl <;> rfl
theorem c117 (n : Nat) (hn : n ≤ 1073741824) : Spec1 Try.prog 117 [.nl, iA n] (fun r o => r = .rf 0 0 0 ∧ o.sz = 3) := by
  refine spec1_of_vc tabOk elems ord117 Try.func117 rfl (rl := [.tmp 4]) rfl (by kernel_rfl) rfl ?_
  (simp -implicitDefEqProofs only [go_sem, iA]; repeat (refine GO ?_; simp -implicitDefEqProofs only [go_sem, iA]))
  refine VIF.split (fun h => by simp at h; omega) (fun _ => ?_)
  have w0 : IntKind.i64.wrap (0 - 0) = 0 := by rw [wrap_i64] <;> omega
  have w1 : IntKind.i64.wrap ((n : Int) - 0) = n := by rw [wrap_i64] <;> omega
  (simp -implicitDefEqProofs only [go_sem, w0, w1]; repeat (refine GO ?_; simp -implicitDefEqProofs only [go_sem, w0, w1]))
  refine VIF.split (fun h => ?_) (fun h => ?_)
  · have h : 0 < n := by simpa using h
    (simp -implicitDefEqProofs only [go_sem]; repeat (refine GO ?_; simp -implicitDefEqProofs only [go_sem]))
    refine ⟨by decide, ⟨_, rfl⟩, ⟨by omega, by omega⟩, by decide, ?_⟩
    (simp -implicitDefEqProofs only [go_sem]; repeat (refine GO ?_; simp -implicitDefEqProofs only [go_sem]))
    refine FINmk [(0, some 22)] [(4, .rf 0 0 0)] [(0, ⟨3, List.replicate n [iA 0, iA 0, .pr (.string ⟨#[]⟩)]⟩)] [0] rfl ?_ ?_
    · (simp -implicitDefEqProofs only [go_sem, iA]; repeat (refine GO ?_; simp -implicitDefEqProofs only [go_sem, iA]))
      exact ⟨⟨rfl, rfl⟩, .same ⟨3, List.replicate n [iA 0, iA 0, .pr (.string ⟨#[]⟩)]⟩ _ _ (zerosV_leafy n) (by simp [iA])⟩
    · exact ⟨_, ⟨⟨rfl, rfl⟩, rfl⟩, zerosV_leafy n, rfl⟩
  · (simp -implicitDefEqProofs only [go_sem]; repeat (refine GO ?_; simp -implicitDefEqProofs only [go_sem]))
    refine FINmk [(0, none)] [(4, .rf 0 0 0)] [(0, ro3 [])] [0] rfl ?_ ?_
    · (simp -implicitDefEqProofs only [go_sem]; repeat (refine GO ?_; simp -implicitDefEqProofs only [go_sem]))
      simp [ro3]
    · exact ⟨ro3 [], ⟨⟨rfl, rfl⟩, rfl⟩, ro3_leafy [], rfl⟩
/-- All of them, one behind the other. -/
def catV : List (List V) → List V
  | [] => []
  | z :: r => z ++ catV r
theorem catV_append (x y : List (List V)) : catV (x ++ y) = catV x ++ catV y := by
  induction x with
  | nil => rfl
  | cons z x ih => simp only [List.cons_append, catV, ih, List.append_assoc]
theorem catV_take {zs : List (List V)} {i : Nat} (h : i < zs.length) : (catV (zs.take (i + 1))).length = (catV (zs.take i)).length + zs[i].length := by
  rw [List.take_succ_eq_append_getElem h, catV_append]; simp [catV]
theorem catV_le (zs : List (List V)) (i : Nat) : (catV (zs.take i)).length ≤ (catV zs).length := by
  have : catV zs = catV (zs.take i) ++ catV (zs.drop i) := by rw [← catV_append, List.take_append_drop]
  rw [this]; simp
theorem c75 (zs : List (List V)) (hl : zs.length ≤ 1073741824) (hc : (catV zs).length ≤ 1048576) :
    Spec1 Try.prog 75 [rowsA zs] (fun r o => r = .rf 0 0 (catV zs).length ∧ o.sz = 3 ∧ o.es.take (catV zs).length = (catV zs).map V.c) := by
  refine spec1_of_vc tabOk elems ord75 Try.func75 rfl (rl := [.tmp 2]) rfl (by kernel_rfl) rfl ?_
  (simp -implicitDefEqProofs only [go_sem, rowsA]; repeat (refine GO ?_; simp -implicitDefEqProofs only [go_sem, rowsA]))
  refine LOOP.mk (ι := { i : Nat // i ≤ zs.length }) (fun p => mkS [(0, rowsA zs), (3, iA (catV (zs.take p.1)).length), (9, rowsA zs), (10, iA zs.length), (11, iA p.1)] [] [])
    (fun p => zs.length - p.1) ⟨0, Nat.zero_le _⟩ [] rfl rfl ?_ (fun p => ?_)
  · (simp -implicitDefEqProofs only [go_sem, rowsA, iA]; repeat (refine GO ?_; simp -implicitDefEqProofs only [go_sem, rowsA, iA]))
    exact ⟨id, rfl, rfl⟩
  · obtain ⟨i, hi⟩ := p
    (simp -implicitDefEqProofs only [go_sem, rowsA, iA]; repeat (refine GO ?_; simp -implicitDefEqProofs only [go_sem, rowsA, iA]))
    refine VIF.split (fun h => ?_) (fun h => ?_)
    · have h : i < zs.length := by simpa using h
      (simp -implicitDefEqProofs only [go_sem]; repeat (refine GO ?_; simp -implicitDefEqProofs only [go_sem]))
      refine EL.map h ?_
      have hct := catV_take h
      have hcl := catV_le zs (i + 1)
      rw [hct] at hcl
      have w1 : IntKind.i64.wrap (((catV (zs.take i)).length : Int) + (zs[i].length : Int)) = ((catV (zs.take (i + 1))).length : Int) := by
        rw [hct, wrap_i64] <;> omega
      have w2 := wrap_add1 (show i < 4611686018427387904 by omega)
      (simp -implicitDefEqProofs only [go_sem, rowA, w1, w2]; repeat (refine GO ?_; simp -implicitDefEqProofs only [go_sem, rowA, w1, w2]))
      refine VIF.split (fun h => by simp at h; omega) (fun _ => ?_)
      (simp -implicitDefEqProofs only [go_sem, w1, w2]; repeat (refine GO ?_; simp -implicitDefEqProofs only [go_sem, w1, w2]))
      refine BACK.mk ⟨i + 1, by omega⟩ [] rfl rfl (by show zs.length - (i + 1) < zs.length - i; omega) ?_
      (simp -implicitDefEqProofs only [go_sem, rowsA, iA, w1, w2]; repeat (refine GO ?_; simp -implicitDefEqProofs only [go_sem, rowsA, iA, w1, w2]))
      exact ⟨id, rfl, rfl⟩
    · have h : i = zs.length := by simp at h; omega
      subst h
      (simp -implicitDefEqProofs only [go_sem, List.take_length]; repeat (refine GO ?_; simp -implicitDefEqProofs only [go_sem, List.take_length]))
      refine .make 24 _ (c117 (catV zs).length (by omega)) rfl (by simp) rfl fun q o hq hlf => ?_
      obtain ⟨rfl, ho⟩ := hq
      (simp -implicitDefEqProofs only [go_sem]; repeat (refine GO ?_; simp -implicitDefEqProofs only [go_sem]))
      refine LOOP.mk (ι := { p : Nat × Ob // p.1 ≤ zs.length ∧ p.2.sz = 3 ∧ p.2.leafy ∧ p.2.es.take (catV (zs.take p.1)).length = (catV (zs.take p.1)).map V.c })
        (fun p => mkS [(6, .rf 1000 0 (catV (zs.take p.1.1)).length), (25, rowsA zs), (26, iA zs.length), (27, iA p.1.1)] [(1000, p.1.2)] [1000])
        (fun p => zs.length - p.1.1) ⟨(0, o), Nat.zero_le _, ho, hlf, rfl⟩ [(1000, some 24)] rfl rfl ?_ (fun p => ?_)
      · (simp -implicitDefEqProofs only [go_sem, rowsA, iA]; repeat (refine GO ?_; simp -implicitDefEqProofs only [go_sem, rowsA, iA]))
        exact ⟨id, ⟨rfl, rfl⟩, .same o _ _ hlf rfl⟩
      · obtain ⟨⟨i, o2⟩, hi, hsz, hlf2, hes⟩ := p
        simp only at hi hsz hlf2 hes
        (simp -implicitDefEqProofs only [go_sem, rowsA, iA]; repeat (refine GO ?_; simp -implicitDefEqProofs only [go_sem, rowsA, iA]))
        refine VIF.split (fun h => ?_) (fun h => ?_)
        · have h : i < zs.length := by simpa using h
          have hct := catV_take h
          have hcl := catV_le zs (i + 1)
          rw [hct] at hcl
          have w2 := wrap_add1 (show i < 4611686018427387904 by omega)
          (simp -implicitDefEqProofs only [go_sem]; repeat (refine GO ?_; simp -implicitDefEqProofs only [go_sem]))
          refine EL.map h ?_
          (simp -implicitDefEqProofs only [go_sem, rowA, w2]; repeat (refine GO ?_; simp -implicitDefEqProofs only [go_sem, rowA, w2]))
          refine ⟨⟨hsz, by omega⟩, ?_⟩
          have hlf3 : (Ob.mk 3 (o2.es.take (catV (zs.take i)).length ++ zs[i].map V.c)).leafy := by
            rw [hes, ← List.map_append]; exact ro3_leafy _
          refine BACK.mk ⟨(i + 1, ⟨3, o2.es.take (catV (zs.take i)).length ++ zs[i].map V.c⟩), by omega, rfl, hlf3, by
            show (o2.es.take (catV (zs.take i)).length ++ zs[i].map V.c).take (catV (zs.take (i + 1))).length = (catV (zs.take (i + 1))).map V.c
            rw [hes, ← List.map_append, List.take_succ_eq_append_getElem h, catV_append]
            simp only [catV, List.append_nil]
            exact List.take_of_length_le (by simp)⟩ [(1000, some 33)] rfl rfl (by show zs.length - (i + 1) < zs.length - i; omega) ?_
          (simp -implicitDefEqProofs only [go_sem, rowsA, iA, w2]; repeat (refine GO ?_; simp -implicitDefEqProofs only [go_sem, rowsA, iA, w2]))
          refine ⟨id, ⟨by rw [hct], rfl⟩, .same (Ob.mk 3 (o2.es.take (catV (zs.take i)).length ++ zs[i].map V.c)) _ _ hlf3 rfl⟩
        · have h : i = zs.length := by simp at h; omega
          subst h
          rw [List.take_length] at hes
          (simp -implicitDefEqProofs only [go_sem, List.take_length]; repeat (refine GO ?_; simp -implicitDefEqProofs only [go_sem, List.take_length]))
          refine FINmk [(0, some 1000)] [(2, .rf 0 0 (catV zs).length)] [(0, o2)] [0] rfl ?_ ?_
          · (simp -implicitDefEqProofs only [go_sem]; repeat (refine GO ?_; simp -implicitDefEqProofs only [go_sem]))
            exact .same o2 _ _ hlf2 rfl
          · exact ⟨o2, ⟨⟨rfl, hsz, hes⟩, rfl⟩, hlf2, rfl⟩
end Yt
namespace Yt
open Go Go.Vc Go.Proofs
set_option maxRecDepth 10000
set_option maxHeartbeats 8000000
set_option linter.unusedSimpArgs false
set_option linter.unusedVariables false
theorem c75z (zs : List (List V)) (hl : zs.length ≤ 1073741824) (hc : (catV zs).length ≤ 1048576) : Spec0 Try.prog 75 [rowsA zs] (· = rowA (catV zs)) :=
  (Spec1.fz (c75 zs hl hc)).mono fun r O' ⟨⟨⟨r0, o, ⟨e1, e2, e4⟩, _, _, e3⟩, hn⟩, hO⟩ => by
    subst e1; subst e3
    refine ⟨⟨?_, hn⟩, hO⟩
    rw [fz_rf, if_pos rfl, List.drop_zero, e2, e4]; rfl
def pc (p : It × It) : List AV := [rowA p.1.row, iA p.1.w, rowA p.2.row, iA p.2.w]
def pairsA (l : List (It × It)) : AV := .im 4 (l.map pc)
def op4 (l : List (It × It)) : Ob := ⟨4, l.map pc⟩
theorem op4_leafy (l : List (It × It)) : (op4 l).leafy := by
  intro x hx a ha
  obtain ⟨p, hp, rfl⟩ := List.mem_map.1 hx
  simp only [pc, List.mem_cons, List.not_mem_nil, or_false] at ha
  rcases ha with rfl | rfl | rfl | rfl <;> rfl
def pairL (a b : List It) (cols others : List Int) : List (It × It) := a.flatMap fun x => (b.filter fun y => meetP x.row y.row cols others).map fun y => (x, y)
def longP (p : It × It) : Bool := decide (12 < p.1.row.length + p.2.row.length)
theorem pairL_append (a a' b : List It) (cols others : List Int) : pairL (a ++ a') b cols others = pairL a b cols others ++ pairL a' b cols others := by simp [pairL]
theorem pairL_one (x : It) (b b' : List It) (cols others : List Int) : pairL [x] (b ++ b') cols others = pairL [x] b cols others ++ pairL [x] b' cols others := by simp [pairL]
theorem pairL_len (a b : List It) (cols others : List Int) : (pairL a b cols others).length ≤ a.length * b.length := by
  induction a with
  | nil => simp [pairL]
  | cons x a ih =>
    have e : pairL (x :: a) b cols others = (b.filter fun y => meetP x.row y.row cols others).map (fun y => (x, y)) ++ pairL a b cols others := by simp [pairL]
    rw [e, List.length_append, List.length_map, List.length_cons, Nat.succ_mul]
    have := List.length_filter_le (fun y => meetP x.row y.row cols others) b
    omega
theorem pairL_mem {a b : List It} {cols others : List Int} {p : It × It} (h : p ∈ pairL a b cols others) : p.1 ∈ a ∧ p.2 ∈ b ∧ meetP p.1.row p.2.row cols others = true := by
  simp only [pairL, List.mem_flatMap, List.mem_map, List.mem_filter] at h
  obtain ⟨x, hx, y, ⟨hy, hm⟩, rfl⟩ := h
  exact ⟨hx, hy, hm⟩
theorem pair_bd {a b : List It} {cols others : List Int} {i j : Nat} (hi : i < a.length) (hj : j ≤ b.length) : (pairL (a.take i) b cols others ++ pairL [a[i]] (b.take j) cols others).length ≤ a.length * b.length := by
  have h1 := pairL_len (a.take (i + 1)) b cols others
  rw [List.take_succ_eq_append_getElem hi, pairL_append] at h1
  have h2 : b = b.take j ++ b.drop j := (List.take_append_drop j b).symm
  have h3 : pairL [a[i]] b cols others = pairL [a[i]] (b.take j) cols others ++ pairL [a[i]] (b.drop j) cols others := by rw [← pairL_one, List.take_append_drop]
  rw [h3] at h1
  have h4 : (a.take i ++ [a[i]]).length ≤ a.length := by simp; omega
  have h5 := Nat.mul_le_mul_right b.length h4
  simp only [List.length_append] at h1 ⊢
  simp only [List.length_append] at h5
  omega
theorem c73 (a b : List It) (cols others : List Int) (hl : cols.length = others.length) (hc : cols.length < 1073741824) (hab : a.length * b.length ≤ 1048576) (hal : a.length ≤ 1048576) (hbl : b.length ≤ 1048576) (ha : ∀ t ∈ a, t.row.length < 1073741824) (hb : ∀ t ∈ b, t.row.length < 1073741824) :
    Spec0 Try.prog 73 [setA a, setA b, intsL cols, intsL others] (· = .tu [pairsA (pairL a b cols others), bA ((pairL a b cols others).any longP)]) := by
  refine spec0_of_vc tabOk elems ord73 Try.func73 rfl (rl := [.tmp 8, .tmp 9]) rfl (by kernel_rfl) rfl ?_
  (simp -implicitDefEqProofs only [go_sem, setA, intsL]; repeat (refine GO ?_; simp -implicitDefEqProofs only [go_sem, setA, intsL]))
  refine LOOP.mk (ι := { i : Nat // i ≤ a.length }) (fun p => mkS [(1, setA b), (2, intsL cols), (3, intsL others), (8, .rf 1000 0 (pairL (a.take p.1) b cols others).length), (9, bA ((pairL (a.take p.1) b cols others).any longP)), (14, setA a), (15, iA a.length), (16, iA p.1)]
    [(1000, op4 (pairL (a.take p.1) b cols others))] [1000]) (fun p => a.length - p.1) ⟨0, Nat.zero_le _⟩ [(1000, none)] rfl rfl ?_ (fun p => ?_)
  · (simp -implicitDefEqProofs only [go_sem, setA, intsL, iA, bA, op4]; repeat (refine GO ?_; simp -implicitDefEqProofs only [go_sem, setA, intsL, iA, bA, op4]))
    simp [pairL]
  · obtain ⟨i, hi⟩ := p
    (simp -implicitDefEqProofs only [go_sem, setA, intsL, iA, bA, op4]; repeat (refine GO ?_; simp -implicitDefEqProofs only [go_sem, setA, intsL, iA, bA, op4]))
    refine VIF.split (fun h1 => ?_) (fun h1 => ?_)
    · have h1 : i < a.length := by simpa using h1
      have hma := List.getElem_mem h1
      have w1 := wrap_add1 (show i < 4611686018427387904 by omega)
      (simp -implicitDefEqProofs only [go_sem]; repeat (refine GO ?_; simp -implicitDefEqProofs only [go_sem]))
      refine EL.map h1 ?_
      (simp -implicitDefEqProofs only [go_sem, It.c]; repeat (refine GO ?_; simp -implicitDefEqProofs only [go_sem, It.c]))
      have e0 : pairL (a.take i) b cols others ++ pairL [a[i]] (b.take 0) cols others = pairL (a.take i) b cols others := by simp [pairL]
      refine LOOP.mk (ι := { j : Nat // j ≤ b.length }) (fun p => mkS [(1, setA b), (2, intsL cols), (3, intsL others), (8, .rf 1000 0 (pairL (a.take i) b cols others ++ pairL [a[i]] (b.take p.1) cols others).length), (9, bA ((pairL (a.take i) b cols others ++ pairL [a[i]] (b.take p.1) cols others).any longP)), (11, .pt 1001 0 0), (14, setA a), (15, iA a.length), (16, iA i), (20, setA b), (21, iA b.length), (22, iA p.1)]
        [(1000, op4 (pairL (a.take i) b cols others ++ pairL [a[i]] (b.take p.1) cols others)), (1001, ⟨2, [It.c a[i]]⟩)] [1000, 1001]) (fun p => b.length - p.1) ⟨0, Nat.zero_le _⟩ [(1000, some 1000), (1001, some 11)] rfl rfl ?_ (fun p => ?_)
      · simp only [e0]
        (simp -implicitDefEqProofs only [go_sem, setA, intsL, iA, bA, op4, It.c, rowA]; repeat (refine GO ?_; simp -implicitDefEqProofs only [go_sem, setA, intsL, iA, bA, op4, It.c, rowA]))
        exact ⟨id, rfl, .same (op4 (pairL (a.take i) b cols others)) _ _ (op4_leafy _) rfl, .same ⟨2, [It.c a[i]]⟩ _ _ (by simp [Ob.leafy, It.c, AV.leaf, rowA, iA]) rfl⟩
      · obtain ⟨j, hj⟩ := p
        have hbd := pair_bd (cols := cols) (others := others) h1 hj
        simp only
        generalize hL : pairL (a.take i) b cols others ++ pairL [a[i]] (b.take j) cols others = L at *
        (simp -implicitDefEqProofs only [go_sem, setA, intsL, iA, bA, op4, It.c]; repeat (refine GO ?_; simp -implicitDefEqProofs only [go_sem, setA, intsL, iA, bA, op4, It.c]))
        refine VIF.split (fun h2 => ?_) (fun h2 => ?_)
        · have h2 : j < b.length := by simpa using h2
          have hmb := List.getElem_mem h2
          have w2 := wrap_add1 (show j < 4611686018427387904 by omega)
          (simp -implicitDefEqProofs only [go_sem]; repeat (refine GO ?_; simp -implicitDefEqProofs only [go_sem]))
          refine EL.map h2 ?_
          (simp -implicitDefEqProofs only [go_sem, It.c]; repeat (refine GO ?_; simp -implicitDefEqProofs only [go_sem, It.c]))
          refine .pure _ (c114 a[i].row b[j].row cols others hl (by have := ha _ hma; omega) (by have := hb _ hmb; omega) (by omega)) rfl fun r hq _ => ?_
          subst hq
          have eN : pairL (a.take i) b cols others ++ pairL [a[i]] (b.take (j + 1)) cols others = L ++ pairL [a[i]] [b[j]] cols others := by
            rw [List.take_succ_eq_append_getElem h2, pairL_one, ← List.append_assoc, hL]
          (simp -implicitDefEqProofs only [go_sem, bA]; repeat (refine GO ?_; simp -implicitDefEqProofs only [go_sem, bA]))
          refine VIF.split (fun h3 => ?_) (fun h3 => ?_)
          · have eM : pairL [a[i]] [b[j]] cols others = [(a[i], b[j])] := by simp [pairL, h3]
            rw [eM] at eN
            (simp -implicitDefEqProofs only [go_sem]; repeat (refine GO ?_; simp -implicitDefEqProofs only [go_sem]))
            refine ⟨by omega, ?_⟩
            have e1 : (List.map pc L).take L.length ++ [[rowA a[i].row, iA a[i].w, rowA b[j].row, iA b[j].w]] = List.map pc (L ++ [(a[i], b[j])]) := by
              rw [take_map_len, List.map_append]; rfl
            have hany : (L ++ [(a[i], b[j])]).any longP = (L.any longP || decide (12 < a[i].row.length + b[j].row.length)) := by simp [longP]
            refine VIF.split (fun h4 => ?_) (fun h4 => ?_)
            · rw [h4, Bool.true_or] at hany
              have hw : True := trivial
              (simp -implicitDefEqProofs only [go_sem, w2, h4]; repeat (refine GO ?_; simp -implicitDefEqProofs only [go_sem, w2, h4]))
              refine BACK.mk ⟨j + 1, by omega⟩ [(1000, some 38), (1001, some 1001)] rfl rfl (by show b.length - (j + 1) < b.length - j; omega) ?_
              simp only [eN, hany]
              (simp -implicitDefEqProofs only [go_sem, setA, intsL, iA, bA, op4, It.c, w2, hw]; repeat (refine GO ?_; simp -implicitDefEqProofs only [go_sem, setA, intsL, iA, bA, op4, It.c, w2, hw]))
              exact ⟨id, by simp, .same (op4 []) _ _ (fun x hx => op4_leafy (L ++ [(a[i], b[j])]) x (by rw [op4]; exact e1 ▸ hx)) e1, .same ⟨2, [It.c a[i]]⟩ _ _ (by simp [Ob.leafy, It.c, AV.leaf, rowA, iA]) rfl⟩
            · rw [h4, Bool.false_or] at hany
              have hw : IntKind.i64.wrap ((a[i].row.length : Int) + b[j].row.length) = ((a[i].row.length + b[j].row.length : Nat) : Int) := by
                have := ha _ hma; have := hb _ hmb; rw [wrap_i64] <;> omega
              have hd : decide ((12 : Int) < ((a[i].row.length + b[j].row.length : Nat) : Int)) = decide (12 < a[i].row.length + b[j].row.length) := by
                rw [decide_eq_decide]; omega
              (simp -implicitDefEqProofs only [go_sem, w2, h4, rowA, hw, hd]; repeat (refine GO ?_; simp -implicitDefEqProofs only [go_sem, w2, h4, rowA, hw, hd]))
              refine BACK.mk ⟨j + 1, by omega⟩ [(1000, some 38), (1001, some 1001)] rfl rfl (by show b.length - (j + 1) < b.length - j; omega) ?_
              simp only [eN, hany]
              (simp -implicitDefEqProofs only [go_sem, setA, intsL, iA, bA, op4, It.c, w2, hw, rowA]; repeat (refine GO ?_; simp -implicitDefEqProofs only [go_sem, setA, intsL, iA, bA, op4, It.c, w2, hw, rowA]))
              exact ⟨id, by simp, .same (op4 []) _ _ (fun x hx => op4_leafy (L ++ [(a[i], b[j])]) x (by rw [op4]; exact e1 ▸ hx)) e1, .same ⟨2, [It.c a[i]]⟩ _ _ (by simp [Ob.leafy, It.c, AV.leaf, rowA, iA]) rfl⟩
          · have eM : pairL [a[i]] [b[j]] cols others = [] := by simp [pairL, h3]
            rw [eM, List.append_nil] at eN
            (simp -implicitDefEqProofs only [go_sem, w2]; repeat (refine GO ?_; simp -implicitDefEqProofs only [go_sem, w2]))
            refine BACK.mk ⟨j + 1, by omega⟩ [(1000, some 1000), (1001, some 1001)] rfl rfl (by show b.length - (j + 1) < b.length - j; omega) ?_
            simp only [eN]
            (simp -implicitDefEqProofs only [go_sem, setA, intsL, iA, bA, op4, It.c, rowA]; repeat (refine GO ?_; simp -implicitDefEqProofs only [go_sem, setA, intsL, iA, bA, op4, It.c, rowA]))
            exact ⟨id, .same (op4 L) _ _ (op4_leafy _) rfl, .same ⟨2, [It.c a[i]]⟩ _ _ (by simp [Ob.leafy, It.c, AV.leaf, rowA, iA]) rfl⟩
        · have h2 : j = b.length := by simp at h2; omega
          subst h2
          have eL : L = pairL (a.take (i + 1)) b cols others := by rw [← hL, List.take_length, List.take_succ_eq_append_getElem h1, pairL_append]
          subst eL
          (simp -implicitDefEqProofs only [go_sem, w1]; repeat (refine GO ?_; simp -implicitDefEqProofs only [go_sem, w1]))
          refine BACK.mk ⟨i + 1, by omega⟩ [(1000, some 1000)] rfl rfl (by show a.length - (i + 1) < a.length - i; omega) ?_
          (simp -implicitDefEqProofs only [go_sem, setA, intsL, iA, bA, op4]; repeat (refine GO ?_; simp -implicitDefEqProofs only [go_sem, setA, intsL, iA, bA, op4]))
          exact ⟨id, .same (op4 (pairL (a.take (i + 1)) b cols others)) _ _ (op4_leafy _) rfl⟩
    · have h1 : i = a.length := by simp at h1; omega
      subst h1
      simp -implicitDefEqProofs only [go_sem, List.take_length]
      generalize hL : pairL a b cols others = L at *
      refine FRZ 1000 (op4 L) rfl (op4_leafy L) ?_
      (simp -implicitDefEqProofs only [go_sem, op4]; repeat (refine GO ?_; simp -implicitDefEqProofs only [go_sem, op4]))
      rw [take_map_len]
      exact ⟨rfl, rfl⟩
end Yt
namespace Yt
open Go Go.Vc Go.Proofs
set_option maxRecDepth 10000
set_option maxHeartbeats 8000000
set_option linter.unusedSimpArgs false
set_option linter.unusedVariables false
def joinI (p : It × It) : It := ⟨p.1.row ++ p.2.row, p.1.w * p.2.w⟩
/-- What a join is, or why not. -/
def JoinR (a b : List It) (cols others : List Int) (out : List It) (err : Int) : Prop :=
  (¬ (Good a ∧ Good b) ∧ out = [] ∧ err = 1) ∨ (Good a ∧ Good b ∧ (cols.length ≠ others.length ∨ (cols.length = others.length ∧ (pairL a b cols others).any longP = true)) ∧ out = [] ∧ err = 2) ∨
  (Good a ∧ Good b ∧ cols.length = others.length ∧ (pairL a b cols others).any longP = false ∧ (∃ p ∈ pairL a b cols others, okW (p.1.w * p.2.w) = false) ∧ out = [] ∧ err = 11) ∨
  (Good a ∧ Good b ∧ cols.length = others.length ∧ (pairL a b cols others).any longP = false ∧ (∀ p ∈ pairL a b cols others, okW (p.1.w * p.2.w) = true) ∧ MakeR ((pairL a b cols others).map joinI) out err)
theorem good_w {z : List It} (h : Good z) {t : It} (ht : t ∈ z) : -72057594037927936 ≤ t.w ∧ t.w ≤ 72057594037927936 := by
  have := ((good_made.1 h).1.nz t ht).2
  simp [okW, inB] at this; exact this
theorem c26 (a b : List It) (cols others : List Int) (hc : cols.length < 1073741824) (hd : others.length < 1073741824) (hab : a.length * b.length ≤ 1048576) (hal : a.length ≤ 1048576) (hbl : b.length ≤ 1048576) (ha : ∀ t ∈ a, t.row.length < 1073741824) (hb : ∀ t ∈ b, t.row.length < 1073741824) :
    Spec0 Try.prog 26 [setA a, setA b, intsL cols, intsL others] (fun r => ∃ (out : List It) (err : Int), r = .tu [setA out, iA err] ∧ JoinR a b cols others out err) := by
  refine spec0_of_vc tabOk elems ord26 Try.func26 rfl (rl := [.tmp 8, .tmp 9]) rfl (by kernel_rfl) rfl ?_
  (simp -implicitDefEqProofs only [go_sem, setA, intsL]; repeat (refine GO ?_; simp -implicitDefEqProofs only [go_sem, setA, intsL]))
  have bad : ∀ (e : Int) (s : St), 0 ∉ s.used → s.regs 8 = .nl → s.regs 9 = .pr (.int .i64 e) → JoinR a b cols others [] e → GOES (fun st => hRes T st [.tmp 8, .tmp 9] fun v => v.noId = true ∧ ∃ (out : List It) (err : Int), v = .tu [setA out, iA err] ∧ JoinR a b cols others out err) s := by
    intro e s hu h8 h9 hj
    refine TO [] [(8, setA []), (9, iA e)] [] [] rfl ?_ ?_
    · (simp -implicitDefEqProofs only [go_sem, setA, iA, h8, h9]; repeat (refine GO ?_; simp -implicitDefEqProofs only [go_sem, setA, iA, h8, h9]))
      exact ⟨fun h => absurd h hu, rfl⟩
    (simp -implicitDefEqProofs only [go_sem]; repeat (refine GO ?_; simp -implicitDefEqProofs only [go_sem]))
    exact ⟨rfl, [], e, rfl, hj⟩
  refine .pure _ (s16 a (by omega) (fun t ht => by have := ha t ht; omega)) rfl fun q hq _ => ?_
  obtain ⟨e1, rfl, he1, hg1⟩ := hq
  (simp -implicitDefEqProofs only [go_sem, iA]; repeat (refine GO ?_; simp -implicitDefEqProofs only [go_sem, iA]))
  refine VIF.split (fun h => ?_) (fun h => ?_)
  · have h : e1 ≠ 0 := by simpa using h
    simp -implicitDefEqProofs only [go_sem]
    exact bad 1 _ (by simp) rfl rfl (.inl ⟨fun g => h (hg1.2 g.1), rfl, rfl⟩)
  have h : e1 = 0 := by simpa using h
  have hg1 := hg1.1 h
  (simp -implicitDefEqProofs only [go_sem]; repeat (refine GO ?_; simp -implicitDefEqProofs only [go_sem]))
  refine .pure _ (s16 b (by omega) (fun t ht => by have := hb t ht; omega)) rfl fun q hq _ => ?_
  obtain ⟨e2, rfl, he2, hg2⟩ := hq
  (simp -implicitDefEqProofs only [go_sem, iA]; repeat (refine GO ?_; simp -implicitDefEqProofs only [go_sem, iA]))
  refine VIF.split (fun h => ?_) (fun h => ?_)
  · have h : e2 ≠ 0 := by simpa using h
    simp -implicitDefEqProofs only [go_sem]
    exact bad 1 _ (by simp) rfl rfl (.inl ⟨fun g => h (hg2.2 g.2), rfl, rfl⟩)
  have h : e2 = 0 := by simpa using h
  have hg2 := hg2.1 h
  (simp -implicitDefEqProofs only [go_sem]; repeat (refine GO ?_; simp -implicitDefEqProofs only [go_sem]))
  refine VIF.split (fun h => ?_) (fun h => ?_)
  · have h : cols.length ≠ others.length := by simp at h; omega
    simp -implicitDefEqProofs only [go_sem]
    exact bad 2 _ (by simp) rfl rfl (.inr (.inl ⟨hg1, hg2, .inl h, rfl, rfl⟩))
  have hl : cols.length = others.length := by simp at h; omega
  (simp -implicitDefEqProofs only [go_sem]; repeat (refine GO ?_; simp -implicitDefEqProofs only [go_sem]))
  refine .pure _ (c73 a b cols others hl hc hab hal hbl ha hb) rfl fun r hq _ => ?_
  subst hq
  have hLl := pairL_len a b cols others
  have hLm : ∀ p ∈ pairL a b cols others, p.1 ∈ a ∧ p.2 ∈ b := fun p hp => ⟨(pairL_mem hp).1, (pairL_mem hp).2.1⟩
  generalize hL : pairL a b cols others = L at *
  (simp -implicitDefEqProofs only [go_sem, bA, pairsA]; repeat (refine GO ?_; simp -implicitDefEqProofs only [go_sem, bA, pairsA]))
  refine VIF.split (fun h => ?_) (fun h => ?_)
  · simp -implicitDefEqProofs only [go_sem]
    exact bad 2 _ (by simp) rfl rfl (.inr (.inl ⟨hg1, hg2, .inr ⟨hl, by rw [hL]; exact h⟩, rfl, rfl⟩))
  have hsh : ∀ p ∈ L, p.1.row.length + p.2.row.length ≤ 12 := fun p hp => by
    rw [List.any_eq_false] at h
    have := h p hp
    simp [longP] at this; omega
  (simp -implicitDefEqProofs only [go_sem]; repeat (refine GO ?_; simp -implicitDefEqProofs only [go_sem]))
  refine LOOP.mk (ι := { i : Nat // i ≤ L.length ∧ ∀ p ∈ L.take i, okW (p.1.w * p.2.w) = true }) (fun q => mkS [(12, .rf 1000 0 q.1), (39, pairsA L), (40, iA L.length), (41, iA q.1)] [(1000, so ((L.take q.1).map joinI))] [1000]) (fun q => L.length - q.1) ⟨0, Nat.zero_le _, by simp⟩ [(1000, none)] rfl rfl ?_ (fun q => ?_)
  · (simp -implicitDefEqProofs only [go_sem, pairsA, iA, so]; repeat (refine GO ?_; simp -implicitDefEqProofs only [go_sem, pairsA, iA, so]))
    simp
  · obtain ⟨i, hi, hz⟩ := q
    (simp -implicitDefEqProofs only [go_sem, pairsA, iA, so]; repeat (refine GO ?_; simp -implicitDefEqProofs only [go_sem, pairsA, iA, so]))
    refine VIF.split (fun h1 => ?_) (fun h1 => ?_)
    · have h1 : i < L.length := by simpa using h1
      have hm := List.getElem_mem h1
      have w1 := wrap_add1 (show i < 4611686018427387904 by omega)
      have b1 := good_w hg1 (hLm _ hm).1
      have b2 := good_w hg2 (hLm _ hm).2
      have hs := hsh _ hm
      (simp -implicitDefEqProofs only [go_sem]; repeat (refine GO ?_; simp -implicitDefEqProofs only [go_sem]))
      refine EL.map h1 ?_
      (simp -implicitDefEqProofs only [go_sem, pc, iA, rowA]; repeat (refine GO ?_; simp -implicitDefEqProofs only [go_sem, pc, iA, rowA]))
      refine .pure _ (c74 L[i].1.w L[i].2.w (by omega) (by omega)) rfl fun r hq _ => ?_
      subst hq
      (simp -implicitDefEqProofs only [go_sem, iA, bA]; repeat (refine GO ?_; simp -implicitDefEqProofs only [go_sem, iA, bA]))
      refine VIF.split (fun h2 => ?_) (fun h2 => ?_)
      · have h2 : okW (L[i].1.w * L[i].2.w) = false := by simpa using h2
        simp -implicitDefEqProofs only [go_sem]
        exact bad 11 _ (by simp) rfl rfl (.inr (.inr (.inl ⟨hg1, hg2, hl, by rw [hL]; exact h, by rw [hL]; exact ⟨_, hm, h2⟩, rfl, rfl⟩)))
      have h2 : okW (L[i].1.w * L[i].2.w) = true := by simpa using h2
      have hw : IntKind.i64.wrap (L[i].1.w * L[i].2.w) = L[i].1.w * L[i].2.w := by
        simp [okW, inB] at h2; rw [wrap_i64] <;> omega
      simp -implicitDefEqProofs only [go_sem]
      refine GO ?_
      simp -implicitDefEqProofs only [go_sem]
      refine FRZ 64 ⟨1, [[rowA L[i].1.row], [rowA L[i].2.row]]⟩ rfl (by simp [Ob.leafy, AV.leaf, rowA]) ?_
      simp -implicitDefEqProofs only [go_sem, so]
      refine .pure _ (show Spec0 Try.prog 75 [rowsA [L[i].1.row, L[i].2.row]] _ from c75z [L[i].1.row, L[i].2.row] (by simp) (by simp [catV]; omega)) rfl fun r hq _ => ?_
      have hq : r = rowA (joinI L[i]).row := by rw [hq]; simp [catV, joinI]
      subst hq
      have e1 : (List.map It.c (List.map joinI (L.take i))).take i ++ [[rowA (joinI L[i]).row, iA (L[i].1.w * L[i].2.w)]] = List.map It.c (List.map joinI (L.take (i + 1))) := by
        rw [List.take_of_length_le (by simp; omega), List.take_succ_eq_append_getElem h1, List.map_append, List.map_append]; rfl
      (simp -implicitDefEqProofs only [go_sem, hw, w1]; repeat (refine GO ?_; simp -implicitDefEqProofs only [go_sem, hw, w1]))
      refine ⟨by omega, ?_⟩
      refine BACK.mk ⟨i + 1, by omega, fun p hp => ?_⟩ [(1000, some 69)] rfl rfl (by show L.length - (i + 1) < L.length - i; omega) ?_
      · rw [List.take_succ_eq_append_getElem h1, List.mem_append] at hp
        rcases hp with hp | hp
        · exact hz p hp
        · simp at hp; rw [hp]; exact h2
      · (simp -implicitDefEqProofs only [go_sem, pairsA, iA, so, hw]; repeat (refine GO ?_; simp -implicitDefEqProofs only [go_sem, pairsA, iA, so, hw]))
        exact ⟨id, .same (so []) _ _ (fun x hx => so_leafy ((L.take (i + 1)).map joinI) x (by rw [so]; exact e1 ▸ hx)) e1⟩
    · have h1 : i = L.length := by simp at h1; omega
      subst h1
      rw [List.take_length] at hz
      simp -implicitDefEqProofs only [go_sem, List.take_length]
      refine GO ?_
      simp -implicitDefEqProofs only [go_sem]
      refine TO [] [(71, setA (L.map joinI))] [] [] rfl ?_ ?_
      · (simp -implicitDefEqProofs only [go_sem, setA]; repeat (refine GO ?_; simp -implicitDefEqProofs only [go_sem, setA]))
        exact ⟨id, by decide, _, rfl, so_leafy (L.map joinI), rfl, List.take_of_length_le (by simp)⟩
      (simp -implicitDefEqProofs only [go_sem, setA]; repeat (refine GO ?_; simp -implicitDefEqProofs only [go_sem, setA]))
      refine .pure _ (Spec1.setE (s11 (L.map joinI) (by simp; omega) (fun t ht => by
        obtain ⟨p, hp, rfl⟩ := List.mem_map.1 ht
        have := hsh p hp
        simp [joinI]; omega))) rfl fun q hq _ => ?_
      obtain ⟨out, err, rfl, hm⟩ := hq
      (simp -implicitDefEqProofs only [go_sem, iA, setA]; repeat (refine GO ?_; simp -implicitDefEqProofs only [go_sem, iA, setA]))
      exact ⟨rfl, out, err, rfl, .inr (.inr (.inr ⟨hg1, hg2, hl, by rw [hL]; simpa using h, by rw [hL]; exact hz, by rw [hL]; exact hm⟩))⟩
end Yt
namespace Yt
open Go Go.Vc Go.Proofs
set_option maxRecDepth 10000
set_option maxHeartbeats 8000000
set_option linter.unusedSimpArgs false
set_option linter.unusedVariables false
/-- On, if there is no refusal. -/
def Thn (out : List It) (err e : Int) (Q : Prop) : Prop := (e ≠ 0 ∧ out = [] ∧ err = e) ∨ (e = 0 ∧ Q)
/-- What a join is more. -/
def JDel (a da b db : List It) (cols others : List Int) (out : List It) (err : Int) : Prop :=
  (¬ (∀ z ∈ [a, da, b, db], Good z) ∧ out = [] ∧ err = 1) ∨ ((∀ z ∈ [a, da, b, db], Good z) ∧ cols.length ≠ others.length ∧ out = [] ∧ err = 2) ∨
  ((∀ z ∈ [a, da, b, db], Good z) ∧ cols.length = others.length ∧ ∃ na e1, AddR a da na e1 ∧ Thn out err e1 (∃ nb e2, AddR b db nb e2 ∧ Thn out err e2
    (∃ now e3, JoinR na nb cols others now e3 ∧ Thn out err e3 (∃ was e4, JoinR a b cols others was e4 ∧ Thn out err e4 (MinR now was out err)))))
theorem joinR_rows {a b out : List It} {cols others : List Int} {err : Int} (h : JoinR a b cols others out err) : out.length ≤ a.length * b.length ∧ ∀ t ∈ out, t.row.length ≤ 12 := by
  rcases h with ⟨_, rfl, _⟩ | ⟨_, _, _, rfl, _⟩ | ⟨_, _, _, _, _, rfl, _⟩ | ⟨_, _, _, hs, _, hm⟩
  · simp
  · simp
  · simp
  · obtain ⟨h1, h2⟩ := makeR_rows hm
    have := pairL_len a b cols others
    refine ⟨by simpa using Nat.le_trans h1 (by simpa using this), fun t ht => ?_⟩
    obtain ⟨u, hu, e⟩ := h2 t ht
    obtain ⟨p, hp, rfl⟩ := List.mem_map.1 hu
    rw [List.any_eq_false] at hs
    have := hs p hp
    rw [← e]
    simp [longP] at this
    simp [joinI]; omega
theorem addR_small {a b out : List It} {err : Int} {k : Nat} (h : AddR a b out err) (ha : ∀ t ∈ a, t.row.length < k) (hb : ∀ t ∈ b, t.row.length < k) : ∀ t ∈ out, t.row.length < k := fun t ht => by
  obtain ⟨u, hu, e⟩ := (addR_rows h).2 t ht
  rw [← e]
  rcases List.mem_append.1 hu with hu | hu
  · exact ha u hu
  · exact hb u hu
theorem c63 (a da b db : List It) (cols others : List Int) (hc : cols.length < 1073741824) (hd : others.length < 1073741824) (hab : (a.length + da.length) * (b.length + db.length) ≤ 300000) (hal : a.length + da.length ≤ 300000) (hbl : b.length + db.length ≤ 300000)
    (ha : ∀ t ∈ a, t.row.length < 1073741824) (hda : ∀ t ∈ da, t.row.length < 1073741824) (hb : ∀ t ∈ b, t.row.length < 1073741824) (hdb : ∀ t ∈ db, t.row.length < 1073741824) :
    Spec0 Try.prog 63 [setA a, setA da, setA b, setA db, intsL cols, intsL others] (fun r => ∃ (out : List It) (err : Int), r = .tu [setA out, iA err] ∧ JDel a da b db cols others out err) := by
  refine spec0_of_vc tabOk elems ord63 Try.func63 rfl (rl := [.tmp 12, .tmp 13]) rfl (by kernel_rfl) rfl ?_
  have bad : ∀ (e : Int) (s : St), 0 ∉ s.used → s.regs 12 = .nl → s.regs 13 = .pr (.int .i64 e) → JDel a da b db cols others [] e → GOES (fun st => hRes T st [.tmp 12, .tmp 13] fun v => v.noId = true ∧ ∃ (out : List It) (err : Int), v = .tu [setA out, iA err] ∧ JDel a da b db cols others out err) s := by
    intro e s hu h8 h9 hj
    refine TO [] [(12, setA []), (13, iA e)] [] [] rfl ?_ ?_
    · (simp -implicitDefEqProofs only [go_sem, setA, iA, h8, h9]; repeat (refine GO ?_; simp -implicitDefEqProofs only [go_sem, setA, iA, h8, h9]))
      exact ⟨fun h => absurd h hu, rfl⟩
    (simp -implicitDefEqProofs only [go_sem]; repeat (refine GO ?_; simp -implicitDefEqProofs only [go_sem]))
    exact ⟨rfl, [], e, rfl, hj⟩
  have hzl : ∀ z ∈ [a, da, b, db], z.length ≤ 300000 ∧ ∀ t ∈ z, t.row.length < 1073741824 := fun z hz => by
    simp only [List.mem_cons, List.not_mem_nil, or_false] at hz
    rcases hz with rfl | rfl | rfl | rfl
    · exact ⟨by omega, ha⟩
    · exact ⟨by omega, hda⟩
    · exact ⟨by omega, hb⟩
    · exact ⟨by omega, hdb⟩
  (simp -implicitDefEqProofs only [go_sem, setA, intsL]; repeat (refine GO ?_; simp -implicitDefEqProofs only [go_sem, setA, intsL]))
  refine LOOP.mk (ι := { i : Nat // i ≤ 4 ∧ ∀ j (h : j < [a, da, b, db].length), j < i → Good [a, da, b, db][j] }) (fun q => mkS [(0, setA a), (1, setA da), (2, setA b), (3, setA db), (4, intsL cols), (5, intsL others), (26, setsA [a, da, b, db]), (27, iA 4), (28, iA q.1)] [] []) (fun q => 4 - q.1) ⟨0, by decide, fun j _ h => absurd h (Nat.not_lt_zero _)⟩ [] rfl rfl ?_ (fun q => ?_)
  · (simp -implicitDefEqProofs only [go_sem, setA, intsL, iA, setsA]; repeat (refine GO ?_; simp -implicitDefEqProofs only [go_sem, setA, intsL, iA, setsA]))
    exact ⟨id, ⟨by decide, _, rfl, by simp [Ob.leafy, AV.leaf], rfl, rfl⟩, rfl, rfl⟩
  · obtain ⟨i, hi, hz⟩ := q
    (simp -implicitDefEqProofs only [go_sem, setA, intsL, iA, setsA]; repeat (refine GO ?_; simp -implicitDefEqProofs only [go_sem, setA, intsL, iA, setsA]))
    refine VIF.split (fun h1 => ?_) (fun h1 => ?_)
    · have h1 : i < [a, da, b, db].length := by simp at h1 ⊢; omega
      have hm := List.getElem_mem h1
      obtain ⟨z1, z2⟩ := hzl _ hm
      have w1 := wrap_add1 (show i < 4611686018427387904 by omega)
      (simp -implicitDefEqProofs only [go_sem]; repeat (refine GO ?_; simp -implicitDefEqProofs only [go_sem]))
      refine EL.map (l := [a, da, b, db]) (i := i) h1 ?_
      (simp -implicitDefEqProofs only [go_sem, setA]; repeat (refine GO ?_; simp -implicitDefEqProofs only [go_sem, setA]))
      refine .pure _ (s16 _ (by omega) (fun t ht => by have := z2 t ht; omega)) rfl fun q hq _ => ?_
      obtain ⟨e1, rfl, he1, hg1⟩ := hq
      (simp -implicitDefEqProofs only [go_sem, iA]; repeat (refine GO ?_; simp -implicitDefEqProofs only [go_sem, iA]))
      refine VIF.split (fun h => ?_) (fun h => ?_)
      · have h : e1 ≠ 0 := by simpa using h
        have h1 : e1 = 1 := by omega
        subst h1
        simp -implicitDefEqProofs only [go_sem]
        exact bad 1 _ (by simp) rfl rfl (.inl ⟨fun g => h (hg1.2 (g _ hm)), rfl, rfl⟩)
      have h : e1 = 0 := by simpa using h
      have hg1 := hg1.1 h
      (simp -implicitDefEqProofs only [go_sem, w1]; repeat (refine GO ?_; simp -implicitDefEqProofs only [go_sem, w1]))
      refine BACK.mk ⟨i + 1, by simp at h1; omega, fun j hj hji => ?_⟩ [] rfl rfl (by simp at h1; show 4 - (i + 1) < 4 - i; omega) ?_
      · by_cases e : j = i
        · subst e; exact hg1
        · exact hz j hj (by omega)
      · (simp -implicitDefEqProofs only [go_sem, setA, intsL, iA, setsA, w1]; repeat (refine GO ?_; simp -implicitDefEqProofs only [go_sem, setA, intsL, iA, setsA, w1]))
        exact id
    · have h1 : i = 4 := by simp at h1; omega
      subst h1
      have hG : ∀ z ∈ [a, da, b, db], Good z := fun z hzm => by
        obtain ⟨j, hj, rfl⟩ := List.mem_iff_getElem.1 hzm
        exact hz j hj (by simpa using hj)
      (simp -implicitDefEqProofs only [go_sem]; repeat (refine GO ?_; simp -implicitDefEqProofs only [go_sem]))
      refine VIF.split (fun h => ?_) (fun h => ?_)
      · have h : cols.length ≠ others.length := by simp at h; omega
        simp -implicitDefEqProofs only [go_sem]
        exact bad 2 _ (by simp) rfl rfl (.inr (.inl ⟨hG, h, rfl, rfl⟩))
      have hl : cols.length = others.length := by simp at h; omega
      (simp -implicitDefEqProofs only [go_sem]; repeat (refine GO ?_; simp -implicitDefEqProofs only [go_sem]))
      refine .pure _ (Spec1.setE (s23 a da (by omega) ha hda)) rfl fun q hq _ => ?_
      obtain ⟨na, e1, rfl, h1⟩ := hq
      obtain ⟨nl, nr⟩ := addR_rows h1
      have nr := addR_small h1 ha hda
      (simp -implicitDefEqProofs only [go_sem, iA, setA]; repeat (refine GO ?_; simp -implicitDefEqProofs only [go_sem, iA, setA]))
      refine VIF.split (fun h => ?_) (fun h => ?_)
      · have h : e1 ≠ 0 := by simpa using h
        simp -implicitDefEqProofs only [go_sem]
        exact bad e1 _ (by simp) rfl rfl (.inr (.inr ⟨hG, hl, na, e1, h1, .inl ⟨h, rfl, rfl⟩⟩))
      have h : e1 = 0 := by simpa using h
      subst h
      (simp -implicitDefEqProofs only [go_sem]; repeat (refine GO ?_; simp -implicitDefEqProofs only [go_sem]))
      refine .pure _ (Spec1.setE (s23 b db (by omega) hb hdb)) rfl fun q hq _ => ?_
      obtain ⟨nb, e2, rfl, h2⟩ := hq
      obtain ⟨ml, mr⟩ := addR_rows h2
      have mr := addR_small h2 hb hdb
      (simp -implicitDefEqProofs only [go_sem, iA, setA]; repeat (refine GO ?_; simp -implicitDefEqProofs only [go_sem, iA, setA]))
      refine VIF.split (fun h => ?_) (fun h => ?_)
      · have h : e2 ≠ 0 := by simpa using h
        simp -implicitDefEqProofs only [go_sem]
        exact bad e2 _ (by simp) rfl rfl (.inr (.inr ⟨hG, hl, na, 0, h1, .inr ⟨rfl, nb, e2, h2, .inl ⟨h, rfl, rfl⟩⟩⟩))
      have h : e2 = 0 := by simpa using h
      subst h
      have p1 : na.length * nb.length ≤ 300000 := Nat.le_trans (Nat.mul_le_mul nl ml) hab
      have p2 : a.length * b.length ≤ 300000 := Nat.le_trans (Nat.mul_le_mul (by omega) (by omega)) hab
      (simp -implicitDefEqProofs only [go_sem]; repeat (refine GO ?_; simp -implicitDefEqProofs only [go_sem]))
      refine .pure _ (c26 na nb cols others hc hd (by omega) (by omega) (by omega) nr mr) rfl fun q hq _ => ?_
      obtain ⟨now, e3, rfl, h3⟩ := hq
      obtain ⟨ol, orr⟩ := joinR_rows h3
      (simp -implicitDefEqProofs only [go_sem, iA, setA]; repeat (refine GO ?_; simp -implicitDefEqProofs only [go_sem, iA, setA]))
      refine VIF.split (fun h => ?_) (fun h => ?_)
      · have h : e3 ≠ 0 := by simpa using h
        simp -implicitDefEqProofs only [go_sem]
        exact bad e3 _ (by simp) rfl rfl (.inr (.inr ⟨hG, hl, na, 0, h1, .inr ⟨rfl, nb, 0, h2, .inr ⟨rfl, now, e3, h3, .inl ⟨h, rfl, rfl⟩⟩⟩⟩))
      have h : e3 = 0 := by simpa using h
      subst h
      (simp -implicitDefEqProofs only [go_sem]; repeat (refine GO ?_; simp -implicitDefEqProofs only [go_sem]))
      refine .pure _ (c26 a b cols others hc hd (by omega) (by omega) (by omega) ha hb) rfl fun q hq _ => ?_
      obtain ⟨was, e4, rfl, h4⟩ := hq
      obtain ⟨wl, wr⟩ := joinR_rows h4
      (simp -implicitDefEqProofs only [go_sem, iA, setA]; repeat (refine GO ?_; simp -implicitDefEqProofs only [go_sem, iA, setA]))
      refine VIF.split (fun h => ?_) (fun h => ?_)
      · have h : e4 ≠ 0 := by simpa using h
        simp -implicitDefEqProofs only [go_sem]
        exact bad e4 _ (by simp) rfl rfl (.inr (.inr ⟨hG, hl, na, 0, h1, .inr ⟨rfl, nb, 0, h2, .inr ⟨rfl, now, 0, h3, .inr ⟨rfl, was, e4, h4, .inl ⟨h, rfl, rfl⟩⟩⟩⟩⟩))
      have h : e4 = 0 := by simpa using h
      subst h
      (simp -implicitDefEqProofs only [go_sem]; repeat (refine GO ?_; simp -implicitDefEqProofs only [go_sem]))
      refine .pure _ (Spec1.setE (c55 now was (by omega) (fun t ht => by have := orr t ht; omega) (fun t ht => by have := wr t ht; omega))) rfl fun q hq _ => ?_
      obtain ⟨out, err, rfl, h5⟩ := hq
      (simp -implicitDefEqProofs only [go_sem, iA, setA]; repeat (refine GO ?_; simp -implicitDefEqProofs only [go_sem, iA, setA]))
      exact ⟨rfl, out, err, rfl, .inr (.inr ⟨hG, hl, na, 0, h1, .inr ⟨rfl, nb, 0, h2, .inr ⟨rfl, now, 0, h3, .inr ⟨rfl, was, 0, h4, .inr ⟨rfl, h5⟩⟩⟩⟩⟩)⟩
end Yt
namespace Yt
open Go Go.Vc Go.Proofs
set_option maxRecDepth 10000
set_option maxHeartbeats 8000000
set_option linter.unusedSimpArgs false
set_option linter.unusedVariables false
/-- What items come to, each row as it counts. -/
def linF (f : List V → Int) : List It → Int
  | [] => 0
  | t :: z => t.w * f t.row + linF f z
/-- What a row comes to in a join. -/
def jt (cols others : List Int) (r : List V) (a b : List It) : Int := linF (fun ra => linF (fun rb => if meetP ra rb cols others = true ∧ cmpR (ra ++ rb) r = 0 then 1 else 0) b) a
theorem tot_join1 (cols others : List Int) (r : List V) (x : It) (b : List It) : tot r ((pairL [x] b cols others).map joinI) = x.w * linF (fun rb => if meetP x.row rb cols others = true ∧ cmpR (x.row ++ rb) r = 0 then 1 else 0) b := by
  induction b with
  | nil => simp [pairL, tot, linF]
  | cons y b ihb =>
    have e2 : pairL [x] (y :: b) cols others = pairL [x] [y] cols others ++ pairL [x] b cols others := by rw [← pairL_one]; rfl
    rw [e2, List.map_append, tot_append, ihb]
    simp only [linF, Int.mul_add]
    congr 1
    by_cases hm : meetP x.row y.row cols others = true
    · by_cases hc : cmpR (x.row ++ y.row) r = 0
      · simp [pairL, hm, tot, joinI, hc]
      · simp [pairL, hm, tot, joinI, hc]
    · simp [pairL, hm, tot]
theorem tot_join (cols others : List Int) (r : List V) (a b : List It) : tot r ((pairL a b cols others).map joinI) = jt cols others r a b := by
  induction a with
  | nil => rfl
  | cons x a ih =>
    have e : pairL (x :: a) b cols others = pairL [x] b cols others ++ pairL a b cols others := by rw [← pairL_append]; rfl
    rw [e, List.map_append, tot_append, ih, tot_join1]
    rfl
/-- As small as a law's sets are, when they are joined. -/
structure Fw (z : List It) (n : Nat) (k : Int) : Prop where
  good : Good z
  len : z.length ≤ n
  tot : ∀ r, -k ≤ tot r z ∧ tot r z ≤ k
theorem Fw.w {z : List It} {n : Nat} {k : Int} (h : Fw z n k) : ∀ t ∈ z, -k ≤ t.w ∧ t.w ≤ k := fun t ht => by
  rw [← tot_made (good_made.1 h.good).1 ht]; exact h.tot _
theorem mul_small {x y i j : Int} (hx : -i ≤ x ∧ x ≤ i) (hy : -j ≤ y ∧ y ≤ j) : -(i * j) ≤ x * y ∧ x * y ≤ i * j := by
  have h1 := Int.natAbs_mul x y
  have h2 : x.natAbs ≤ i.natAbs := by omega
  have h3 : y.natAbs ≤ j.natAbs := by omega
  have h4 := Nat.mul_le_mul h2 h3
  have h5 : (i.natAbs * j.natAbs : Nat) = (i * j).natAbs := (Int.natAbs_mul i j).symm
  have h6 : 0 ≤ i * j := Int.mul_nonneg (by omega) (by omega)
  omega
theorem joinR_fine {a b out : List It} {cols others : List Int} {err : Int} {n m : Nat} {i j : Int} (ha : Fw a n i) (hb : Fw b m j) (hl : cols.length = others.length) (hw : i * j * ((n * m : Nat) : Int) ≤ 72057594037927936)
    (hi : 0 ≤ i) (hj : 0 ≤ j) (hnm : 0 < n * m) (h : JoinR a b cols others out err) :
    (err = 2 ∧ out = [] ∧ (pairL a b cols others).any longP = true) ∨ (err = 0 ∧ (pairL a b cols others).any longP = false ∧ Good out ∧ Fw out (n * m) (i * j * ((n * m : Nat) : Int)) ∧ ∀ r, tot r out = jt cols others r a b) := by
  have hij : 0 ≤ i * j := Int.mul_nonneg hi hj
  have h1 : i * j ≤ i * j * ((n * m : Nat) : Int) := by
    have := Int.mul_le_mul_of_nonneg_left (show (1 : Int) ≤ ((n * m : Nat) : Int) by omega) hij
    omega
  have hp : ∀ p ∈ pairL a b cols others, -(i * j) ≤ p.1.w * p.2.w ∧ p.1.w * p.2.w ≤ i * j := fun p hp => by
    obtain ⟨g1, g2, _⟩ := pairL_mem hp
    exact mul_small (ha.w _ g1) (hb.w _ g2)
  have hok : ∀ p ∈ pairL a b cols others, okW (p.1.w * p.2.w) = true := fun p h => by
    have := hp p h
    simp only [okW, inB, Bool.and_eq_true, decide_eq_true_eq]; omega
  have hll := Nat.le_trans (pairL_len a b cols others) (Nat.mul_le_mul ha.len hb.len)
  rcases h with ⟨h, _⟩ | ⟨_, _, h, ho, he⟩ | ⟨_, _, _, _, ⟨p, hp, h⟩, _⟩ | ⟨ga, gb, _, hs, _, hm⟩
  · exact absurd ⟨ha.good, hb.good⟩ h
  · rcases h with h | ⟨_, h⟩
    · exact absurd hl h
    · exact .inl ⟨he, ho, h⟩
  · rw [hok p hp] at h; cases h
  · refine .inr ?_
    have hbd : ∀ r, -(i * j * ((n * m : Nat) : Int)) ≤ tot r ((pairL a b cols others).map joinI) ∧ tot r ((pairL a b cols others).map joinI) ≤ i * j * ((n * m : Nat) : Int) := fun r => by
      have h2 := tot_bound (z := (pairL a b cols others).map joinI) hij (fun t ht => by obtain ⟨p, h3, rfl⟩ := List.mem_map.1 ht; exact hp p h3) r
      rw [List.length_map] at h2
      have h3 : i * j * ((pairL a b cols others).length : Int) ≤ i * j * ((n * m : Nat) : Int) := Int.mul_le_mul_of_nonneg_left (by omega) hij
      omega
    obtain ⟨h1, h2, h3, h4, h5⟩ := makeR_fine hm (by
      rw [List.any_eq_false]; intro t ht
      obtain ⟨p, h3, rfl⟩ := List.mem_map.1 ht
      obtain ⟨g1, g2, _⟩ := pairL_mem h3
      have q1 := (good_made.1 ga).2 _ g1
      have q2 := (good_made.1 gb).2 _ g2
      rw [List.any_eq_false] at hs
      have q3 := hs p h3
      have q4 : okR (joinI p).row = 0 := by
        simp only [okR] at q1 q2 ⊢
        simp [longP] at q3
        rw [if_neg (by simp [joinI]; omega)]
        split at q1
        · cases q1
        · split at q1
          · split at q2
            · cases q2
            · split at q2
              · rename_i u1 _ u2
                rw [if_pos (by simp only [joinI, List.all_append, u1, u2]; rfl)]
              · cases q2
          · cases q1
      have q5 : (joinI p).w = p.1.w * p.2.w := rfl
      simp [okI, q4, q5, hok p h3]) fun r => by
        have := hbd r
        simp only [okW, inB, Bool.and_eq_true, decide_eq_true_eq]; omega
    have hg : Good out := good_made.2 ⟨h2, fun t ht => (h4 t ht).1⟩
    refine ⟨h1, hs, hg, ⟨hg, by rw [List.length_map] at h5; omega, fun r => by rw [h3]; exact hbd r⟩, fun r => by rw [h3, tot_join]⟩
theorem Fw.add {x y out : List It} {n m : Nat} {i j err : Int} (hx : Fw x n i) (hy : Fw y m j) (hij : i + j ≤ 72057594037927936) (h : AddR x y out err) : err = 0 ∧ Fw out (n + m) (i + j) ∧ ∀ r, Yt.tot r out = Yt.tot r x + Yt.tot r y := by
  rcases h with ⟨h, _⟩ | ⟨_, _, h⟩
  · exact absurd ⟨hx.good, hy.good⟩ h
  · have hok : ∀ z : List It, Good z → ∀ t ∈ z, okI t = true := fun z hz t ht => by
      have := (good_made.1 hz).2 t ht
      have h2 := ((good_made.1 hz).1.nz t ht).2
      simp [okI, this, h2]
    obtain ⟨h1, h2, h3, h4, h5⟩ := makeR_fine h (by
      rw [List.any_eq_false]; intro t ht
      rcases List.mem_append.1 ht with ht | ht
      · simp [hok _ hx.good t ht]
      · simp [hok _ hy.good t ht]) fun r => by
        rw [tot_append]
        have := hx.tot r; have := hy.tot r
        simp only [okW, inB, Bool.and_eq_true, decide_eq_true_eq]; omega
    refine ⟨h1, ⟨good_made.2 ⟨h2, fun t ht => (h4 t ht).1⟩, ?_, fun r => ?_⟩, fun r => by rw [h3, tot_append]⟩
    · rw [List.length_append] at h5
      have := hx.len; have := hy.len; omega
    · rw [h3, tot_append]
      have := hx.tot r; have := hy.tot r; omega
theorem Fw.eq {x y : List It} {n m : Nat} {i j : Int} (hx : Fw x n i) (hy : Fw y m j) (h : ∀ r, Yt.tot r x = Yt.tot r y) : x = y := made_eq (good_made.1 hx.good).1 (good_made.1 hy.good).1 h
theorem Fw.neg {x : List It} {n : Nat} {i : Int} (h : Fw x n i) : Fw (x.map negI) n i :=
  ⟨good_neg h.good, by rw [List.length_map]; exact h.len, fun r => by rw [tot_neg]; have := h.tot r; omega⟩
theorem Fw.rows {x : List It} {n : Nat} {i : Int} (h : Fw x n i) : ∀ t ∈ x, t.row.length ≤ 12 := fun t ht => by
  have := (good_made.1 h.good).2 t ht
  simp only [okR] at this
  split at this
  · cases this
  · omega
end Yt
namespace Yt
open Go Go.Vc Go.Proofs
set_option maxRecDepth 10000
set_option maxHeartbeats 8000000
set_option linter.unusedSimpArgs false
set_option linter.unusedVariables false
theorem made_tot {z : List It} {k : Int} (h : Made z) (hk : 0 ≤ k) (hw : ∀ t ∈ z, -k ≤ t.w ∧ t.w ≤ k) (r : List V) : -k ≤ tot r z ∧ tot r z ≤ k := by
  by_cases hr : ∃ t ∈ z, t.row = r
  · obtain ⟨t, ht, rfl⟩ := hr
    rw [tot_made h ht]; exact hw t ht
  · have : tot r z = 0 := tot_none fun u hu e => hr ⟨u, hu, lin_cmpR.eq _ _ e⟩
    omega
theorem good_sub {x z : List It} (h : Good z) (hs : x.Sublist z) : Good x := by
  obtain ⟨h1, h2⟩ := good_made.1 h
  exact good_made.2 ⟨⟨h1.pw.sublist hs, fun t ht => h1.nz t (hs.subset ht)⟩, fun t ht => h2 t (hs.subset ht)⟩
theorem c80 (n : Int) : Spec0 Try.prog 80 [iA n] (· = rowA (wl n)) := by
  have h : Spec1 Try.prog 80 [iA n] (fun r o => ∃ (out : List V), r = .rf 0 0 out.length ∧ o = ro3 out ∧ out = wl n) := by
    refine spec1_of_vc tabOk elems ord80 Try.func80 rfl (rl := [.tmp 2]) rfl (by kernel_rfl) rfl ?_
    (simp -implicitDefEqProofs only [go_sem, iA]; repeat (refine GO ?_; simp -implicitDefEqProofs only [go_sem, iA]))
    refine FINmk [(0, some 5)] [(2, .rf 0 0 1)] [(0, ro3 (wl n))] [0] rfl ?_ ?_
    · (simp -implicitDefEqProofs only [go_sem, ro3, wl]; repeat (refine GO ?_; simp -implicitDefEqProofs only [go_sem, ro3, wl]))
      exact .same (ro3 (wl n)) _ _ (ro3_leafy (wl n)) rfl
    · exact ⟨ro3 _, ⟨⟨wl n, rfl, rfl, rfl⟩, rfl⟩, ro3_leafy _, rfl⟩
  refine (Spec1.row1 h).mono ?_
  rintro r O' ⟨⟨⟨out, rfl, rfl⟩, hn⟩, hO⟩
  exact ⟨⟨rfl, hn⟩, hO⟩
def wj1 : List It := [⟨wl 1, 2⟩, ⟨wl 3, 2⟩]
def wj2 : List It := [⟨wl 3, 5⟩]
theorem wj1_fw : Fw wj1 2 2 := by
  have hm : Made wj1 := ⟨by simp [wj1, cI, wl_cmp, cmpI], by simp [wj1, okW, inB]⟩
  refine ⟨good_made.2 ⟨hm, fun t ht => ?_⟩, by simp [wj1], made_tot hm (by decide) (by simp [wj1])⟩
  simp only [wj1, List.mem_cons, List.not_mem_nil, or_false] at ht
  rcases ht with rfl | rfl <;> exact wl_ok _ (by decide)
theorem wj2_fw : Fw wj2 1 5 := by
  have hm : Made wj2 := ⟨List.pairwise_singleton _ _, by simp [wj2, okW, inB]⟩
  refine ⟨good_made.2 ⟨hm, fun t ht => ?_⟩, by simp [wj2], made_tot hm (by decide) (by simp [wj2])⟩
  simp only [wj2, List.mem_cons, List.not_mem_nil, or_false] at ht
  subst ht; exact wl_ok _ (by decide)
theorem cmpV_i (a b : Int) : cmpV ⟨3, a, ByteArray.empty⟩ ⟨3, b, ByteArray.empty⟩ = cmpI a b := by
  have h := wl_cmp a b
  simp only [wl, cmpR] at h
  split at h
  · rename_i h2; rw [h2]; exact h
  · exact h
theorem wl_meet (a b : Int) : meetP (wl a) (wl b) [0] [0] = decide (cmpI a b = 0) := by
  have h := cmpV_i a b
  simp [meetP, wl, inC, getV, h]
theorem wj_pairs : pairL wj1 wj2 [0] [0] = [(⟨wl 3, 2⟩, ⟨wl 3, 5⟩)] := by
  simp [pairL, wj1, wj2, wl_meet, cmpI]
theorem c29 : Spec0 Try.prog 29 [] (· = bA true) := by
  refine spec0_of_vc tabOk elems ord29 Try.func29 rfl (rl := [.tmp 0]) rfl (by kernel_rfl) rfl ?_
  (simp -implicitDefEqProofs only [go_sem]; repeat (refine GO ?_; simp -implicitDefEqProofs only [go_sem]))
  refine .pure _ (c80 1) rfl fun r hq _ => ?_
  subst hq
  (simp -implicitDefEqProofs only [go_sem]; repeat (refine GO ?_; simp -implicitDefEqProofs only [go_sem]))
  refine .pure _ (c80 3) rfl fun r hq _ => ?_
  subst hq
  (simp -implicitDefEqProofs only [go_sem]; repeat (refine GO ?_; simp -implicitDefEqProofs only [go_sem]))
  refine .pure _ (c80 3) rfl fun r hq _ => ?_
  subst hq
  simp -implicitDefEqProofs only [go_sem]
  refine FRZG 8 (so wj1) rfl (so_leafy wj1) ?_
  simp -implicitDefEqProofs only [go_sem, so]
  refine FRZG 11 (so wj2) rfl (so_leafy wj2) ?_
  simp -implicitDefEqProofs only [go_sem, so]
  refine FRZG 12 ⟨1, [[iA 0]]⟩ rfl (by simp [Ob.leafy, AV.leaf, iA]) ?_
  simp -implicitDefEqProofs only [go_sem, so]
  refine FRZ 13 ⟨1, [[iA 0]]⟩ rfl (by simp [Ob.leafy, AV.leaf, iA]) ?_
  simp -implicitDefEqProofs only [go_sem, so]
  refine .pure _ (show Spec0 Try.prog 26 [setA wj1, setA wj2, intsL [0], intsL [0]] _ from c26 wj1 wj2 [0] [0] (by decide) (by decide) (by decide) (by decide) (by decide) (by simp [wj1, wl]) (by simp [wj2, wl])) rfl fun r hq _ => ?_
  obtain ⟨z, e, rfl, hz⟩ := hq
  have hj := joinR_fine wj1_fw wj2_fw rfl (by decide) (by decide) (by decide) (by decide) hz
  have hzz : z = [⟨wl 3 ++ wl 3, 10⟩] ∧ e = 0 := by
    rcases hj with ⟨_, _, h⟩ | ⟨h1, _, _, h2, h3⟩
    · rw [wj_pairs] at h; simp [longP, wl] at h
    · have hg : Good [⟨wl 3 ++ wl 3, 10⟩] := good_made.2 ⟨⟨List.pairwise_singleton _ _, by simp [okW, inB]⟩, fun t ht => by
        simp at ht; subst ht
        have := wl_ok 3 (by decide)
        simp [okR, wl] at this ⊢; exact this⟩
      refine ⟨made_eq (good_made.1 h2.good).1 (good_made.1 hg).1 fun r => ?_, h1⟩
      rw [h3, ← tot_join, wj_pairs]
      rfl
  obtain ⟨rfl, rfl⟩ := hzz
  (simp -implicitDefEqProofs only [go_sem, setA, iA]; repeat (refine GO ?_; simp -implicitDefEqProofs only [go_sem, setA, iA]))
  repeat ((first | (refine VIF.tt ?_ ?_; (· first | rfl | (simp; done) | (simp; omega))) | (refine VIF.ff ?_ ?_; (· first | rfl | (simp; done) | (simp; omega)))); (simp -implicitDefEqProofs only [go_sem]; repeat (refine GO ?_; simp -implicitDefEqProofs only [go_sem])))
  refine ⟨by decide, EL.map (l := [(⟨wl 3 ++ wl 3, 10⟩ : It)]) (i := 0) (by simp) ?_⟩
  (simp -implicitDefEqProofs only [go_sem, It.c, iA, rowA]; repeat (refine GO ?_; simp -implicitDefEqProofs only [go_sem, It.c, iA, rowA]))
  repeat ((first | (refine VIF.tt ?_ ?_; (· first | rfl | (simp; done) | (simp; omega))) | (refine VIF.ff ?_ ?_; (· first | rfl | (simp; done) | (simp; omega)))); (simp -implicitDefEqProofs only [go_sem]; repeat (refine GO ?_; simp -implicitDefEqProofs only [go_sem])))
  refine ⟨by decide, EL.map (l := [(⟨wl 3 ++ wl 3, 10⟩ : It)]) (i := 0) (by simp) ?_⟩
  (simp -implicitDefEqProofs only [go_sem, It.c, iA, rowA]; repeat (refine GO ?_; simp -implicitDefEqProofs only [go_sem, It.c, iA, rowA]))
  repeat ((first | (refine VIF.tt ?_ ?_; (· first | rfl | (simp; done) | (simp; omega))) | (refine VIF.ff ?_ ?_; (· first | rfl | (simp; done) | (simp; omega)))); (simp -implicitDefEqProofs only [go_sem]; repeat (refine GO ?_; simp -implicitDefEqProofs only [go_sem])))
  refine ⟨by decide, EL.map (l := [(⟨wl 3 ++ wl 3, 10⟩ : It)]) (i := 0) (by simp) ?_⟩
  (simp -implicitDefEqProofs only [go_sem, It.c, iA, rowA]; repeat (refine GO ?_; simp -implicitDefEqProofs only [go_sem, It.c, iA, rowA]))
  refine ⟨by decide, EL.map (l := wl 3 ++ wl 3) (i := 1) (by simp [wl]) ?_⟩
  (simp -implicitDefEqProofs only [go_sem, V.c]; repeat (refine GO ?_; simp -implicitDefEqProofs only [go_sem, V.c]))
  simp [bA, wl]
end Yt
namespace Yt
open Go Go.Vc Go.Proofs
set_option maxRecDepth 10000
set_option maxHeartbeats 8000000
set_option linter.unusedSimpArgs false
set_option linter.unusedVariables false
/-- A join of few, as a law sees it. -/
def JoR (a b : List It) (cols others : List Int) (out : List It) (err : Int) : Prop :=
  (err = 2 ∧ out = [] ∧ (pairL a b cols others).any longP = true) ∨ (err = 0 ∧ (pairL a b cols others).any longP = false ∧ ∃ n k, Fw out n k ∧ n ≤ 2500 ∧ k ≤ 400000000000 ∧ ∀ r, tot r out = jt cols others r a b)
theorem JoR.of {a b out : List It} {cols others : List Int} {err : Int} {n m : Nat} {i j : Int} (ha : Fw a n i) (hb : Fw b m j) (hl : cols.length = others.length) (hnm : n * m ≤ 2500) (h0 : 0 < n * m) (hi : 0 ≤ i ∧ i ≤ 12000) (hj : 0 ≤ j ∧ j ≤ 12000)
    (h : JoinR a b cols others out err) : JoR a b cols others out err := by
  have h1 : i * j ≤ 12000 * 12000 := Int.mul_le_mul hi.2 hj.2 hj.1 (by decide)
  have h2 : 0 ≤ i * j := Int.mul_nonneg hi.1 hj.1
  have h3 : i * j * ((n * m : Nat) : Int) ≤ 12000 * 12000 * 2500 := Int.mul_le_mul h1 (by omega) (by omega) (by decide)
  rcases joinR_fine ha hb hl (by omega) hi.1 hj.1 h0 h with ⟨h4, h5, h7⟩ | ⟨h4, h7, _, h5, h6⟩
  · exact .inl ⟨h4, h5, h7⟩
  · exact .inr ⟨h4, h7, _, _, h5, hnm, by omega, h6⟩
theorem Fw.min {x y out : List It} {n m : Nat} {i j err : Int} (hx : Fw x n i) (hy : Fw y m j) (hij : i + j ≤ 72057594037927936) (h : MinR x y out err) : err = 0 ∧ Fw out (n + m) (i + j) ∧ ∀ r, Yt.tot r out = Yt.tot r x - Yt.tot r y := by
  have h2 : AddR x (y.map negI) out err := by
    rcases h with ⟨h, _⟩ | ⟨_, _, h⟩
    · exact absurd ⟨hx.good, hy.good⟩ h
    · exact .inr ⟨hx.good, hy.neg.good, h⟩
  obtain ⟨a, b, c⟩ := hx.add hy.neg hij h2
  exact ⟨a, b, fun r => by rw [c, tot_neg]; omega⟩
end Yt
namespace Yt
open Go Go.Vc Go.Proofs
set_option maxRecDepth 10000
set_option maxHeartbeats 8000000
set_option linter.unusedSimpArgs false
set_option linter.unusedVariables false
def two (t : It) : Bool := decide (t.row.length = 2)
end Yt
namespace Yt
open Go Go.Vc Go.Proofs
set_option maxRecDepth 10000
set_option maxHeartbeats 8000000
set_option linter.unusedSimpArgs false
set_option linter.unusedVariables false
theorem JoR.fine {a b out : List It} {cols others : List Int} {err : Int} (h : JoR a b cols others out err) (hl : (pairL a b cols others).any longP = false) :
    err = 0 ∧ ∃ n k, Fw out n k ∧ n ≤ 2500 ∧ k ≤ 400000000000 ∧ ∀ r, tot r out = jt cols others r a b := by
  rcases h with ⟨_, _, h⟩ | ⟨h, _, n, k, h1⟩
  · rw [hl] at h; cases h
  · exact ⟨h, n, k, h1⟩
theorem Fw.nil {n : Nat} {k : Int} (hk : 0 ≤ k) : Fw [] n k := ⟨good_made.2 ⟨⟨.nil, by simp⟩, by simp⟩, by simp, fun r => by simp [Yt.tot]; omega⟩
theorem Fw.pos {z : List It} {n : Nat} {k : Int} (h : Fw z n k) : 0 ≤ k := by have := h.tot []; omega
end Yt
namespace Yt
open Go Go.Vc Go.Proofs
set_option maxRecDepth 10000
set_option maxHeartbeats 8000000
set_option linter.unusedSimpArgs false
set_option linter.unusedVariables false
theorem made_rows {z : List It} (h : Made z) : z.Pairwise fun a b => a.row ≠ b.row := h.pw.imp fun {a b} hab e => by
  have := cI_eq.2 e; omega
end Yt
namespace Yt
open Go Go.Vc Go.Proofs
set_option maxRecDepth 10000
set_option maxHeartbeats 16000000
set_option linter.unusedSimpArgs false
set_option linter.unusedVariables false
end Yt
namespace Yt
open Go Go.Vc Go.Proofs
set_option maxRecDepth 10000
set_option maxHeartbeats 8000000
set_option linter.unusedSimpArgs false
set_option linter.unusedVariables false
end Yt
namespace Yt
open Go Go.Vc Go.Proofs
set_option maxRecDepth 10000
set_option maxHeartbeats 8000000
set_option linter.unusedSimpArgs false
set_option linter.unusedVariables false
end Yt
namespace Yt
open Go Go.Vc Go.Proofs
set_option maxRecDepth 10000
set_option maxHeartbeats 8000000
set_option linter.unusedSimpArgs false
set_option linter.unusedVariables false
end Yt
namespace Yt
open Go Go.Vc Go.Proofs
set_option maxRecDepth 10000
set_option maxHeartbeats 8000000
set_option linter.unusedSimpArgs false
set_option linter.unusedVariables false
end Yt
namespace Yt
open Go Go.Vc Go.Proofs
set_option maxRecDepth 10000
set_option maxHeartbeats 8000000
set_option linter.unusedSimpArgs false
set_option linter.unusedVariables false
def inVal (n : Int) : Bool := inB n (-1152921504606846976) 1152921504606846976
/-- A group. -/
structure Gp where
  at_ : List V
  items : List It
def Gp.c (g : Gp) : List AV := [rowA g.at_, setA g.items]
/-- What an aggregate adds up. -/
def sumF (kind col : Int) : List It → Int → Option Int
  | [], n => some n
  | x :: r, n => if kind = 2 ∧ (getV x.row col).k ≠ 3 then sumF kind col r n else
      if (inVal (x.w * (if kind = 2 then (getV x.row col).i else 1)) && inVal (n + x.w * (if kind = 2 then (getV x.row col).i else 1))) = true then sumF kind col r (n + x.w * (if kind = 2 then (getV x.row col).i else 1)) else none
def V.zero : V := ⟨0, 0, ByteArray.empty⟩
def bestF (kind col : Int) : List It → V → V
  | [], o => o
  | x :: r, o => if (getV x.row col).k = 1 then bestF kind col r o else
      if o.k = 1 ∨ (kind = 3 ∧ cmpV (getV x.row col) o < 0) ∨ (kind = 4 ∧ 0 < cmpV (getV x.row col) o) then bestF kind col r (getV x.row col) else bestF kind col r o
def V.nul : V := ⟨1, 0, ByteArray.empty⟩
end Yt
namespace Yt
open Go Go.Vc Go.Proofs
set_option maxRecDepth 10000
set_option maxHeartbeats 8000000
set_option linter.unusedSimpArgs false
set_option linter.unusedVariables false
end Yt
namespace Yt
open Go Go.Vc Go.Proofs Go.Lib
set_option maxRecDepth 100000
set_option maxHeartbeats 4000000
set_option linter.unusedSimpArgs false
set_option linter.unusedVariables false

end Yt
namespace Yt
open Go Go.Vc Go.Proofs Go.Lib
set_option maxRecDepth 10000
set_option linter.unusedSimpArgs false
set_option linter.unusedVariables false
end Yt
namespace Go.Vc
section
variable {α : Type} {st : St} {m : List (Nat × Option Nat)}
theorem Es_all {l l' : List (List AV)} (hl : l.length = l'.length) (h : ∀ i (h1 : i < l.length) (h2 : i < l'.length), wk.wks st m l[i] l'[i]) : Es st m l l' := by
  induction l generalizing l' with
  | nil =>
    cases l' with
    | nil => exact .nil
    | cons y r => cases hl
  | cons x r ih =>
    cases l' with
    | nil => cases hl
    | cons y r' => exact .cons (h 0 (by simp) (by simp)) (ih (by simpa using hl) fun i h1 h2 => h (i + 1) (Nat.succ_lt_succ h1) (Nat.succ_lt_succ h2))
end
end Go.Vc
namespace Yt
open Go Go.Vc Go.Proofs
set_option maxRecDepth 10000
set_option maxHeartbeats 8000000
set_option linter.unusedSimpArgs false
set_option linter.unusedVariables false
/-- Orders in raddle/agg.groups. -/
def og107 : Ords
  | 10 => some (.fork [(0, some false, false, false), (1, some false, false, false), (2, some false, false, false), (3, some false, false, false), (7, some false, false, false)] 4 (.fork [(5, some false, false, false)] 6 (.lin [(8, none, false, false), (9, none, false, false), (10, some false, false, false), (11, some false, false, false), (12, none, false, false)]) 8 (.lin [(6, some false, false, false), (9, none, false, false), (10, some false, false, false), (11, some false, false, false), (12, none, false, false)])) 8 (.lin [(4, some false, false, false), (5, some false, false, false), (6, some false, false, false), (9, none, false, false), (10, some false, false, false), (11, some false, false, false), (12, none, false, false)]))
  | _ => none
@[go_sem] theorem og107_0 : og107 0 = none := rfl
@[go_sem] theorem og107_1 : og107 1 = none := rfl
@[go_sem] theorem og107_2 : og107 2 = none := rfl
@[go_sem] theorem og107_3 : og107 3 = none := rfl
@[go_sem] theorem og107_4 : og107 4 = none := rfl
@[go_sem] theorem og107_5 : og107 5 = none := rfl
@[go_sem] theorem og107_6 : og107 6 = none := rfl
@[go_sem] theorem og107_7 : og107 7 = none := rfl
@[go_sem] theorem og107_8 : og107 8 = none := rfl
@[go_sem] theorem og107_9 : og107 9 = none := rfl
@[go_sem] theorem og107_10 : og107 10 = some (.fork [(0, some false, false, false), (1, some false, false, false), (2, some false, false, false), (3, some false, false, false), (7, some false, false, false)] 4 (.fork [(5, some false, false, false)] 6 (.lin [(8, none, false, false), (9, none, false, false), (10, some false, false, false), (11, some false, false, false), (12, none, false, false)]) 8 (.lin [(6, some false, false, false), (9, none, false, false), (10, some false, false, false), (11, some false, false, false), (12, none, false, false)])) 8 (.lin [(4, some false, false, false), (5, some false, false, false), (6, some false, false, false), (9, none, false, false), (10, some false, false, false), (11, some false, false, false), (12, none, false, false)])) := rfl
@[go_sem] theorem og107_11 : og107 11 = none := rfl
@[go_sem] theorem og107_12 : og107 12 = none := rfl
/-- The groups of what was met so far. -/
structure GpI (cols : List Int) (y : List It) (gs : List Gp) : Prop where
  up : gs.Pairwise fun a b => cmpR a.at_ b.at_ < 0
  items : ∀ g ∈ gs, g.items = y.filter fun t => !decide (t.w < 0) && decide (cmpR (pickR t.row cols) g.at_ = 0)
  some : ∀ g ∈ gs, g.items ≠ []
  all : ∀ t ∈ y, ¬ t.w < 0 → ∃ g ∈ gs, g.at_ = pickR t.row cols
theorem GpI.nil (cols : List Int) : GpI cols [] [] := ⟨.nil, by simp, by simp, by simp⟩
/-- A group's cells, its items being an object. -/
theorem GpI.skip {cols : List Int} {y : List It} {gs : List Gp} (h : GpI cols y gs) {t : It} (ht : t.w < 0) : GpI cols (y ++ [t]) gs :=
  { up := h.up
    items := fun g hg => by rw [h.items g hg, List.filter_append]; simp [ht]
    some := h.some
    all := fun u hu hw => by
      rcases List.mem_append.1 hu with hu | hu
      · exact h.all u hu hw
      · simp at hu; subst hu; exact absurd ht hw }
theorem cmpR_self (a : List V) : cmpR a a = 0 := lin_cmpR.self a
theorem GpI.get {cols : List Int} {y : List It} {gs : List Gp} (h : GpI cols y gs) {i j : Nat} (hi : i < gs.length) (hj : j < gs.length) (hij : i < j) : cmpR gs[i].at_ gs[j].at_ < 0 :=
  List.pairwise_iff_getElem.1 h.up i j hi hj hij
theorem GpI.add {cols : List Int} {y : List It} {gs : List Gp} (h : GpI cols y gs) {t : It} (ht : ¬ t.w < 0) {k : Nat} (hk : k < gs.length) (he : cmpR gs[k].at_ (pickR t.row cols) = 0) :
    GpI cols (y ++ [t]) (gs.set k ⟨gs[k].at_, gs[k].items ++ [t]⟩) := by
  have hkey : pickR t.row cols = gs[k].at_ := (lin_cmpR.eq _ _ he).symm
  have hat : ∀ j (hj : j < gs.length), ((gs.set k ⟨gs[k].at_, gs[k].items ++ [t]⟩)[j]'(by simpa using hj)).at_ = gs[j].at_ := fun j hj => by
    rw [List.getElem_set]; split
    · subst_vars; rfl
    · rfl
  refine { up := ?_, items := fun g hg => ?_, some := fun g hg => ?_, all := fun u hu hw => ?_ }
  · rw [List.pairwise_iff_getElem]
    intro i j hi hj hij
    have hi' : i < gs.length := by simpa using hi
    have hj' : j < gs.length := by simpa using hj
    rw [hat i hi', hat j hj']; exact h.get hi' hj' hij
  · obtain ⟨j, hj, rfl⟩ := List.mem_iff_getElem.1 hg
    have hj' : j < gs.length := by simpa using hj
    have hm := List.getElem_mem hj'
    rw [hat j hj', List.filter_append, ← h.items _ hm, List.getElem_set]
    by_cases e : k = j
    · subst e
      rw [if_pos rfl]
      simp [ht, hkey, cmpR_self]
    · rw [if_neg e]
      have hne : cmpR (pickR t.row cols) gs[j].at_ ≠ 0 := fun h0 => by
        have := lin_cmpR.eq _ _ h0
        rcases Nat.lt_or_gt_of_ne e with h1 | h1
        · have h2 := h.get hk hj' h1; rw [← hkey, this, cmpR_self] at h2; omega
        · have h2 := h.get hj' hk h1; rw [← hkey, this, cmpR_self] at h2; omega
      simp [hne]
  · obtain ⟨j, hj, rfl⟩ := List.mem_iff_getElem.1 hg
    rw [List.getElem_set]
    split
    · simp
    · exact h.some _ (List.getElem_mem _)
  · have tr : ∀ j (hj : j < gs.length), gs[j].at_ = pickR u.row cols → ∃ g ∈ gs.set k ⟨gs[k].at_, gs[k].items ++ [t]⟩, g.at_ = pickR u.row cols := fun j hj e =>
      ⟨_, List.getElem_mem (by simpa using hj), by rw [hat j hj]; exact e⟩
    rcases List.mem_append.1 hu with hu | hu
    · obtain ⟨g, hg, e⟩ := h.all u hu hw
      obtain ⟨j, hj, rfl⟩ := List.mem_iff_getElem.1 hg
      exact tr j hj e
    · simp at hu; subst hu
      exact tr k hk hkey.symm
theorem GpI.ins {cols : List Int} {y : List It} {gs : List Gp} (h : GpI cols y gs) {t : It} (ht : ¬ t.w < 0) {k : Nat} (hk : k ≤ gs.length) (h1 : ∀ j (h : j < gs.length), j < k → cmpR gs[j].at_ (pickR t.row cols) < 0)
    (h2 : ∀ j (h : j < gs.length), k ≤ j → 0 < cmpR gs[j].at_ (pickR t.row cols)) : GpI cols (y ++ [t]) (gs.take k ++ ⟨pickR t.row cols, [t]⟩ :: gs.drop k) := by
  have lo : ∀ g ∈ gs.take k, cmpR g.at_ (pickR t.row cols) < 0 := fun g hg => by
    obtain ⟨j, hj, rfl⟩ := List.mem_iff_getElem.1 hg
    have hj' : j < k ∧ j < gs.length := by rw [List.length_take] at hj; omega
    rw [List.getElem_take]; exact h1 j hj'.2 hj'.1
  have hi : ∀ g ∈ gs.drop k, cmpR (pickR t.row cols) g.at_ < 0 := fun g hg => by
    obtain ⟨j, hj, rfl⟩ := List.mem_iff_getElem.1 hg
    simp at hj
    rw [List.getElem_drop]
    have := h2 (k + j) (by omega) (by omega)
    rw [lin_cmpR.neg]; omega
  have ne : ∀ g ∈ gs, cmpR (pickR t.row cols) g.at_ ≠ 0 := fun g hg h0 => by
    have e := lin_cmpR.eq _ _ h0
    rw [← List.take_append_drop k gs] at hg
    rcases List.mem_append.1 hg with hg | hg
    · have := lo g hg; rw [e, cmpR_self] at this; omega
    · have := hi g hg; rw [← e, cmpR_self] at this; omega
  have mem : ∀ g, g ∈ gs.take k ++ ⟨pickR t.row cols, [t]⟩ :: gs.drop k ↔ g = ⟨pickR t.row cols, [t]⟩ ∨ g ∈ gs := fun g => by
    constructor
    · intro hg
      rcases List.mem_append.1 hg with hg | hg
      · exact .inr (List.mem_of_mem_take hg)
      · rcases List.mem_cons.1 hg with hg | hg
        · exact .inl hg
        · exact .inr (List.mem_of_mem_drop hg)
    · rintro (rfl | hg)
      · simp
      · rw [← List.take_append_drop k gs] at hg
        rcases List.mem_append.1 hg with hg | hg
        · exact List.mem_append_left _ hg
        · exact List.mem_append_right _ (List.mem_cons_of_mem _ hg)
  refine { up := ?_, items := fun g hg => ?_, some := fun g hg => ?_, all := fun u hu hw => ?_ }
  · have hu := h.up
    rw [← List.take_append_drop k gs, List.pairwise_append] at hu
    rw [List.pairwise_append, List.pairwise_cons]
    refine ⟨hu.1, ⟨hi, hu.2.1⟩, fun a ha b hb => ?_⟩
    rcases List.mem_cons.1 hb with rfl | hb
    · exact lo a ha
    · exact hu.2.2 a ha b hb
  · rcases (mem g).1 hg with rfl | hg
    · have : (y.filter fun u => !decide (u.w < 0) && decide (cmpR (pickR u.row cols) (pickR t.row cols) = 0)) = [] := by
        rw [List.filter_eq_nil_iff]
        intro u hu hc
        simp at hc
        obtain ⟨g, hg, e⟩ := h.all u hu (by omega)
        refine ne g hg ?_
        rw [e, lin_cmpR.eq _ _ hc.2, cmpR_self]
      rw [List.filter_append, this]
      simp [ht, cmpR_self]
    · rw [List.filter_append, ← h.items g hg]
      simp [ne g hg]
  · rcases (mem g).1 hg with rfl | hg
    · simp
    · exact h.some g hg
  · rcases List.mem_append.1 hu with hu | hu
    · obtain ⟨g, hg, e⟩ := h.all u hu hw
      exact ⟨g, (mem g).2 (.inr hg), e⟩
    · simp at hu; subst hu
      exact ⟨_, (mem _).2 (.inl rfl), rfl⟩
theorem lent_leafy {objs : Nat → Option Ob} {id : Nat} {o : Ob} {len : Nat} {es : List (List AV)} (ho : objs id = some o) (hes : o.es = es) (hl : es.length = len) (hleaf : o.leafy) (hr : ∀ x ∈ es, x.length = o.sz) : Lent objs (.rf id 0 len) (.im o.sz es) := by
  subst hes; subst hl
  refine .rf ho (by rw [List.drop_zero, List.take_length]) rfl hr (fun i j a' h => leafy_get hleaf h) fun i j a a' h h' => ?_
  rw [h] at h'; cases h'
  exact .same (leaf_noId (leafy_get hleaf h))
theorem EL.mid {l : List (List AV)} {x : List AV} {k : Nat} {K : List AV → Prop} (h : k ≤ l.length) (hK : K x) : EL (List.take k l ++ x :: List.drop k l) k K :=
  ⟨x, by rw [List.getElem?_append_right (by simp; omega)]; simp [Nat.min_eq_left h], hK⟩
end Yt
namespace Yt
open Go Go.Vc Go.Proofs
set_option maxRecDepth 10000
set_option maxHeartbeats 8000000
set_option linter.unusedSimpArgs false
set_option linter.unusedVariables false
/-- What is told of a group; none: it is beyond. -/
def gval (kind col : Int) (g : Gp) : Option V := if kind = 1 ∨ kind = 2 then (sumF kind col g.items 0).map fun n => ⟨3, n, ByteArray.empty⟩ else some (bestF kind col g.items V.nul)
def gItem (kind col : Int) (g : Gp) : It := ⟨g.at_ ++ [(gval kind col g).getD V.zero], 1⟩
def Wr0 (z : List It) (cols : List Int) (kind col : Int) : Prop := Good z ∧ 1 ≤ kind ∧ kind ≤ 4 ∧ cols.length < 12 ∧ ∀ t ∈ z, pickE t.row cols = 0 ∧ (kind ≠ 1 → inC col t.row.length = true)
def GroupR (z : List It) (cols : List Int) (kind col : Int) (out : List It) (err : Int) : Prop :=
  (¬ Wr0 z cols kind col ∧ out = [] ∧ (err = 1 ∨ err = 2) ∧ (err = 2 ↔ Good z ∧ 1 ≤ kind ∧ kind ≤ 4 ∧ 12 ≤ cols.length)) ∨
  (Wr0 z cols kind col ∧ ∃ gs, GpI cols z gs ∧ gs.length ≤ z.length ∧ (((∃ g ∈ gs, gval kind col g = none) ∧ out = [] ∧ err = 11) ∨ ((∀ g ∈ gs, gval kind col g ≠ none) ∧ MakeR (gs.map (gItem kind col)) out err)))
theorem GpI.atlen {cols : List Int} {y : List It} {gs : List Gp} (h : GpI cols y gs) : ∀ g ∈ gs, g.at_.length = cols.length := fun g hg => by
  obtain ⟨t, ht⟩ := List.exists_mem_of_ne_nil _ (h.some g hg)
  rw [h.items g hg, List.mem_filter] at ht
  have h4 : cmpR (pickR t.row cols) g.at_ = 0 := by have := ht.2; simp at this; exact this.2
  rw [← lin_cmpR.eq _ _ h4]; simp [pickR]
end Yt
namespace Yt
open Go Go.Vc Go.Proofs
set_option maxRecDepth 10000
set_option maxHeartbeats 8000000
set_option linter.unusedSimpArgs false
set_option linter.unusedVariables false
end Yt
namespace Yt
open Go Go.Vc Go.Proofs
set_option maxRecDepth 10000
set_option maxHeartbeats 1000000
set_option linter.unusedSimpArgs false
set_option linter.unusedVariables false
/-- A small set, of rows of two columns at least, of small numbers. -/
structure Wd (z : List It) (n : Nat) (b : Int) : Prop where
  good : Good z
  len : z.length ≤ 40 * n
  tot : ∀ r, -(120 * (n : Int)) ≤ Yt.tot r z ∧ Yt.tot r z ≤ 120 * n
  two : ∀ t ∈ z, 2 ≤ t.row.length
  num : ∀ t ∈ z, ∀ v ∈ t.row, v.k = 3 → -b ≤ v.i ∧ v.i ≤ b
theorem Wd.made {z : List It} {n : Nat} {b : Int} (h : Wd z n b) : Made z := (good_made.1 h.good).1
theorem Wd.ok {z : List It} {n : Nat} {b : Int} (h : Wd z n b) {t : It} (ht : t ∈ z) : okR t.row = 0 := (good_made.1 h.good).2 t ht
theorem Wd.w {z : List It} {n : Nat} {b : Int} (h : Wd z n b) : ∀ t ∈ z, -(120 * (n : Int)) ≤ t.w ∧ t.w ≤ 120 * n := fun t ht => by
  rw [← tot_made h.made ht]; exact h.tot _
theorem okR_all {r : List V} : okR r = 0 ↔ r.length ≤ 12 ∧ ∀ v ∈ r, okV v = true := by
  simp only [okR]
  split
  · simp; omega
  · split
    · rename_i h1 h2; simp at h2; simp; exact ⟨by omega, h2⟩
    · rename_i h1 h2; simp at h2; simp; obtain ⟨v, hv, hv2⟩ := h2; exact fun _ => ⟨v, hv, hv2⟩
theorem Wd.sub {x z : List It} {n : Nat} {b : Int} (h : Wd z n b) (hs : x.Sublist z) : Wd x n b :=
  ⟨good_sub h.good hs, by have := hs.length_le; have := h.len; omega, made_tot (good_made.1 (good_sub h.good hs)).1 (by omega) fun t ht => h.w t (hs.subset ht), fun t ht => h.two t (hs.subset ht), fun t ht => h.num t (hs.subset ht)⟩
theorem Wd.nil (n : Nat) (b : Int) : Wd [] n b := ⟨good_made.2 ⟨⟨.nil, by simp⟩, by simp⟩, by simp, fun r => by simp [Yt.tot]; omega, by simp, by simp⟩
theorem Wd.add {x y out : List It} {i j : Nat} {b err : Int} (hx : Wd x i b) (hy : Wd y j b) (hij : i + j ≤ 100) (h : AddR x y out err) : err = 0 ∧ Wd out (i + j) b ∧ ∀ r, Yt.tot r out = Yt.tot r x + Yt.tot r y := by
  have hm : MakeR (x ++ y) out err := by
    rcases h with ⟨h, _⟩ | ⟨_, _, h⟩
    · exact absurd ⟨hx.good, hy.good⟩ h
    · exact h
  have hfine : ((x ++ y).any fun t => !okI t) = false := by
    rw [List.any_eq_false]; intro t ht
    rcases List.mem_append.1 ht with ht | ht
    · simp [okI, hx.ok ht, (hx.made.nz t ht).2]
    · simp [okI, hy.ok ht, (hy.made.nz t ht).2]
  have hb : ∀ r, -(120 * ((i + j : Nat) : Int)) ≤ Yt.tot r (x ++ y) ∧ Yt.tot r (x ++ y) ≤ 120 * ((i + j : Nat) : Int) := fun r => by
    have h1 := hx.tot r
    have h2 := hy.tot r
    rw [tot_append]; omega
  obtain ⟨h1, h2, h3, h4, h5⟩ := makeR_fine hm hfine fun r => by
    have := hb r
    simp only [okW, inB, Bool.and_eq_true, decide_eq_true_eq]; omega
  have hu : ∀ t ∈ out, ∃ u ∈ x ++ y, u.row = t.row := fun t ht => (h4 t ht).2
  refine ⟨h1, ⟨good_made.2 ⟨h2, fun t ht => (h4 t ht).1⟩, ?_, fun r => by rw [h3]; exact hb r, fun t ht => ?_, fun t ht => ?_⟩, fun r => by rw [h3, tot_append]⟩
  · have := hx.len; have := hy.len
    rw [List.length_append] at h5; omega
  · obtain ⟨u, hu, e⟩ := hu t ht
    rw [← e]
    rcases List.mem_append.1 hu with hu | hu
    · exact hx.two u hu
    · exact hy.two u hu
  · obtain ⟨u, hu, e⟩ := hu t ht
    rw [← e]
    rcases List.mem_append.1 hu with hu | hu
    · exact hx.num u hu
    · exact hy.num u hu
/-- The keys of groups, as a set. -/
def keyL (gs : List Gp) : List It := gs.map fun g => ⟨g.at_, 1⟩
theorem keyL_made {cols : List Int} {y : List It} {gs : List Gp} (h : GpI cols y gs) : Made (keyL gs) :=
  ⟨by rw [keyL, List.pairwise_map]; exact h.up, fun t ht => by
    obtain ⟨g, _, rfl⟩ := List.mem_map.1 ht
    exact ⟨by simp, by simp [okW, inB]⟩⟩
theorem tot_one {o : List It} (h : Made o) (h1 : ∀ t ∈ o, t.w = 1) (r : List V) : (tot r o = 1 ∧ ∃ t ∈ o, t.row = r) ∨ (tot r o = 0 ∧ ¬ ∃ t ∈ o, t.row = r) := by
  by_cases e : ∃ t ∈ o, t.row = r
  · obtain ⟨t, ht, rfl⟩ := e
    exact .inl ⟨by rw [tot_made h ht, h1 t ht], t, ht, rfl⟩
  · refine .inr ⟨?_, e⟩
    have := tot_there h r
    by_cases e2 : tot r o = 0
    · exact e2
    · exact absurd (this.1 e2) e
theorem ones_eq {x y : List It} (hx : Made x) (hy : Made y) (h1 : ∀ t ∈ x, t.w = 1) (h2 : ∀ t ∈ y, t.w = 1) (h : ∀ r, (∃ t ∈ x, t.row = r) ↔ ∃ t ∈ y, t.row = r) : x = y :=
  made_eq hx hy fun r => by
    rcases tot_one hx h1 r with ⟨a, b⟩ | ⟨a, b⟩ <;> rcases tot_one hy h2 r with ⟨c, d⟩ | ⟨c, d⟩
    · rw [a, c]
    · exact absurd ((h r).1 b) d
    · exact absurd ((h r).2 d) b
    · rw [a, c]
theorem keyL_one {gs : List Gp} : ∀ t ∈ keyL gs, t.w = 1 := fun t ht => by
  obtain ⟨g, _, rfl⟩ := List.mem_map.1 ht; rfl
theorem GpI.has {cols : List Int} {y : List It} {gs : List Gp} (h : GpI cols y gs) (r : List V) : (∃ g ∈ gs, g.at_ = r) ↔ ∃ t ∈ y, ¬ t.w < 0 ∧ pickR t.row cols = r := by
  constructor
  · rintro ⟨g, hg, rfl⟩
    obtain ⟨t, ht⟩ := List.exists_mem_of_ne_nil _ (h.some g hg)
    rw [h.items g hg, List.mem_filter] at ht
    obtain ⟨h1, h2⟩ := ht
    simp at h2
    exact ⟨t, h1, by omega, lin_cmpR.eq _ _ h2.2⟩
  · rintro ⟨t, ht, hw, rfl⟩
    exact h.all t ht hw
theorem keyL_has {gs : List Gp} (r : List V) : (∃ t ∈ keyL gs, t.row = r) ↔ ∃ g ∈ gs, g.at_ = r := by
  constructor
  · rintro ⟨t, ht, e⟩
    obtain ⟨g, hg, rfl⟩ := List.mem_map.1 ht
    exact ⟨g, hg, e⟩
  · rintro ⟨g, hg, e⟩
    exact ⟨_, List.mem_map_of_mem hg, e⟩
/-- The group of a key. -/
def gOf (cols : List Int) (y : List It) (k : List V) : Gp := ⟨k, y.filter fun t => !decide (t.w < 0) && decide (cmpR (pickR t.row cols) k = 0)⟩
theorem GpI.canon {cols : List Int} {y : List It} {gs : List Gp} (h : GpI cols y gs) : gs = (keyL gs).map fun t => gOf cols y t.row := by
  rw [keyL, List.map_map]
  conv => lhs; rw [← List.map_id gs]
  refine List.map_congr_left fun g hg => ?_
  simp only [id, Function.comp, gOf]
  rw [← h.items g hg]
/-- Groups are those of any set with the same items behind each key. -/
theorem GpI.same {cols : List Int} {y y' : List It} {gs gs' : List Gp} (h : GpI cols y gs) (h' : GpI cols y' gs') (hk : ∀ r, (∃ t ∈ y, ¬ t.w < 0 ∧ pickR t.row cols = r) ↔ ∃ t ∈ y', ¬ t.w < 0 ∧ pickR t.row cols = r)
    (hi : ∀ r, gOf cols y r = gOf cols y' r) : gs = gs' := by
  rw [h.canon, h'.canon]
  have : keyL gs = keyL gs' := ones_eq (keyL_made h) (keyL_made h') keyL_one keyL_one fun r => by rw [keyL_has, keyL_has, h.has, h'.has, hk]
  rw [this]
  exact List.map_congr_left fun t _ => hi _
/-- What an item adds to a sum. -/
def sumT (kind col : Int) (t : It) : Int := if kind = 2 then (if (getV t.row col).k = 3 then t.w * (getV t.row col).i else 0) else t.w
theorem sumF_some {kind col B : Int} (hB : 0 ≤ B) : ∀ (l : List It) (n : Int), (∀ t ∈ l, -B ≤ sumT kind col t ∧ sumT kind col t ≤ B) → -1152921504606846976 ≤ n - B * l.length → n + B * l.length ≤ 1152921504606846976 →
    sumF kind col l n = some (n + (l.map (sumT kind col)).sum)
  | [], n, _, _, _ => by simp [sumF]
  | t :: l, n, h, h1, h2 => by
    have ht := h t (by simp)
    have e : B * ((t :: l).length : Int) = B * l.length + B := by rw [List.length_cons, Int.natCast_add, Int.mul_add]; simp
    rw [e] at h1 h2
    have hp : 0 ≤ B * (l.length : Int) := Int.mul_nonneg hB (by omega)
    have ih := fun m h3 h4 => sumF_some (kind := kind) (col := col) hB l m (fun u hu => h u (by simp [hu])) h3 h4
    simp only [sumF]
    by_cases hk : kind = 2 ∧ (getV t.row col).k ≠ 3
    · rw [if_pos hk, ih n (by omega) (by omega)]
      have : sumT kind col t = 0 := by rw [sumT, if_pos hk.1, if_neg hk.2]
      simp [this]
    · rw [if_neg hk]
      have e2 : sumT kind col t = t.w * (if kind = 2 then (getV t.row col).i else 1) := by
        simp only [sumT]
        by_cases e3 : kind = 2
        · simp [e3] at hk ⊢
          exact fun h => absurd hk h
        · simp [e3]
      rw [← e2]
      have e4 : (inVal (sumT kind col t) && inVal (n + sumT kind col t)) = true := by
        simp only [inVal, inB, Bool.and_eq_true, decide_eq_true_eq]; omega
      rw [if_pos e4, ih _ (by omega) (by omega)]
      simp only [List.map_cons, List.sum_cons]
      congr 1; omega
theorem cmpR_app : ∀ (a b x y : List V), a.length = b.length → cmpR a b ≠ 0 → cmpR (a ++ x) (b ++ y) = cmpR a b
  | [], [], _, _, _, h => absurd rfl h
  | [], _ :: _, _, _, h, _ => by cases h
  | _ :: _, [], _, _, h, _ => by cases h
  | u :: a, v :: b, x, y, h, hn => by
    simp only [List.cons_append, cmpR] at hn ⊢
    split
    · rename_i e
      rw [if_pos e] at hn
      exact cmpR_app a b x y (by simpa using h) hn
    · rfl
theorem inC_of {col : Int} {n : Nat} (h : col = 0 ∨ col = 1) (hn : 2 ≤ n) : inC col n = true := by
  rcases h with rfl | rfl <;> simp [inC] <;> omega
theorem getV_mem {r : List V} {c : Int} (h : inC c r.length = true) : getV r c ∈ r := by
  simp only [inC, Bool.and_eq_true, decide_eq_true_eq] at h
  have : c.toNat < r.length := by omega
  simp only [getV, List.getElem?_eq_getElem this, Option.getD_some]
  exact List.getElem_mem this
theorem pickE_of {r : List V} {cols : List Int} (hc : ∀ c ∈ cols, c = 0 ∨ c = 1) (hl : cols.length ≤ 12) (hr : 2 ≤ r.length) : pickE r cols = 0 := by
  simp only [pickE]
  have : cols.any (outC r.length) = false := by
    rw [List.any_eq_false]; intro c hcm
    simp only [outC, Bool.or_eq_true, decide_eq_true_eq]; have := hc c hcm; omega
  rw [this, if_neg (by decide), if_neg (by omega)]
theorem bestF_mem (kind col : Int) : ∀ (l : List It) (o : V), bestF kind col l o = o ∨ ∃ t ∈ l, bestF kind col l o = getV t.row col
  | [], o => .inl rfl
  | t :: l, o => by
    simp only [bestF]
    have lift : ∀ o', (bestF kind col l o' = o' ∨ ∃ u ∈ l, bestF kind col l o' = getV u.row col) → o' = o ∨ o' = getV t.row col → bestF kind col l o' = o ∨ ∃ u ∈ t :: l, bestF kind col l o' = getV u.row col := by
      rintro o' (h | ⟨u, hu, h⟩) h2
      · rcases h2 with h2 | h2
        · exact .inl (h.trans h2)
        · exact .inr ⟨t, by simp, h.trans h2⟩
      · exact .inr ⟨u, by simp [hu], h⟩
    split
    · exact lift o (bestF_mem kind col l o) (.inl rfl)
    · split
      · exact lift _ (bestF_mem kind col l _) (.inr rfl)
      · exact lift o (bestF_mem kind col l o) (.inl rfl)
theorem sum_bound {f : It → Int} {B : Int} : ∀ (l : List It), (∀ t ∈ l, -B ≤ f t ∧ f t ≤ B) → -(B * l.length) ≤ (l.map f).sum ∧ (l.map f).sum ≤ B * l.length
  | [], _ => by simp
  | t :: l, h => by
    have ht := h t (by simp)
    have ih := sum_bound l fun u hu => h u (by simp [hu])
    have e : B * ((t :: l).length : Int) = B * l.length + B := by rw [List.length_cons, Int.natCast_add, Int.mul_add]; simp
    rw [e]
    simp only [List.map_cons, List.sum_cons]
    omega
/-- What is asked of a small set's groups. -/
structure Ask (cols : List Int) (kind col : Int) : Prop where
  k1 : 1 ≤ kind
  k2 : kind ≤ 4
  len : cols.length ≤ 1
  cs : ∀ c ∈ cols, c = 0 ∨ c = 1
  col : col = 0 ∨ col = 1
theorem Ask.term {cols : List Int} {kind col : Int} (a : Ask cols kind col) {z : List It} {n : Nat} {b : Int} (h : Wd z n b) (hn : n ≤ 20) (hb : 1 ≤ b ∧ b ≤ 10000000) : ∀ t ∈ z, -(2400 * b) ≤ sumT kind col t ∧ sumT kind col t ≤ 2400 * b := fun t ht => by
  have hw := h.w t ht
  simp only [sumT]
  split
  · split
    · rename_i h3
      have hm := h.num t ht _ (getV_mem (inC_of a.col (h.two t ht))) h3
      have := mul_small (x := t.w) (y := (getV t.row col).i) (i := 2400) (j := b) (by omega) hm
      omega
    · omega
  · omega
theorem Ask.sums {cols : List Int} {kind col : Int} (a : Ask cols kind col) {z : List It} {n : Nat} {b : Int} (h : Wd z n b) (hn : n ≤ 20) (hb : 1 ≤ b ∧ b ≤ 10000000) {l : List It} (hl : l.length ≤ z.length) (hm : ∀ t ∈ l, t ∈ z) :
    sumF kind col l 0 = some ((l.map (sumT kind col)).sum) ∧ -(1920000 * b) ≤ (l.map (sumT kind col)).sum ∧ (l.map (sumT kind col)).sum ≤ 1920000 * b := by
  have ht : ∀ t ∈ l, -(2400 * b) ≤ sumT kind col t ∧ sumT kind col t ≤ 2400 * b := fun t ht => a.term h hn hb t (hm t ht)
  have hz := h.len
  have h1 : 2400 * b * (l.length : Int) ≤ 2400 * b * 800 := Int.mul_le_mul_of_nonneg_left (by omega) (by omega)
  have h2 := sumF_some (kind := kind) (col := col) (B := 2400 * b) (by omega) l 0 ht (by omega) (by omega)
  have h3 := sum_bound (f := sumT kind col) l ht
  exact ⟨by rw [h2, Int.zero_add], by omega, by omega⟩
/-- Of a small set: groups are told. -/
theorem Ask.group {cols : List Int} {kind col : Int} (a : Ask cols kind col) {z out : List It} {n : Nat} {b err : Int} (h : Wd z n b) (hn : n ≤ 20) (hb : 1 ≤ b ∧ b ≤ 10000000) (hg : GroupR z cols kind col out err) :
    err = 0 ∧ ∃ gs, GpI cols z gs ∧ out = gs.map (gItem kind col) ∧ (∀ g ∈ gs, gval kind col g ≠ none) ∧ Made out ∧ (∀ t ∈ out, okR t.row = 0) ∧ gs.length ≤ z.length := by
  have hw : Wr0 z cols kind col := ⟨h.good, a.k1, a.k2, by have := a.len; omega, fun t ht => ⟨pickE_of a.cs (by have := a.len; omega) (h.two t ht), fun _ => inC_of a.col (h.two t ht)⟩⟩
  rcases hg with ⟨hno, _⟩ | ⟨_, gs, hgs, hgl, hg⟩
  · exact absurd hw hno
  have hit : ∀ g ∈ gs, g.items.length ≤ z.length ∧ ∀ t ∈ g.items, t ∈ z := fun g hgm => by
    rw [hgs.items g hgm]
    exact ⟨List.length_filter_le _ _, fun t ht => (List.mem_filter.1 ht).1⟩
  have hval : ∀ g ∈ gs, ∃ v, gval kind col g = some v ∧ okV v = true := fun g hgm => by
    simp only [gval]
    split
    · obtain ⟨e1, e2, e3⟩ := a.sums h hn hb (hit g hgm).1 (hit g hgm).2
      rw [e1]
      refine ⟨_, rfl, ?_⟩
      simp only [okV, inB]
      simp
      exact ⟨by omega, rfl⟩
    · refine ⟨_, rfl, ?_⟩
      rcases bestF_mem kind col g.items V.nul with e | ⟨t, ht, e⟩
      · rw [e]; decide
      · rw [e]
        have htz := (hit g hgm).2 t ht
        exact (okR_all.1 (h.ok htz)).2 _ (getV_mem (inC_of a.col (h.two t htz)))
  have hnn : ∀ g ∈ gs, gval kind col g ≠ none := fun g hgm => by obtain ⟨v, e, _⟩ := hval g hgm; rw [e]; simp
  have hat : ∀ g ∈ gs, ∃ t ∈ z, g.at_ = pickR t.row cols := fun g hgm => by
    obtain ⟨t, ht, _, e⟩ := (hgs.has g.at_).1 ⟨g, hgm, rfl⟩
    exact ⟨t, ht, e.symm⟩
  have hrow : ∀ t ∈ gs.map (gItem kind col), okR t.row = 0 := fun t ht => by
    obtain ⟨g, hgm, rfl⟩ := List.mem_map.1 ht
    obtain ⟨v, hv, hv2⟩ := hval g hgm
    obtain ⟨u, hu, e⟩ := hat g hgm
    have h1 := pick_row (pickE_of a.cs (by have := a.len; omega) (h.two u hu)) (h.ok hu)
    rw [← e] at h1
    simp only [gItem, hv, Option.getD_some]
    have h2 : g.at_.length = cols.length := by rw [e]; simp [pickR]
    refine okR_all.2 ⟨by have := a.len; simp; omega, fun w hw => ?_⟩
    rcases List.mem_append.1 hw with hw | hw
    · exact (okR_all.1 h1.1).2 w hw
    · simp at hw; subst hw; exact hv2
  have hmade : Made (gs.map (gItem kind col)) := by
    refine ⟨?_, fun t ht => ?_⟩
    · rw [List.pairwise_map]
      refine List.Pairwise.imp_of_mem ?_ hgs.up
      intro x y hx hy hxy
      have e1 := hgs.atlen x hx
      have e2 := hgs.atlen y hy
      simp only [cI, gItem]
      rw [cmpR_app _ _ _ _ (by omega) (by omega)]; exact hxy
    · obtain ⟨g, _, rfl⟩ := List.mem_map.1 ht
      exact ⟨by simp [gItem], by simp [gItem]; decide⟩
  rcases hg with ⟨⟨g, hgm, hno⟩, _⟩ | ⟨_, hm⟩
  · exact absurd hno (hnn g hgm)
  · obtain ⟨h1, h2⟩ := makeR_ok hm (by
      rw [List.any_eq_false]; intro t ht
      simp [okI, hrow t ht, (hmade.nz t ht).2]) hmade fun _ => rfl
    exact ⟨h2, gs, hgs, h1, hnn, by rw [h1]; exact hmade, by rw [h1]; exact hrow, hgl⟩
end Yt
namespace Yt
open Go Go.Vc Go.Proofs
set_option maxRecDepth 10000
set_option maxHeartbeats 8000000
set_option linter.unusedSimpArgs false
set_option linter.unusedVariables false
def iV (n : Int) : V := ⟨3, n, ByteArray.empty⟩
def w2 (n m : Int) : List V := [iV n, iV m]
theorem GpI.uniq {cols : List Int} {y : List It} {gs gs' : List Gp} (h : GpI cols y gs) (h' : GpI cols y gs') : gs = gs' := h.same h' (fun _ => Iff.rfl) fun _ => rfl
@[go_sem] theorem la_cons {α : Type} (a : α) (l m : List α) : List.append (a :: l) m = a :: List.append l m := rfl
@[go_sem] theorem la_nil {α : Type} (m : List α) : List.append [] m = m := rfl
end Yt
namespace Yt
open Go Go.Vc Go.Proofs
set_option maxRecDepth 10000
set_option maxHeartbeats 8000000
set_option linter.unusedSimpArgs false
set_option linter.unusedVariables false
end Yt
namespace Yt
open Go Go.Vc Go.Proofs
set_option maxRecDepth 10000
set_option maxHeartbeats 8000000
set_option linter.unusedSimpArgs false
set_option linter.unusedVariables false
def posI (t : It) : Bool := decide (0 < t.w)
theorem so_snoc {st : St} {m : List (Nat × Option Nat)} {l l' : List It} {t : It} (h : l' = l ++ [t]) : Es st m (List.map It.c l ++ [t.c]) (List.map It.c l') := by
  subst h
  rw [List.map_append]
  exact .same (so (l ++ [t])) _ _ (fun x hx => so_leafy (l ++ [t]) x (by rw [so, List.map_append]; exact hx)) rfl
/-- Groups of a set and of what of it weighs more than nothing. -/
theorem GpI.pos {cols : List Int} {z : List It} {gs : List Gp} (h : GpI cols z gs) (hz : ∀ t ∈ z, t.w ≠ 0) : GpI cols (z.filter posI) gs :=
  { up := h.up
    items := fun g hg => by
      rw [h.items g hg, List.filter_filter]
      refine List.filter_congr fun t ht => ?_
      have := hz t ht
      by_cases e : 0 < t.w
      · simp [posI, e]
      · have e2 : t.w < 0 := by omega
        simp [posI, e, e2]
    some := h.some
    all := fun t ht hw => h.all t (List.mem_filter.1 ht).1 hw }
theorem GpI.neg {cols : List Int} {z : List It} {gs : List Gp} (h : GpI cols (z.filter fun t => !posI t) gs) (hz : ∀ t ∈ z, t.w ≠ 0) : gs = [] := by
  cases gs with
  | nil => rfl
  | cons g r =>
    obtain ⟨t, ht, hw, _⟩ := (h.has g.at_).1 ⟨g, by simp, rfl⟩
    obtain ⟨h1, h2⟩ := List.mem_filter.1 ht
    have := hz t h1
    simp [posI] at h2; omega
theorem Ask.of {k0 c0 v0 : Nat} (h : (k0 : Int) < 4) (h1 : (c0 : Int) < 2) (h2 : (v0 : Int) < 2) : Ask [(c0 : Int)] (1 + (k0 : Int)) v0 :=
  ⟨by omega, by omega, by simp, by simp; omega, by omega⟩
end Yt
namespace Yt
open Go Go.Vc Go.Proofs
set_option maxRecDepth 10000
set_option maxHeartbeats 8000000
set_option linter.unusedSimpArgs false
set_option linter.unusedVariables false
theorem len_one {α : Type} {l : List α} (h : l.length = 1) : ∃ a, l = [a] := by
  match l, h with
  | [a], _ => exact ⟨a, rfl⟩
end Yt
namespace Yt
open Go Go.Vc Go.Proofs
set_option maxRecDepth 10000
set_option maxHeartbeats 1000000
set_option linter.unusedSimpArgs false
set_option linter.unusedVariables false
/-- A sum, key by key. -/
def inK (Ks : List (List V)) (r : List V) : Bool := Ks.any fun k => decide (cmpR r k = 0)
theorem inK_mem {Ks : List (List V)} {r : List V} : inK Ks r = true ↔ r ∈ Ks := by
  simp only [inK, List.any_eq_true, decide_eq_true_eq]
  exact ⟨fun ⟨k, hk, e⟩ => by rw [lin_cmpR.eq _ _ e]; exact hk, fun h => ⟨r, h, cmpR_self r⟩⟩
theorem part_keys (key : It → List V) (f : It → Int) (L : List It) : ∀ (Ks : List (List V)), Ks.Nodup →
    (Ks.map fun k => ((L.filter fun t => decide (cmpR (key t) k = 0)).map f).sum).sum = ((L.filter fun t => inK Ks (key t)).map f).sum
  | [], _ => by
    have : L.filter (fun t => inK [] (key t)) = [] := by rw [List.filter_eq_nil_iff]; intro t _; simp [inK]
    rw [this]; rfl
  | k :: Ks, h => by
    obtain ⟨h1, h2⟩ := List.nodup_cons.1 h
    have ih := part_keys key f L Ks h2
    rw [List.map_cons, List.sum_cons, ih]
    clear ih
    induction L with
    | nil => simp
    | cons t L ihL =>
      have hc : inK (k :: Ks) (key t) = (decide (cmpR (key t) k = 0) || inK Ks (key t)) := by simp [inK]
      simp only [List.filter_cons, hc]
      by_cases e : cmpR (key t) k = 0
      · have e2 : key t = k := lin_cmpR.eq _ _ e
        have e3 : inK Ks (key t) = false := by
          cases h4 : inK Ks (key t) with
          | false => rfl
          | true => exact absurd (inK_mem.1 h4) (e2 ▸ h1)
        simp only [e, e3, decide_true, Bool.or_false, if_true, Bool.false_eq_true, if_false, List.map_cons, List.sum_cons]
        omega
      · cases e3 : inK Ks (key t) with
        | true =>
          simp only [e, decide_false, Bool.or_true, if_true, Bool.false_eq_true, if_false, List.map_cons, List.sum_cons]
          omega
        | false =>
          simp only [e, decide_false, Bool.or_false, Bool.false_eq_true, if_false]
          exact ihL
theorem GpI.nodup {cols : List Int} {y : List It} {gs : List Gp} (h : GpI cols y gs) : (gs.map Gp.at_).Nodup := by
  rw [List.Nodup, List.pairwise_map]
  exact h.up.imp fun {a b} hab e => by rw [e, cmpR_self] at hab; omega
theorem GpI.part {cols : List Int} {z : List It} {gs : List Gp} (h : GpI cols z gs) (hz : ∀ t ∈ z, t.w ≠ 0) (f : It → Int) : (gs.map fun g => (g.items.map f).sum).sum = ((z.filter posI).map f).sum := by
  have h1 := part_keys (fun t => pickR t.row cols) f (z.filter posI) (gs.map Gp.at_) h.nodup
  rw [List.map_map] at h1
  have e1 : ((z.filter posI).filter fun t => inK (gs.map Gp.at_) (pickR t.row cols)) = z.filter posI := by
    rw [List.filter_eq_self]
    intro t ht
    obtain ⟨h2, h3⟩ := List.mem_filter.1 ht
    simp only [posI, decide_eq_true_eq] at h3
    obtain ⟨g, hg, e⟩ := h.all t h2 (by omega)
    rw [inK_mem, ← e]
    exact List.mem_map_of_mem hg
  rw [e1] at h1
  rw [← h1]
  congr 1
  refine List.map_congr_left fun g hg => ?_
  simp only [Function.comp]
  rw [(h.pos hz).items g hg]
  congr 2
  refine List.filter_congr fun t ht => ?_
  have h3 := (List.mem_filter.1 ht).2
  simp only [posI, decide_eq_true_eq] at h3
  have : ¬ t.w < 0 := by omega
  simp [this]
/-- The one group of all. -/
def allG (z : List It) : List Gp := if z.filter posI = [] then [] else [⟨[], z.filter posI⟩]
def leB (kind : Int) (o v : V) : Prop := if kind = 3 then cmpV o v ≤ 0 else 0 ≤ cmpV o v
/-- Is o the best of these? -/
def Best (kind : Int) (vals : List V) (o : V) : Prop := ((∀ v ∈ vals, v.k = 1) ∧ o = V.nul) ∨ (o ∈ vals ∧ o.k ≠ 1 ∧ ∀ v ∈ vals, v.k ≠ 1 → leB kind o v)
theorem cmpV_le {a b c : V} (h : cmpV a b ≤ 0) (h2 : cmpV b c ≤ 0) : cmpV a c ≤ 0 := by
  by_cases e : cmpV a b = 0
  · rw [lin_cmpV.eq _ _ e]; exact h2
  · by_cases e2 : cmpV b c = 0
    · rw [← lin_cmpV.eq _ _ e2]; exact h
    · have := lin_cmpV.trans a b c (by omega) (by omega); omega
theorem leB_trans {kind : Int} {a b c : V} (h : leB kind a b) (h2 : leB kind b c) : leB kind a c := by
  simp only [leB] at *
  split
  · rename_i e; rw [if_pos e] at h h2; exact cmpV_le h h2
  · rename_i e
    rw [if_neg e] at h h2
    have h3 := lin_cmpV.neg a b
    have h4 := lin_cmpV.neg b c
    have h5 := lin_cmpV.neg a c
    have := cmpV_le (a := c) (b := b) (c := a) (by omega) (by omega)
    omega
theorem leB_anti {kind : Int} {a b : V} (h : leB kind a b) (h2 : leB kind b a) : a = b := by
  simp only [leB] at *
  have h3 := lin_cmpV.neg a b
  split at h
  · rename_i e; rw [if_pos e] at h2; exact lin_cmpV.eq _ _ (by omega)
  · rename_i e; rw [if_neg e] at h2; exact lin_cmpV.eq _ _ (by omega)
theorem leB_self {kind : Int} (a : V) : leB kind a a := by
  have := lin_cmpV.self a
  simp only [leB]; split <;> omega
theorem bestF_acc {kind col : Int} (hk : kind = 3 ∨ kind = 4) : ∀ (l : List It) (pre : List V) (o : V), Best kind pre o → Best kind (pre ++ l.map fun t => getV t.row col) (bestF kind col l o)
  | [], pre, o, h => by simpa [bestF] using h
  | t :: l, pre, o, h => by
    have e : pre ++ (t :: l).map (fun t => getV t.row col) = (pre ++ [getV t.row col]) ++ l.map fun t => getV t.row col := by simp
    rw [e]
    simp only [bestF]
    split
    · rename_i h1
      refine bestF_acc hk l _ o ?_
      rcases h with ⟨h2, h3⟩ | ⟨h2, h3, h4⟩
      · refine .inl ⟨fun v hv => ?_, h3⟩
        rcases List.mem_append.1 hv with hv | hv
        · exact h2 v hv
        · simp at hv; rw [hv]; exact h1
      · refine .inr ⟨List.mem_append_left _ h2, h3, fun v hv hv1 => ?_⟩
        rcases List.mem_append.1 hv with hv | hv
        · exact h4 v hv hv1
        · simp at hv; rw [hv] at hv1; exact absurd h1 hv1
    · rename_i h1
      split
      · rename_i h5
        refine bestF_acc hk l _ _ (.inr ⟨by simp, h1, fun v hv hv1 => ?_⟩)
        rcases List.mem_append.1 hv with hv | hv
        · rcases h with ⟨h2, _⟩ | ⟨h2, h3, h4⟩
          · exact absurd (h2 v hv) hv1
          · refine leB_trans ?_ (h4 v hv hv1)
            simp only [leB]
            rcases h5 with h5 | ⟨h5, h6⟩ | ⟨h5, h6⟩
            · exact absurd h5 h3
            · rw [if_pos h5]; omega
            · rw [if_neg (by omega)]; omega
        · simp at hv; rw [hv]; exact leB_self _
      · rename_i h5
        refine bestF_acc hk l _ o ?_
        rcases h with ⟨h2, h3⟩ | ⟨h2, h3, h4⟩
        · exact absurd (.inl (by rw [h3]; rfl)) h5
        · refine .inr ⟨List.mem_append_left _ h2, h3, fun v hv hv1 => ?_⟩
          rcases List.mem_append.1 hv with hv | hv
          · exact h4 v hv hv1
          · simp at hv; rw [hv]
            have h6 := lin_cmpV.neg (getV t.row col) o
            simp only [leB]
            rcases hk with hk | hk
            · rw [if_pos hk]
              have : ¬ cmpV (getV t.row col) o < 0 := fun h => h5 (.inr (.inl ⟨hk, h⟩))
              omega
            · rw [if_neg (by omega)]
              have : ¬ 0 < cmpV (getV t.row col) o := fun h => h5 (.inr (.inr ⟨hk, h⟩))
              omega
theorem bestF_best {kind col : Int} (hk : kind = 3 ∨ kind = 4) (l : List It) : Best kind (l.map fun t => getV t.row col) (bestF kind col l V.nul) := by
  have := bestF_acc (col := col) hk l [] V.nul (.inl ⟨by simp, rfl⟩)
  simpa using this
theorem Best.uniq {kind : Int} {vals vals' : List V} {o o' : V} (h : Best kind vals o) (h' : Best kind vals' o') (hv : ∀ v, v.k ≠ 1 → (v ∈ vals ↔ v ∈ vals')) : o = o' := by
  rcases h with ⟨h1, h2⟩ | ⟨h1, h2, h3⟩ <;> rcases h' with ⟨h4, h5⟩ | ⟨h4, h5, h6⟩
  · rw [h2, h5]
  · exact absurd (h1 o' ((hv o' h5).2 h4)) h5
  · exact absurd (h4 o ((hv o h2).1 h1)) h2
  · exact leB_anti (h3 o' ((hv o' h5).2 h4) h5) (h6 o ((hv o h2).1 h1) h2)
/-- The best of bests is the best of all. -/
theorem Best.join {α : Type} {kind : Int} {gs : List α} {vals : α → List V} {best : α → V} {o : V} (hg : ∀ g ∈ gs, Best kind (vals g) (best g)) (h : Best kind (gs.map best) o) : Best kind (gs.flatMap vals) o := by
  rcases h with ⟨h1, h2⟩ | ⟨h1, h2, h3⟩
  · refine .inl ⟨fun v hv => ?_, h2⟩
    obtain ⟨g, hgm, hvg⟩ := List.mem_flatMap.1 hv
    have h4 := h1 _ (List.mem_map_of_mem hgm)
    rcases hg g hgm with ⟨h5, _⟩ | ⟨_, h5, _⟩
    · exact h5 v hvg
    · exact absurd h4 h5
  · obtain ⟨g, hgm, rfl⟩ := List.mem_map.1 h1
    rcases hg g hgm with ⟨_, h5⟩ | ⟨h4, h5, h6⟩
    · rw [h5] at h2; exact absurd rfl h2
    · refine .inr ⟨List.mem_flatMap.2 ⟨g, hgm, h4⟩, h2, fun v hv hv1 => ?_⟩
      obtain ⟨g', hgm', hvg⟩ := List.mem_flatMap.1 hv
      rcases hg g' hgm' with ⟨h7, _⟩ | ⟨h7, h8, h9⟩
      · exact absurd (h7 v hvg) hv1
      · exact leB_trans (h3 _ (List.mem_map_of_mem hgm') h8) (h9 v hvg hv1)
end Yt
namespace Yt
open Go Go.Vc Go.Proofs
set_option maxRecDepth 10000
set_option maxHeartbeats 8000000
set_option linter.unusedSimpArgs false
set_option linter.unusedVariables false
theorem Ask.sums1 {cols : List Int} {kind col : Int} (a : Ask cols kind col) {z : List It} (h : Wd z 1 1000) {l : List It} (hl : l.length ≤ z.length) (hm : ∀ t ∈ l, t ∈ z) :
    sumF kind col l 0 = some ((l.map (sumT kind col)).sum) ∧ -4800000 ≤ (l.map (sumT kind col)).sum ∧ (l.map (sumT kind col)).sum ≤ 4800000 := by
  have hz := h.len
  have ht : ∀ t ∈ l, -120000 ≤ sumT kind col t ∧ sumT kind col t ≤ 120000 := fun t ht => by
    have hw := h.w t (hm t ht)
    simp only [sumT]
    split
    · split
      · rename_i h3
        have hn := h.num t (hm t ht) _ (getV_mem (inC_of a.col (h.two t (hm t ht)))) h3
        have := mul_small (x := t.w) (y := (getV t.row col).i) (i := 120) (j := 1000) (by omega) hn
        omega
      · omega
    · omega
  have h2 := sumF_some (kind := kind) (col := col) (B := 120000) (by omega) l 0 ht (by omega) (by omega)
  have h3 := sum_bound (f := sumT kind col) l ht
  exact ⟨by rw [h2, Int.zero_add], by omega, by omega⟩
/-- The groups of a small set are a small set. -/
theorem Ask.wd {c kind col : Int} (a : Ask [c] kind col) {z out : List It} {gs : List Gp} (h : Wd z 1 1000) (hgs : GpI [c] z gs) (hl : gs.length ≤ z.length) (ho : out = gs.map (gItem kind col)) (hm : Made out) (hok : ∀ t ∈ out, okR t.row = 0) : Wd out 1 4800000 := by
  have hll := h.len
  refine ⟨good_made.2 ⟨hm, hok⟩, by rw [ho, List.length_map]; omega, made_tot hm (by decide) fun t ht => ?_, fun t ht => ?_, fun t ht v hv h3 => ?_⟩
  · rw [ho] at ht
    obtain ⟨g, _, rfl⟩ := List.mem_map.1 ht
    simp [gItem]
  · rw [ho] at ht
    obtain ⟨g, hg, rfl⟩ := List.mem_map.1 ht
    have := hgs.atlen g hg
    simp [gItem] at this ⊢; omega
  · rw [ho] at ht
    obtain ⟨g, hg, rfl⟩ := List.mem_map.1 ht
    have hit : ∀ t ∈ g.items, t ∈ z := fun t ht => by rw [hgs.items g hg] at ht; exact (List.mem_filter.1 ht).1
    have hil : g.items.length ≤ z.length := by rw [hgs.items g hg]; exact List.length_filter_le _ _
    simp only [gItem] at hv
    have big : ∀ t ∈ z, ∀ v ∈ t.row, v.k = 3 → -4800000 ≤ v.i ∧ v.i ≤ 4800000 := fun t ht v hv h3 => by have := h.num t ht v hv h3; omega
    rcases List.mem_append.1 hv with hv | hv
    · obtain ⟨t, ht, _, e⟩ := (hgs.has g.at_).1 ⟨g, hg, rfl⟩
      rw [← e] at hv
      simp only [pickR, List.map_cons, List.map_nil, List.mem_singleton] at hv
      subst hv
      exact big t ht _ (getV_mem (inC_of (a.cs c (by simp)) (h.two t ht))) h3
    · simp only [List.mem_singleton] at hv
      subst hv
      simp only [gval] at h3 ⊢
      split
      · obtain ⟨e1, e2, e3⟩ := a.sums1 h hil hit
        rw [e1]; exact ⟨e2, e3⟩
      · rename_i hk
        rw [if_neg hk] at h3
        rcases bestF_mem kind col g.items V.nul with e | ⟨t, ht, e⟩
        · rw [e]; decide
        · simp only [Option.getD_some, e] at h3 ⊢
          exact big t (hit t ht) _ (getV_mem (inC_of a.col (h.two t (hit t ht)))) h3
/-- What is told of all is what is told of what is told of the groups. -/
theorem total {c kind col up : Int} (a : Ask [c] kind col) (hu : up = if kind = 1 then 2 else kind) {z : List It} {gs : List Gp} (h : Wd z 1 1000) (hgs : GpI [c] z gs) (hl : gs.length ≤ z.length) :
    (allG z).map (gItem kind col) = (allG (gs.map (gItem kind col))).map (gItem up 1) := by
  have hnz : ∀ t ∈ z, t.w ≠ 0 := fun t ht => (h.made.nz t ht).1
  have hpos : (gs.map (gItem kind col)).filter posI = gs.map (gItem kind col) := by
    rw [List.filter_eq_self]
    intro t ht
    obtain ⟨g, _, rfl⟩ := List.mem_map.1 ht
    rfl
  have hit : ∀ g ∈ gs, ∀ t ∈ g.items, t ∈ z := fun g hg t ht => by rw [hgs.items g hg] at ht; exact (List.mem_filter.1 ht).1
  have hil : ∀ g ∈ gs, g.items.length ≤ z.length := fun g hg => by rw [hgs.items g hg]; exact List.length_filter_le _ _
  have hval : ∀ g ∈ gs, getV (gItem kind col g).row 1 = (gval kind col g).getD V.zero := fun g hg => by
    obtain ⟨x, hx⟩ := len_one (hgs.atlen g hg)
    rw [gItem, hx]; rfl
  by_cases hemp : z.filter posI = []
  · have : gs = [] := by
      cases gs with
      | nil => rfl
      | cons g r =>
        obtain ⟨t, ht, hw, _⟩ := (hgs.has g.at_).1 ⟨g, by simp, rfl⟩
        have := hnz t ht
        have h2 : t ∈ z.filter posI := List.mem_filter.2 ⟨ht, by simp [posI]; omega⟩
        rw [hemp] at h2; cases h2
    subst this
    simp [allG, hemp]
  · have hne : gs ≠ [] := fun e => by
      obtain ⟨t, ht⟩ := List.exists_mem_of_ne_nil _ hemp
      obtain ⟨h1, h2⟩ := List.mem_filter.1 ht
      simp only [posI, decide_eq_true_eq] at h2
      obtain ⟨g, hg, _⟩ := hgs.all t h1 (by omega)
      rw [e] at hg; cases hg
    have hne2 : gs.map (gItem kind col) ≠ [] := fun e => hne (List.map_eq_nil_iff.1 e)
    simp only [allG, hemp, hpos, hne2, if_false, List.map_cons, List.map_nil]
    have key : gval kind col ⟨[], z.filter posI⟩ = gval up 1 ⟨[], gs.map (gItem kind col)⟩ := by
      by_cases hk : kind = 1 ∨ kind = 2
      · have hu2 : up = 2 := by rcases hk with hk | hk <;> simp [hu, hk]
        obtain ⟨e1, e2, e3⟩ := a.sums1 h (l := z.filter posI) (List.length_filter_le _ _) fun t ht => (List.mem_filter.1 ht).1
        have hs : ∀ g ∈ gs, sumT 2 1 (gItem kind col g) = (g.items.map (sumT kind col)).sum := fun g hg => by
          obtain ⟨f1, _⟩ := a.sums1 h (hil g hg) (hit g hg)
          have hv := hval g hg
          rw [gval, if_pos hk, f1] at hv
          simp only [sumT, hv]
          simp [gItem]
        have hb : ∀ t ∈ gs.map (gItem kind col), -4800000 ≤ sumT 2 1 t ∧ sumT 2 1 t ≤ 4800000 := fun t ht => by
          obtain ⟨g, hg, rfl⟩ := List.mem_map.1 ht
          rw [hs g hg]
          exact (a.sums1 h (hil g hg) (hit g hg)).2
        have hgl : gs.length ≤ 40 := by have := h.len; omega
        have h2 := sumF_some (kind := 2) (col := 1) (B := 4800000) (by omega) (gs.map (gItem kind col)) 0 hb (by rw [List.length_map]; omega) (by rw [List.length_map]; omega)
        simp only [gval, hk, hu2, if_true, or_true]
        rw [e1, h2, Int.zero_add, ← hgs.part hnz, List.map_map]
        have e5 : gs.map (sumT 2 1 ∘ gItem kind col) = gs.map fun g => (g.items.map (sumT kind col)).sum := List.map_congr_left hs
        rw [e5]
      · have hk2 : kind = 3 ∨ kind = 4 := by have := a.k1; have := a.k2; omega
        have hu2 : up = kind := by rw [hu, if_neg (by omega)]
        have hn : ¬ (up = 1 ∨ up = 2) := by rw [hu2]; exact hk
        simp only [gval, hk, hn, if_false, Option.some.injEq]
        have b1 := bestF_best (col := col) hk2 (z.filter posI)
        have b2 := bestF_best (kind := up) (col := 1) (by rw [hu2]; exact hk2) (gs.map (gItem kind col))
        rw [List.map_map, hu2] at b2
        have e5 : gs.map ((fun t => getV t.row 1) ∘ gItem kind col) = gs.map fun g => bestF kind col g.items V.nul := List.map_congr_left fun g hg => by
          simp only [Function.comp]
          rw [hval g hg, gval, if_neg hk]; rfl
        rw [e5] at b2
        have b3 := Best.join (vals := fun g : Gp => g.items.map fun t => getV t.row col) (fun g _ => bestF_best (col := col) hk2 g.items) b2
        rw [hu2]
        refine b1.uniq b3 fun v _ => ?_
        simp only [List.mem_flatMap, List.mem_map]
        constructor
        · rintro ⟨t, ht, e⟩
          obtain ⟨h1, h2⟩ := List.mem_filter.1 ht
          simp only [posI, decide_eq_true_eq] at h2
          obtain ⟨g, hg, e2⟩ := hgs.all t h1 (by omega)
          refine ⟨g, hg, t, ?_, e⟩
          rw [hgs.items g hg]
          refine List.mem_filter.2 ⟨h1, ?_⟩
          have : ¬ t.w < 0 := by omega
          simp [this, e2, cmpR_self]
        · rintro ⟨g, hg, t, ht, e⟩
          have := hit g hg t ht
          rw [hgs.items g hg] at ht
          have h2 := (List.mem_filter.1 ht).2
          simp at h2
          have h3 := hnz t this
          exact ⟨t, List.mem_filter.2 ⟨this, by simp [posI]; omega⟩, e⟩
    simp only [gItem, key]
end Yt
namespace Yt
open Go Go.Vc Go.Proofs
set_option maxRecDepth 10000
set_option maxHeartbeats 8000000
set_option linter.unusedSimpArgs false
set_option linter.unusedVariables false
end Yt
namespace Yt
open Go Go.Vc Go.Proofs
set_option maxRecDepth 10000
set_option maxHeartbeats 1000000
set_option linter.unusedSimpArgs false
set_option linter.unusedVariables false
theorem gOf_mem {cols : List Int} {y : List It} {gs : List Gp} (h : GpI cols y gs) {g : Gp} (hg : g ∈ gs) : g = gOf cols y g.at_ := by
  have h2 := h.items g hg
  cases g; simp only [gOf] at *; rw [← h2]
/-- What is told of a change: all of it. -/
structure Ch (cols : List Int) (kind col : Int) (z dz s d : List It) (gs gs' : List Gp) : Prop where
  was : GpI cols z gs
  now : GpI cols s gs'
  madeA : Made (gs'.map (gItem kind col))
  madeB : Made (gs.map (gItem kind col))
  made : Made d
  tot : ∀ r, Yt.tot r d = Yt.tot r (gs'.map (gItem kind col)) - Yt.tot r (gs.map (gItem kind col))
  tots : ∀ r, Yt.tot r s = Yt.tot r z + Yt.tot r dz
  ms : Made s
  mz : Made z
theorem gmap_one {kind col : Int} {gs : List Gp} : ∀ t ∈ gs.map (gItem kind col), t.w = 1 := fun t ht => by
  obtain ⟨g, _, rfl⟩ := List.mem_map.1 ht; rfl
/-- A row of a change goes or comes. -/
theorem Ch.row {cols : List Int} {kind col : Int} {z dz s d : List It} {gs gs' : List Gp} (h : Ch cols kind col z dz s d gs gs') {t : It} (ht : t ∈ d) :
    (t.w = 1 ∧ ∃ g ∈ gs', t.row = (gItem kind col g).row ∧ ¬ ∃ g ∈ gs, t.row = (gItem kind col g).row) ∨ (t.w = -1 ∧ ∃ g ∈ gs, t.row = (gItem kind col g).row ∧ ¬ ∃ g ∈ gs', t.row = (gItem kind col g).row) := by
  have h1 := h.tot t.row
  rw [tot_made h.made ht] at h1
  have h0 := (h.made.nz t ht).1
  have mem : ∀ {gs : List Gp}, (∃ u ∈ gs.map (gItem kind col), u.row = t.row) ↔ ∃ g ∈ gs, t.row = (gItem kind col g).row := fun {gs} => by
    constructor
    · rintro ⟨u, hu, e⟩
      obtain ⟨g, hg, rfl⟩ := List.mem_map.1 hu
      exact ⟨g, hg, e.symm⟩
    · rintro ⟨g, hg, e⟩
      exact ⟨_, List.mem_map_of_mem hg, e.symm⟩
  rcases tot_one h.madeA gmap_one t.row with ⟨a, b⟩ | ⟨a, b⟩ <;> rcases tot_one h.madeB gmap_one t.row with ⟨c, e⟩ | ⟨c, e⟩
  · omega
  · rw [mem] at b e
    obtain ⟨g, hg, e2⟩ := b
    exact .inl ⟨by omega, g, hg, e2, e⟩
  · rw [mem] at b e
    obtain ⟨g, hg, e2⟩ := e
    exact .inr ⟨by omega, g, hg, e2, b⟩
  · omega
theorem Ch.len {cols : List Int} {kind col : Int} {z dz s d : List It} {gs gs' : List Gp} (h : Ch cols kind col z dz s d gs gs') {t : It} (ht : t ∈ d) : (t.w = 1 ∨ t.w = -1) ∧ t.row.length = cols.length + 1 := by
  rcases h.row ht with ⟨h1, g, hg, e, _⟩ | ⟨h1, g, hg, e, _⟩
  · exact ⟨.inl h1, by rw [e]; have := h.now.atlen g hg; simp [gItem]; omega⟩
  · exact ⟨.inr h1, by rw [e]; have := h.was.atlen g hg; simp [gItem]; omega⟩
theorem gItem_key {cols : List Int} {kind col : Int} {y : List It} {gs : List Gp} (h : GpI cols y gs) {g : Gp} (hg : g ∈ gs) : (gItem kind col g).row.take cols.length = g.at_ := by
  rw [← h.atlen g hg, gItem, List.take_left']; rfl
theorem one_of {d : List It} (hd : d.Pairwise fun a b => a.row ≠ b.row) {p : It → Bool} {t : It} (ht : t ∈ d) (hp : p t = true) (h : ∀ u ∈ d, p u = true → u.row = t.row) : (d.filter p).length = 1 := by
  have h1 : t ∈ d.filter p := List.mem_filter.2 ⟨ht, hp⟩
  have h2 := List.length_pos_of_mem h1
  rcases Nat.lt_or_ge 1 (d.filter p).length with h3 | h3
  · have h4 := List.pairwise_iff_getElem.1 (hd.filter p) 0 1 (by omega) h3 (by decide)
    have q : ∀ i (hi : i < (d.filter p).length), (d.filter p)[i].row = t.row := fun i hi => by
      obtain ⟨a, b⟩ := List.mem_filter.1 (List.getElem_mem hi)
      exact h _ a b
    exact absurd ((q 0 (by omega)).trans (q 1 h3).symm) h4
  · omega
/-- Has it the key and the weight of another one? -/
def alike (n : Nat) (t u : It) : Bool := decide (cmpR (u.row.take n) (t.row.take n) = 0) && decide (u.w = t.w)
theorem Ch.same {cols : List Int} {kind col : Int} {z dz s d : List It} {gs gs' : List Gp} (h : Ch cols kind col z dz s d gs gs') {t : It} (ht : t ∈ d) : (d.filter (alike cols.length t)).length = 1 := by
  refine one_of (made_rows h.made) ht (by simp [alike, cmpR_self]) fun u hu hp => ?_
  simp only [alike, Bool.and_eq_true, decide_eq_true_eq] at hp
  have hk := lin_cmpR.eq _ _ hp.1
  rcases h.row ht with ⟨h1, g, hg, e, _⟩ | ⟨h1, g, hg, e, _⟩ <;> rcases h.row hu with ⟨h2, g2, hg2, e2, _⟩ | ⟨h2, g2, hg2, e2, _⟩
  · rw [e, e2, gItem_key h.now hg, gItem_key h.now hg2] at hk
    rw [e, e2, gOf_mem h.now hg, gOf_mem h.now hg2, hk]
  · omega
  · omega
  · rw [e, e2, gItem_key h.was hg, gItem_key h.was hg2] at hk
    rw [e, e2, gOf_mem h.was hg, gOf_mem h.was hg2, hk]
end Yt
namespace Yt
open Go Go.Vc Go.Proofs
set_option maxRecDepth 10000
set_option maxHeartbeats 8000000
set_option linter.unusedSimpArgs false
set_option linter.unusedVariables false
end Yt
namespace Yt
open Go Go.Vc Go.Proofs
set_option maxRecDepth 10000
set_option maxHeartbeats 4000000
set_option linter.unusedSimpArgs false
set_option linter.unusedVariables false
def rowIs (r : List V) (t : It) : Bool := decide (cmpR t.row r = 0)
/-- Those of one row stay in order. -/
def Stb (z y : List It) : Prop := ∀ r, y.filter (rowIs r) = z.filter (rowIs r)
end Yt
