/- What is made of items, by the page; tame sets. What is proved: contracts of the program's functions over abstract values, or plain facts on which these lean; the conditions stand in each theorem. -/
import Derived.Test.YtpipfaegkgakiaaYtAB
set_option linter.all false
/-! What is made of items, by the page; tame sets. -/
namespace Yt
open Go Go.Vc Go.Proofs
set_option maxRecDepth 10000
set_option maxHeartbeats 8000000
set_option linter.unusedSimpArgs false
set_option linter.unusedVariables false
theorem and_mask32 (x : Int) : bitsOp .and .i64 x 4294967295 = x % 4294967296 := by
  simp only [bitsOp]
  have h1 : (BitVec.ofInt IntKind.i64.bits x &&& BitVec.ofInt IntKind.i64.bits 4294967295).toNat = (x % 4294967296).toNat := by
    rw [BitVec.toNat_and]
    have e1 : (BitVec.ofInt IntKind.i64.bits 4294967295).toNat = 2 ^ 32 - 1 := by decide
    rw [e1, Nat.and_two_pow_sub_one_eq_mod]
    simp only [BitVec.toNat_ofInt, IntKind.bits]
    omega
  rw [h1, wrap_i64] <;> omega
theorem shr32 (x : Int) : x / 2 ^ min (Int.toNat 32) 64 = x / 4294967296 := by
  have h2 : (2 : Int) ^ min (Int.toNat 32) 64 = 4294967296 := by decide
  rw [h2]
theorem shl32 (x : Int) : x * 2 ^ min (Int.toNat 32) 64 = x * 4294967296 := by
  have h2 : (2 : Int) ^ min (Int.toNat 32) 64 = 4294967296 := by decide
  rw [h2]
/-- What the first i items from off on come to, in two parts. -/
structure TJ (y : List It) (off i : Nat) (h l : Int) : Prop where
  le : off + i ≤ y.length
  same : ∀ j (hj : j < y.length) (h0 : off < y.length), off ≤ j → j < off + i → cI y[j] y[off] = 0
  sum : h * 4294967296 + l = sumW ((y.drop off).take i)
  hb : -((i : Int) * 33554432) ≤ h ∧ h ≤ (i : Int) * 33554432
  lb : 0 ≤ l ∧ l ≤ (i : Int) * 4294967296
theorem TJ.start {y : List It} {off : Nat} (h : off ≤ y.length) : TJ y off 0 0 0 :=
  ⟨h, fun j _ _ h1 h2 => by omega, by simp [sumW], by omega, by omega⟩
theorem TJ.step {y : List It} {off i : Nat} {h l : Int} (t : TJ y off i h l) (hi : off + i < y.length) (e : ∀ h0 : off < y.length, cI y[off + i] y[off] = 0) (hw : okW y[off + i].w = true) :
    TJ y off (i + 1) (h + y[off + i].w / 4294967296) (l + y[off + i].w % 4294967296) := by
  have hw := okW_le hw
  obtain ⟨t1, t2, t3, t4, t5⟩ := t
  refine ⟨by omega, fun j hj h0 h1 h2 => ?_, ?_, by omega, by omega⟩
  · by_cases hji : j = off + i
    · subst hji; exact e h0
    · exact t2 j hj h0 h1 (by omega)
  · have hd : i < (y.drop off).length := by rw [List.length_drop]; omega
    rw [List.take_succ_eq_append_getElem hd, sumW_append, ← t3]
    simp only [sumW, List.getElem_drop]
    omega
theorem TJ.run {y : List It} {off i : Nat} {h l : Int} (t : TJ y off i h l) (h0 : off < y.length) (hn : ∀ hi : off + i < y.length, cI y[off + i] y[off] ≠ 0) : Run y off (off + i) := by
  refine ⟨?_, t.le, t.same, fun hi h0 => hn hi⟩
  apply Classical.byContradiction
  intro hlt
  have : i = 0 := by omega
  subst this
  exact hn h0 (cI_eq.2 rfl)
/-- Where the page's making stands. -/
structure OS (y : List It) (off : Nat) (out : List It) (ov : Bool) : Prop where
  le : off ≤ y.length
  len : out.length ≤ off
  gi : ov = false → GI y off out
  bad : ov = true → ∃ r, okW (tot r y) = false
theorem OS.over {y out : List It} {off e : Nat} {ov : Bool} (o : OS y off out ov) (hs : SR cI y 0 y.length) (r : Run y off e) (h0 : off < y.length) (hb : okW (sumW ((y.drop off).take (e - off))) = false) : OS y e out true := by
  refine ⟨r.le, by have := r.lt; have := o.len; omega, fun h => absurd h (by decide), fun _ => ?_⟩
  cases ov with
  | true => exact o.bad rfl
  | false => exact ⟨y[off].row, by rw [(o.gi rfl).total hs r h0]; exact hb⟩
theorem OS.fine {y out : List It} {off e : Nat} {ov : Bool} (o : OS y off out ov) (hs : SR cI y 0 y.length) (r : Run y off e) (h0 : off < y.length) (hok : okW (sumW ((y.drop off).take (e - off))) = true) :
    OS y e (if sumW ((y.drop off).take (e - off)) = 0 then out else out ++ [⟨y[off].row, sumW ((y.drop off).take (e - off))⟩]) ov := by
  refine ⟨r.le, ?_, fun h => (o.gi h).step hs r h0 hok, o.bad⟩
  have := r.lt; have := o.len
  split
  · omega
  · simp; omega
theorem s26 (z : List It) (hl : z.length ≤ 1048576) (hr : ∀ t ∈ z, t.row.length < 1073741824) :
    Spec1 Try.prog 26 [setA z] (fun r o => ∃ (out : List It) (err : Int), r = .tu [.rf 0 0 out.length, iA err] ∧ o = so out ∧ MakeR z out err) := by
  refine spec1_of_vc tabOk elems ord26 Try.func26 rfl (rl := [.tmp 2, .tmp 3]) rfl (by kernel_rfl) rfl ?_
  (simp -implicitDefEqProofs only [go_sem, setA]; repeat (refine GO ?_; simp -implicitDefEqProofs only [go_sem, setA]))
  refine LOOP.mk (ι := { i : Nat // i ≤ z.length ∧ ∀ j (h : j < z.length), j < i → okI z[j] = true }) (fun p => mkS [(0, setA z), (4, iA p.1)] [] [])
    (fun p => z.length - p.1) ⟨0, Nat.zero_le _, fun j _ h => absurd h (Nat.not_lt_zero _)⟩ [] rfl rfl ?_ (fun p => ?_)
  · (simp -implicitDefEqProofs only [go_sem, setA, iA]; repeat (refine GO ?_; simp -implicitDefEqProofs only [go_sem, setA, iA]))
    exact ⟨id, rfl⟩
  · obtain ⟨i, hi, hg⟩ := p
    (simp -implicitDefEqProofs only [go_sem, setA, iA]; repeat (refine GO ?_; simp -implicitDefEqProofs only [go_sem, setA, iA]))
    refine VIF.split (fun h => ?_) (fun h => ?_)
    · have h : i < z.length := by simpa using h
      have w3 := wrap_add1 (show i < 4611686018427387904 by omega)
      have bad : okI z[i] = false → (z.any fun t => !okI t) = true := fun hn => by
        rw [List.any_eq_true]; exact ⟨_, List.getElem_mem h, by simp [hn]⟩
      (simp -implicitDefEqProofs only [go_sem]; repeat (refine GO ?_; simp -implicitDefEqProofs only [go_sem]))
      refine EL.map h ?_
      (simp -implicitDefEqProofs only [go_sem, It.c]; repeat (refine GO ?_; simp -implicitDefEqProofs only [go_sem, It.c]))
      refine .pure _ (s17 z[i].row (by have := hr _ (List.getElem_mem h); omega)) rfl fun q hq _ => ?_
      subst hq
      (simp -implicitDefEqProofs only [go_sem, iA]; repeat (refine GO ?_; simp -implicitDefEqProofs only [go_sem, iA]))
      refine VIF.split (fun h1 => ?_) (fun h1 => ?_)
      · have h1 : okR z[i].row ≠ 0 := by simpa using h1
        (simp -implicitDefEqProofs only [go_sem]; repeat (refine GO ?_; simp -implicitDefEqProofs only [go_sem]))
        refine FINmk [(0, none)] [(2, .rf 0 0 0), (3, iA 1)] [(0, so [])] [0] rfl ?_ ?_
        · (simp -implicitDefEqProofs only [go_sem, iA]; repeat (refine GO ?_; simp -implicitDefEqProofs only [go_sem, iA]))
          simp [so]
        · exact ⟨so [], ⟨⟨[], 1, rfl, rfl, .inl ⟨bad (by simp [okI, h1]), rfl, rfl⟩⟩, rfl⟩, so_leafy [], rfl⟩
      · have h1 : okR z[i].row = 0 := by simpa using h1
        (simp -implicitDefEqProofs only [go_sem]; repeat (refine GO ?_; simp -implicitDefEqProofs only [go_sem]))
        refine EL.map h ?_
        (simp -implicitDefEqProofs only [go_sem, It.c, iA]; repeat (refine GO ?_; simp -implicitDefEqProofs only [go_sem, It.c, iA]))
        refine .pure _ (s53 z[i].w (-72057594037927936) 72057594037927936) rfl fun q hq _ => ?_
        subst hq
        (simp -implicitDefEqProofs only [go_sem, bA]; repeat (refine GO ?_; simp -implicitDefEqProofs only [go_sem, bA]))
        refine VIF.split (fun h3 => ?_) (fun h3 => ?_)
        · have h3 : okW z[i].w = false := by simpa [okW] using h3
          (simp -implicitDefEqProofs only [go_sem]; repeat (refine GO ?_; simp -implicitDefEqProofs only [go_sem]))
          refine FINmk [(0, none)] [(2, .rf 0 0 0), (3, iA 1)] [(0, so [])] [0] rfl ?_ ?_
          · (simp -implicitDefEqProofs only [go_sem, iA]; repeat (refine GO ?_; simp -implicitDefEqProofs only [go_sem, iA]))
            simp [so]
          · exact ⟨so [], ⟨⟨[], 1, rfl, rfl, .inl ⟨bad (by simp [okI, h3]), rfl, rfl⟩⟩, rfl⟩, so_leafy [], rfl⟩
        · have h3 : okW z[i].w = true := by simpa [okW] using h3
          (simp -implicitDefEqProofs only [go_sem, w3]; repeat (refine GO ?_; simp -implicitDefEqProofs only [go_sem, w3]))
          refine BACK.mk ⟨i + 1, by omega, fun j hj hji => ?_⟩ [] rfl rfl (by show z.length - (i + 1) < z.length - i; omega) ?_
          · by_cases e : j = i
            · subst e; simp [okI, h1, h3]
            · exact hg j hj (by omega)
          · (simp -implicitDefEqProofs only [go_sem, setA, iA, w3]; repeat (refine GO ?_; simp -implicitDefEqProofs only [go_sem, setA, iA, w3]))
            exact id
    · have h : i = z.length := by simp at h; omega
      have hbad : (z.any fun t => !okI t) = false := by
        rw [List.any_eq_false]; intro t ht
        obtain ⟨j, hj, rfl⟩ := List.mem_iff_getElem.1 ht
        simp [hg j hj (by omega)]
      (simp -implicitDefEqProofs only [go_sem]; repeat (refine GO ?_; simp -implicitDefEqProofs only [go_sem]))
      refine .pure _ (s54 _ z (Nat.le_refl _) hl (fun t ht => by have := hr t ht; omega)) rfl fun q hq _ => ?_
      obtain ⟨y, rfl, hp, hsr⟩ := hq
      have hs := hsr.sr
      have hlen := hp.length_eq
      have hry : ∀ t ∈ y, t.row.length < 1073741824 := fun t ht => hr t (hp.mem_iff.1 ht)
      have hok : ∀ t ∈ y, okI t = true := fun t ht => by
        have h1 : ∀ u ∈ z, okI u = true := by simpa using hbad
        exact h1 t (hp.mem_iff.1 ht)
      (simp -implicitDefEqProofs only [go_sem, setA]; repeat (refine GO ?_; simp -implicitDefEqProofs only [go_sem, setA]))
      refine LOOP.mk (ι := { p : Nat × List It × Bool // OS y p.1 p.2.1 p.2.2 }) (fun p => mkS [(5, setA y), (6, .rf 1000 0 p.1.2.1.length), (7, bA p.1.2.2), (8, iA p.1.1)] [(1000, so p.1.2.1)] [1000])
        (fun p => y.length - p.1.1) ⟨(0, [], false), Nat.zero_le _, Nat.le_refl _, fun _ => .start y, fun h => absurd h (by decide)⟩ [(1000, none)] rfl rfl ?_ (fun p => ?_)
      · (simp -implicitDefEqProofs only [go_sem, setA, bA, iA, so]; repeat (refine GO ?_; simp -implicitDefEqProofs only [go_sem, setA, bA, iA, so]))
        exact ⟨id, rfl, rfl⟩
      · obtain ⟨⟨off, out, ov⟩, os⟩ := p
        have hle := os.le
        have hol := os.len
        simp only at hle hol
        (simp -implicitDefEqProofs only [go_sem, setA, bA, iA, so]; repeat (refine GO ?_; simp -implicitDefEqProofs only [go_sem, setA, bA, iA, so]))
        refine VIF.split (fun h1 => ?_) (fun h1 => ?_)
        · have h0 : off < y.length := by simpa using h1
          (simp -implicitDefEqProofs only [go_sem]; repeat (refine GO ?_; simp -implicitDefEqProofs only [go_sem]))
          refine LOOP.join (ι := { q : Nat × Int × Int // TJ y off q.1 q.2.1 q.2.2 ∧ Run y off (off + q.1) })
            (fun q => mkS [(5, setA y), (6, .rf 1000 0 out.length), (7, bA ov), (8, iA off), (9, iA q.1.2.1), (10, iA q.1.2.2), (11, iA (off + q.1.1 : Nat))] [(1000, so out)] [1000]) ?_ (fun q => ?_)
          · refine LOOP.mk (ι := { q : Nat × Int × Int // TJ y off q.1 q.2.1 q.2.2 })
              (fun q => mkS [(5, setA y), (6, .rf 1000 0 out.length), (7, bA ov), (8, iA off), (9, iA q.1.2.1), (10, iA q.1.2.2), (11, iA (off + q.1.1 : Nat))] [(1000, so out)] [1000])
              (fun q => y.length - off - q.1.1) ⟨(0, 0, 0), .start hle⟩ [(1000, some 1000)] rfl rfl ?_ (fun q => ?_)
            · (simp -implicitDefEqProofs only [go_sem, setA, bA, iA, so]; repeat (refine GO ?_; simp -implicitDefEqProofs only [go_sem, setA, bA, iA, so]))
              exact ⟨id, .same (so out) _ _ (so_leafy out) rfl⟩
            · obtain ⟨⟨i, h, l⟩, ti⟩ := q
              simp only at ti
              have til := ti.le
              (simp -implicitDefEqProofs only [go_sem, setA, bA, iA, so]; repeat (refine GO ?_; simp -implicitDefEqProofs only [go_sem, setA, bA, iA, so]))
              refine VIF.split (fun h2 => ?_) (fun h2 => ?_)
              · have hi : off + i < y.length := by simp at h2; omega
                (simp -implicitDefEqProofs only [go_sem]; repeat (refine GO ?_; simp -implicitDefEqProofs only [go_sem]))
                refine EL.map hi ?_
                (simp -implicitDefEqProofs only [go_sem, It.c]; repeat (refine GO ?_; simp -implicitDefEqProofs only [go_sem, It.c]))
                refine EL.map h0 ?_
                (simp -implicitDefEqProofs only [go_sem, It.c]; repeat (refine GO ?_; simp -implicitDefEqProofs only [go_sem, It.c]))
                refine .pure _ (s55 y[off + i].row y[off].row (by have := hry _ (List.getElem_mem hi); omega) (by have := hry _ (List.getElem_mem h0); omega)) rfl fun q hq _ => ?_
                subst hq
                (simp -implicitDefEqProofs only [go_sem, iA]; repeat (refine GO ?_; simp -implicitDefEqProofs only [go_sem, iA]))
                refine VIF.split (fun h3 => ?_) (fun h3 => ?_)
                · have h3 : cI y[off + i] y[off] = 0 := by simpa [cI] using h3
                  have hbb : i ≤ 1048576 := by omega
                  have hb1 := ti.hb
                  have hb2 := ti.lb
                  have hoi := hok y[off + i] (List.getElem_mem hi)
                  have hwi : okW y[off + i].w = true := by
                    simp only [okI, Bool.and_eq_true] at hoi; exact hoi.2
                  have hwl := okW_le hwi
                  have w1 : IntKind.i64.wrap (h + y[off + i].w / 4294967296) = h + y[off + i].w / 4294967296 := by rw [wrap_i64] <;> omega
                  have w2 : IntKind.i64.wrap (l + y[off + i].w % 4294967296) = l + y[off + i].w % 4294967296 := by rw [wrap_i64] <;> omega
                  have w3 := wrap_add1 (show off + i < 4611686018427387904 by omega)
                  (simp -implicitDefEqProofs only [go_sem]; repeat (refine GO ?_; simp -implicitDefEqProofs only [go_sem]))
                  refine EL.map hi ?_
                  (simp -implicitDefEqProofs only [go_sem, It.c, iA, shr32]; repeat (refine GO ?_; simp -implicitDefEqProofs only [go_sem, It.c, iA, shr32]))
                  refine ⟨by decide, EL.map hi ?_⟩
                  (simp -implicitDefEqProofs only [go_sem, It.c, iA, and_mask32, shr32, w1, w2, w3]; repeat (refine GO ?_; simp -implicitDefEqProofs only [go_sem, It.c, iA, and_mask32, shr32, w1, w2, w3]))
                  refine BACK.mk ⟨(i + 1, h + y[off + i].w / 4294967296, l + y[off + i].w % 4294967296), ti.step hi (fun _ => h3) hwi⟩ [(1000, some 1000)] rfl rfl (by show y.length - off - (i + 1) < y.length - off - i; omega) ?_
                  (simp -implicitDefEqProofs only [go_sem, setA, bA, iA, so, w1, w2, w3]; repeat (refine GO ?_; simp -implicitDefEqProofs only [go_sem, setA, bA, iA, so, w1, w2, w3]))
                  exact ⟨id, rfl, .same (so out) _ _ (so_leafy out) rfl⟩
                · have h3 : cI y[off + i] y[off] ≠ 0 := by simpa [cI] using h3
                  (simp -implicitDefEqProofs only [go_sem]; repeat (refine GO ?_; simp -implicitDefEqProofs only [go_sem]))
                  refine JB.mk ⟨(i, h, l), ti, ti.run h0 (fun hi => h3)⟩ [(1000, some 1000)] rfl rfl ?_
                  (simp -implicitDefEqProofs only [go_sem, setA, bA, iA, so]; repeat (refine GO ?_; simp -implicitDefEqProofs only [go_sem, setA, bA, iA, so]))
                  exact ⟨id, .same (so out) _ _ (so_leafy out) rfl⟩
              · have hi : off + i = y.length := by simp at h2; omega
                (simp -implicitDefEqProofs only [go_sem]; repeat (refine GO ?_; simp -implicitDefEqProofs only [go_sem]))
                refine JB.mk ⟨(i, h, l), ti, ti.run h0 (fun hi => by omega)⟩ [(1000, some 1000)] rfl rfl ?_
                (simp -implicitDefEqProofs only [go_sem, setA, bA, iA, so]; repeat (refine GO ?_; simp -implicitDefEqProofs only [go_sem, setA, bA, iA, so]))
                exact ⟨id, .same (so out) _ _ (so_leafy out) rfl⟩
          · obtain ⟨⟨i, h, l⟩, ti, ru⟩ := q
            simp only at ti ru
            have hbb : i ≤ 1048576 := by have := ti.le; omega
            have hb1 := ti.hb
            have hb2 := ti.lb
            have hoff : off + i - off = i := by omega
            have hsum := ti.sum
            have hlt2 := ru.lt
            have w1 : IntKind.i64.wrap (h + l / 4294967296) = h + l / 4294967296 := by rw [wrap_i64] <;> omega
            have ov1 : okW (h * 4294967296 + l) = false → OS y (off + i) out true := fun hb => os.over hs ru h0 (by rw [hoff, ← hsum]; exact hb)
            have ok1 := fun hb : okW (h * 4294967296 + l) = true => os.fine hs ru h0 (by rw [hoff, ← hsum]; exact hb)
            rw [hoff, ← hsum] at ok1
            (simp -implicitDefEqProofs only [go_sem, setA, bA, iA, so, shr32, and_mask32, w1]; repeat (refine GO ?_; simp -implicitDefEqProofs only [go_sem, setA, bA, iA, so, shr32, and_mask32, w1]))
            refine ⟨by decide, GO ?_⟩
            (simp -implicitDefEqProofs only [go_sem]; repeat (refine GO ?_; simp -implicitDefEqProofs only [go_sem]))
            refine .pure _ (s53 (h + l / 4294967296) (-33554432) 33554432) rfl fun q hq _ => ?_
            subst hq
            (simp -implicitDefEqProofs only [go_sem, bA]; repeat (refine GO ?_; simp -implicitDefEqProofs only [go_sem, bA]))
            refine VIF.split (fun h3 => ?_) (fun h3 => ?_)
            · have hb : okW (h * 4294967296 + l) = false := by simp [inB] at h3; simp [okW, inB]; omega
              (simp -implicitDefEqProofs only [go_sem]; repeat (refine GO ?_; simp -implicitDefEqProofs only [go_sem]))
              refine BACK.mk ⟨(off + i, out, true), ov1 hb⟩ [(1000, some 1000)] rfl rfl (by show y.length - (off + i) < y.length - off; omega) ?_
              (simp -implicitDefEqProofs only [go_sem, setA, bA, iA, so]; repeat (refine GO ?_; simp -implicitDefEqProofs only [go_sem, setA, bA, iA, so]))
              exact ⟨id, .same (so out) _ _ (so_leafy out) rfl⟩
            · have hin : -33554432 ≤ h + l / 4294967296 ∧ h + l / 4294967296 ≤ 33554432 := by simpa [inB] using h3
              have w2 : IntKind.i64.wrap ((h + l / 4294967296) * 4294967296) = (h + l / 4294967296) * 4294967296 := by rw [wrap_i64] <;> omega
              have w3 : IntKind.i64.wrap ((h + l / 4294967296) * 4294967296 + l % 4294967296) = h * 4294967296 + l := by rw [wrap_i64] <;> omega
              (simp -implicitDefEqProofs only [go_sem, shl32, w2, w3]; repeat (refine GO ?_; simp -implicitDefEqProofs only [go_sem, shl32, w2, w3]))
              refine ⟨by decide, GO ?_⟩
              (simp -implicitDefEqProofs only [go_sem]; repeat (refine GO ?_; simp -implicitDefEqProofs only [go_sem]))
              refine .pure _ (s53 (h * 4294967296 + l) (-72057594037927936) 72057594037927936) rfl fun q hq _ => ?_
              subst hq
              (simp -implicitDefEqProofs only [go_sem, bA]; repeat (refine GO ?_; simp -implicitDefEqProofs only [go_sem, bA]))
              refine VIF.split (fun h4 => ?_) (fun h4 => ?_)
              · have hb : okW (h * 4294967296 + l) = false := by simpa [okW] using h4
                (simp -implicitDefEqProofs only [go_sem]; repeat (refine GO ?_; simp -implicitDefEqProofs only [go_sem]))
                refine BACK.mk ⟨(off + i, out, true), ov1 hb⟩ [(1000, some 1000)] rfl rfl (by show y.length - (off + i) < y.length - off; omega) ?_
                (simp -implicitDefEqProofs only [go_sem, setA, bA, iA, so]; repeat (refine GO ?_; simp -implicitDefEqProofs only [go_sem, setA, bA, iA, so]))
                exact ⟨id, .same (so out) _ _ (so_leafy out) rfl⟩
              · have hk : okW (h * 4294967296 + l) = true := by simpa [okW] using h4
                have os2 := ok1 hk
                (simp -implicitDefEqProofs only [go_sem]; repeat (refine GO ?_; simp -implicitDefEqProofs only [go_sem]))
                refine VIF.split (fun h5 => ?_) (fun h5 => ?_)
                · have h5 : h * 4294967296 + l ≠ 0 := by simpa using h5
                  rw [if_neg h5] at os2
                  (simp -implicitDefEqProofs only [go_sem]; repeat (refine GO ?_; simp -implicitDefEqProofs only [go_sem]))
                  refine EL.map h0 ?_
                  (simp -implicitDefEqProofs only [go_sem, It.c]; repeat (refine GO ?_; simp -implicitDefEqProofs only [go_sem, It.c]))
                  refine .make 102 _ (s52 y[off].row (by have := hry _ (List.getElem_mem h0); omega)) rfl (by simp) rfl fun q o hq _ => ?_
                  obtain ⟨rfl, rfl⟩ := hq
                  (simp -implicitDefEqProofs only [go_sem]; repeat (refine GO ?_; simp -implicitDefEqProofs only [go_sem]))
                  refine ⟨by omega, ?_⟩
                  (simp -implicitDefEqProofs only [go_sem]; repeat (refine GO ?_; simp -implicitDefEqProofs only [go_sem]))
                  refine BACK.mk ⟨(off + i, out ++ [⟨y[off].row, h * 4294967296 + l⟩], ov), os2⟩ [(1000, some 106)] rfl rfl (by show y.length - (off + i) < y.length - off; omega) ?_
                  (simp -implicitDefEqProofs only [go_sem, setA, bA, iA, so]; repeat (refine GO ?_; simp -implicitDefEqProofs only [go_sem, setA, bA, iA, so]))
                  refine ⟨id, by simp, ?_⟩
                  rw [List.map_append, show List.take out.length (List.map It.c out) = List.map It.c out from List.take_of_length_le (by simp)]
                  refine Es_snoc (fun x hx a ha => so_leafy out x hx a ha) ?_
                  (simp -implicitDefEqProofs only [go_sem, It.c, rowA, iA]; repeat (refine GO ?_; simp -implicitDefEqProofs only [go_sem, It.c, rowA, iA]))
                  exact ⟨by decide, _, rfl, ro3_leafy _, rfl, List.take_of_length_le (by simp [ro3])⟩
                · have h5 : h * 4294967296 + l = 0 := by simpa using h5
                  rw [if_pos h5] at os2
                  (simp -implicitDefEqProofs only [go_sem]; repeat (refine GO ?_; simp -implicitDefEqProofs only [go_sem]))
                  refine BACK.mk ⟨(off + i, out, ov), os2⟩ [(1000, some 1000)] rfl rfl (by show y.length - (off + i) < y.length - off; omega) ?_
                  (simp -implicitDefEqProofs only [go_sem, setA, bA, iA, so]; repeat (refine GO ?_; simp -implicitDefEqProofs only [go_sem, setA, bA, iA, so]))
                  exact ⟨id, .same (so out) _ _ (so_leafy out) rfl⟩
        · have h1 : off = y.length := by simp at h1; omega
          subst h1
          (simp -implicitDefEqProofs only [go_sem]; repeat (refine GO ?_; simp -implicitDefEqProofs only [go_sem]))
          refine VIF.split (fun h2 => ?_) (fun h2 => ?_)
          · obtain ⟨r, hr2⟩ := os.bad h2
            (simp -implicitDefEqProofs only [go_sem]; repeat (refine GO ?_; simp -implicitDefEqProofs only [go_sem]))
            refine FINmk [(0, none)] [(2, .rf 0 0 0), (3, iA 11)] [(0, so [])] [0] rfl ?_ ?_
            · (simp -implicitDefEqProofs only [go_sem, iA]; repeat (refine GO ?_; simp -implicitDefEqProofs only [go_sem, iA]))
              simp [so]
            · exact ⟨so [], ⟨⟨[], 11, rfl, rfl, .inr (.inl ⟨hbad, rfl, rfl, r, by rw [← tot_perm hp]; exact hr2⟩)⟩, rfl⟩, so_leafy [], rfl⟩
          · have g := os.gi h2
            have hgt := g.tot
            rw [List.take_length] at hgt
            (simp -implicitDefEqProofs only [go_sem]; repeat (refine GO ?_; simp -implicitDefEqProofs only [go_sem]))
            refine FINmk [(0, some 1000)] [(2, .rf 0 0 out.length), (3, iA 0)] [(0, so out)] [0] rfl ?_ ?_
            · (simp -implicitDefEqProofs only [go_sem, iA, so]; repeat (refine GO ?_; simp -implicitDefEqProofs only [go_sem, iA, so]))
              exact .same (so out) _ _ (so_leafy out) rfl
            · refine ⟨so out, ⟨⟨out, 0, rfl, rfl, .inr (.inr ⟨hbad, rfl, g.made, fun r => (hgt r).trans (tot_perm hp), fun t ht => ?_, by omega⟩)⟩, rfl⟩, so_leafy out, rfl⟩
              obtain ⟨u, hu, e⟩ := g.src t ht
              have := hok u hu
              refine ⟨?_, u, hp.mem_iff.1 hu, e⟩
              rw [← e]
              simp [okI] at this
              exact this.1
end Yt
