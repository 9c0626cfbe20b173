/- Contracts of the program's functions over abstract values and states, plain facts on which these lean, and the framework of these values over the model: The law AggTotal. The law AggTells. Changes of groups: plain facts. The law AggAdds. From the statement's arguments to those of the walks. The conditions stand in each theorem. -/
import Derived.Test.YtbnbngkbngmndaaBe
import Derived.Test.YtbnbngkbngmndaaBb
import Derived.JoinedCond
import Derived.WalkKit
import Derived.ProofKit
import Derived.Test.YtbnbngkbngmndaaRows
set_option linter.all false
namespace Yt
open Go Go.Vc Go.Proofs
set_option maxRecDepth 10000
set_option maxHeartbeats 8000000
set_option linter.unusedSimpArgs false
set_option linter.unusedVariables false
theorem Ask.sums1 {cols : List Int} {kind col : Int} (a : Ask cols kind col) {z : List It} (h : Wd z 1 1000) {l : List It} (hl : l.length ≤ z.length) (hm : ∀ t ∈ l, t ∈ z) :
    sumF kind col l 0 = some ((l.map (sumT kind col)).sum) ∧ -4800000 ≤ (l.map (sumT kind col)).sum ∧ (l.map (sumT kind col)).sum ≤ 4800000 := by
  have hz := h.len
  have ht : ∀ t ∈ l, -120000 ≤ sumT kind col t ∧ sumT kind col t ≤ 120000 := fun t ht => by
    have hw := h.w t (hm t ht)
    simp only [sumT]
    split
    · split
      · rename_i h3
        have hn := h.num t (hm t ht) _ (getV_mem (inC_of a.col (h.two t (hm t ht)))) h3
        have := mul_small (x := t.w) (y := (getV t.row col).i) (i := 120) (j := 1000) (by omega) hn
        omega
      · omega
    · omega
  have h2 := sumF_some (kind := kind) (col := col) (B := 120000) (by omega) l 0 ht (by omega) (by omega)
  have h3 := sum_bound (f := sumT kind col) l ht
  exact ⟨by rw [h2, Int.zero_add], by omega, by omega⟩
/-- The groups of a small set are a small set. -/
theorem Ask.wd {c kind col : Int} (a : Ask [c] kind col) {z out : List It} {gs : List Gp} (h : Wd z 1 1000) (hgs : GpI [c] z gs) (hl : gs.length ≤ z.length) (ho : out = gs.map (gItem kind col)) (hm : Made out) (hok : ∀ t ∈ out, okR t.row = 0) : Wd out 1 4800000 := by
  have hll := h.len
  refine ⟨good_made.2 ⟨hm, hok⟩, by rw [ho, List.length_map]; omega, made_tot hm (by decide) fun t ht => ?_, fun t ht => ?_, fun t ht v hv h3 => ?_⟩
  · rw [ho] at ht
    obtain ⟨g, _, rfl⟩ := List.mem_map.1 ht
    simp [gItem]
  · rw [ho] at ht
    obtain ⟨g, hg, rfl⟩ := List.mem_map.1 ht
    have := hgs.atlen g hg
    simp [gItem] at this ⊢; omega
  · rw [ho] at ht
    obtain ⟨g, hg, rfl⟩ := List.mem_map.1 ht
    have hit : ∀ t ∈ g.items, t ∈ z := fun t ht => by rw [hgs.items g hg] at ht; exact (List.mem_filter.1 ht).1
    have hil : g.items.length ≤ z.length := by rw [hgs.items g hg]; exact List.length_filter_le _ _
    simp only [gItem] at hv
    have big : ∀ t ∈ z, ∀ v ∈ t.row, v.k = 3 → -4800000 ≤ v.i ∧ v.i ≤ 4800000 := fun t ht v hv h3 => by have := h.num t ht v hv h3; omega
    rcases List.mem_append.1 hv with hv | hv
    · obtain ⟨t, ht, _, e⟩ := (hgs.has g.at_).1 ⟨g, hg, rfl⟩
      rw [← e] at hv
      simp only [pickR, List.map_cons, List.map_nil, List.mem_singleton] at hv
      subst hv
      exact big t ht _ (getV_mem (inC_of (a.cs c (by simp)) (h.two t ht))) h3
    · simp only [List.mem_singleton] at hv
      subst hv
      simp only [gval] at h3 ⊢
      split
      · obtain ⟨e1, e2, e3⟩ := a.sums1 h hil hit
        rw [e1]; exact ⟨e2, e3⟩
      · rename_i hk
        rw [if_neg hk] at h3
        rcases bestF_mem kind col g.items V.nul with e | ⟨t, ht, e⟩
        · rw [e]; decide
        · simp only [Option.getD_some, e] at h3 ⊢
          exact big t (hit t ht) _ (getV_mem (inC_of a.col (h.two t (hit t ht)))) h3
/-- What is told of all is what is told of what is told of the groups. -/
theorem total {c kind col up : Int} (a : Ask [c] kind col) (hu : up = if kind = 1 then 2 else kind) {z : List It} {gs : List Gp} (h : Wd z 1 1000) (hgs : GpI [c] z gs) (hl : gs.length ≤ z.length) :
    (allG z).map (gItem kind col) = (allG (gs.map (gItem kind col))).map (gItem up 1) := by
  have hnz : ∀ t ∈ z, t.w ≠ 0 := fun t ht => (h.made.nz t ht).1
  have hpos : (gs.map (gItem kind col)).filter posI = gs.map (gItem kind col) := by
    rw [List.filter_eq_self]
    intro t ht
    obtain ⟨g, _, rfl⟩ := List.mem_map.1 ht
    rfl
  have hit : ∀ g ∈ gs, ∀ t ∈ g.items, t ∈ z := fun g hg t ht => by rw [hgs.items g hg] at ht; exact (List.mem_filter.1 ht).1
  have hil : ∀ g ∈ gs, g.items.length ≤ z.length := fun g hg => by rw [hgs.items g hg]; exact List.length_filter_le _ _
  have hval : ∀ g ∈ gs, getV (gItem kind col g).row 1 = (gval kind col g).getD V.zero := fun g hg => by
    obtain ⟨x, hx⟩ := len_one (hgs.atlen g hg)
    rw [gItem, hx]; rfl
  by_cases hemp : z.filter posI = []
  · have : gs = [] := by
      cases gs with
      | nil => rfl
      | cons g r =>
        obtain ⟨t, ht, hw, _⟩ := (hgs.has g.at_).1 ⟨g, by simp, rfl⟩
        have := hnz t ht
        have h2 : t ∈ z.filter posI := List.mem_filter.2 ⟨ht, by simp [posI]; omega⟩
        rw [hemp] at h2; cases h2
    subst this
    simp [allG, hemp]
  · have hne : gs ≠ [] := fun e => by
      obtain ⟨t, ht⟩ := List.exists_mem_of_ne_nil _ hemp
      obtain ⟨h1, h2⟩ := List.mem_filter.1 ht
      simp only [posI, decide_eq_true_eq] at h2
      obtain ⟨g, hg, _⟩ := hgs.all t h1 (by omega)
      rw [e] at hg; cases hg
    have hne2 : gs.map (gItem kind col) ≠ [] := fun e => hne (List.map_eq_nil_iff.1 e)
    simp only [allG, hemp, hpos, hne2, if_false, List.map_cons, List.map_nil]
    have key : gval kind col ⟨[], z.filter posI⟩ = gval up 1 ⟨[], gs.map (gItem kind col)⟩ := by
      by_cases hk : kind = 1 ∨ kind = 2
      · have hu2 : up = 2 := by rcases hk with hk | hk <;> simp [hu, hk]
        obtain ⟨e1, e2, e3⟩ := a.sums1 h (l := z.filter posI) (List.length_filter_le _ _) fun t ht => (List.mem_filter.1 ht).1
        have hs : ∀ g ∈ gs, sumT 2 1 (gItem kind col g) = (g.items.map (sumT kind col)).sum := fun g hg => by
          obtain ⟨f1, _⟩ := a.sums1 h (hil g hg) (hit g hg)
          have hv := hval g hg
          rw [gval, if_pos hk, f1] at hv
          simp only [sumT, hv]
          simp [gItem]
        have hb : ∀ t ∈ gs.map (gItem kind col), -4800000 ≤ sumT 2 1 t ∧ sumT 2 1 t ≤ 4800000 := fun t ht => by
          obtain ⟨g, hg, rfl⟩ := List.mem_map.1 ht
          rw [hs g hg]
          exact (a.sums1 h (hil g hg) (hit g hg)).2
        have hgl : gs.length ≤ 40 := by have := h.len; omega
        have h2 := sumF_some (kind := 2) (col := 1) (B := 4800000) (by omega) (gs.map (gItem kind col)) 0 hb (by rw [List.length_map]; omega) (by rw [List.length_map]; omega)
        simp only [gval, hk, hu2, if_true, or_true]
        rw [e1, h2, Int.zero_add, ← hgs.part hnz, List.map_map]
        have e5 : gs.map (sumT 2 1 ∘ gItem kind col) = gs.map fun g => (g.items.map (sumT kind col)).sum := List.map_congr_left hs
        rw [e5]
      · have hk2 : kind = 3 ∨ kind = 4 := by have := a.k1; have := a.k2; omega
        have hu2 : up = kind := by rw [hu, if_neg (by omega)]
        have hn : ¬ (up = 1 ∨ up = 2) := by rw [hu2]; exact hk
        simp only [gval, hk, hn, if_false, Option.some.injEq]
        have b1 := bestF_best (col := col) hk2 (z.filter posI)
        have b2 := bestF_best (kind := up) (col := 1) (by rw [hu2]; exact hk2) (gs.map (gItem kind col))
        rw [List.map_map, hu2] at b2
        have e5 : gs.map ((fun t => getV t.row 1) ∘ gItem kind col) = gs.map fun g => bestF kind col g.items V.nul := List.map_congr_left fun g hg => by
          simp only [Function.comp]
          rw [hval g hg, gval, if_neg hk]; rfl
        rw [e5] at b2
        have b3 := Best.join (vals := fun g : Gp => g.items.map fun t => getV t.row col) (fun g _ => bestF_best (col := col) hk2 g.items) b2
        rw [hu2]
        refine b1.uniq b3 fun v _ => ?_
        simp only [List.mem_flatMap, List.mem_map]
        constructor
        · rintro ⟨t, ht, e⟩
          obtain ⟨h1, h2⟩ := List.mem_filter.1 ht
          simp only [posI, decide_eq_true_eq] at h2
          obtain ⟨g, hg, e2⟩ := hgs.all t h1 (by omega)
          refine ⟨g, hg, t, ?_, e⟩
          rw [hgs.items g hg]
          refine List.mem_filter.2 ⟨h1, ?_⟩
          have : ¬ t.w < 0 := by omega
          simp [this, e2, cmpR_self]
        · rintro ⟨g, hg, t, ht, e⟩
          have := hit g hg t ht
          rw [hgs.items g hg] at ht
          have h2 := (List.mem_filter.1 ht).2
          simp at h2
          have h3 := hnz t this
          exact ⟨t, List.mem_filter.2 ⟨this, by simp [posI]; omega⟩, e⟩
    simp only [gItem, key]
theorem c20 (l : List It) (c : Int) (hl : l.length < 4611686018427387904) (hr : ∀ t ∈ l, t.row.length < 4611686018427387904) : Spec0 Try.prog 20 [setA l, iA c] (· = bA true) := by
  refine spec0_of_vc tabOk elems ord20 Try.func20 rfl (rl := [.tmp 4]) rfl (by kernel_rfl) rfl ?_
  (simp -implicitDefEqProofs only [go_sem, setA]; repeat (refine GO ?_; simp -implicitDefEqProofs only [go_sem, setA]))
  refine .lendTo (s10 [l] (by simp) (by simpa using hl) (by simpa using hr)) ?_ (by rintro _ rfl; rfl) fun r hq => ?_
  · (simp -implicitDefEqProofs only [go_sem, setsA, setA]; repeat (refine GO ?_; simp -implicitDefEqProofs only [go_sem, setsA, setA]))
    rfl
  subst hq
  (simp -implicitDefEqProofs only [go_sem, bA]; repeat (refine GO ?_; simp -implicitDefEqProofs only [go_sem, bA]))
  refine VIF.split (fun hb => ?_) (fun hb => ?_)
  · (simp -implicitDefEqProofs only [go_sem, bA]; repeat (refine GO ?_; simp -implicitDefEqProofs only [go_sem, bA]))
  have hb : heavyS l = false := by simpa [List.any_cons] using hb
  obtain ⟨hl0, hr0⟩ := not_heavyS hb
  simp -implicitDefEqProofs only [go_sem]
  refine TO [] [(0, setA l), (1, iA c)] [] [] rfl ?_ ?_
  · (simp -implicitDefEqProofs only [go_sem, setA, bA, iA]; repeat (refine GO ?_; simp -implicitDefEqProofs only [go_sem, setA, bA, iA]))
    exact id
  (simp -implicitDefEqProofs only [go_sem, setA]; repeat (refine GO ?_; simp -implicitDefEqProofs only [go_sem, setA]))
  refine .pure _ (show Spec0 Try.prog 66 [setA l] _ from c66 l (by omega) (fun t ht => by have := hr0 t ht; omega)) rfl fun r hq _ => ?_
  obtain ⟨z, rfl, e0, hz⟩ := hq
  have hz := wide_wd hz
  have lz := hz.len
  have hnz : ∀ t ∈ z, t.w ≠ 0 := fun t ht => (hz.made.nz t ht).1
  obtain ⟨c0, ho6, ho7, ho8⟩ := u64_rem c 2 (by decide) (by decide)
  have u0 : IntKind.i64.wrap (1 - (c0 : Int)) = 1 - (c0 : Int) := by rw [wrap_i64] <;> omega
  (simp -implicitDefEqProofs only [go_sem, iA, ho6, ho8, u0]; repeat (refine GO ?_; simp -implicitDefEqProofs only [go_sem, iA, ho6, ho8, u0]))
  refine ⟨by decide, by decide, ?_⟩
  obtain ⟨cc, hcc⟩ : ∃ cc : Int, cc = (c0 : Int) := ⟨_, rfl⟩
  rw [← hcc]
  refine LOOP.mk (ι := { i : Nat // 1 ≤ i ∧ i ≤ 5 }) (fun i => mkS [(5, setA z), (6, intsL [cc]), (7, iA (1 - cc)), (8, iA i.1)] [] []) (fun i => 5 - i.1) ⟨1, by decide⟩ [] rfl rfl ?_ (fun i => ?_)
  · (simp -implicitDefEqProofs only [go_sem, setA, intsL, iA]; repeat (refine GO ?_; simp -implicitDefEqProofs only [go_sem, setA, intsL, iA]))
    exact ⟨id, ⟨by decide, _, rfl, by simp [Ob.leafy, AV.leaf, iA], rfl, rfl⟩, rfl⟩
  obtain ⟨i, hi1, hi2⟩ := i
  (simp -implicitDefEqProofs only [go_sem, setA, intsL, iA]; repeat (refine GO ?_; simp -implicitDefEqProofs only [go_sem, setA, intsL, iA]))
  refine VIF.split (fun h => ?_) (fun h => ?_)
  · have h : i ≤ 4 := by simp at h; omega
    have w1 := wrap_add1 (show i < 4611686018427387904 by omega)
    have hk : Ask [cc] i (1 - cc) := ⟨by omega, by omega, by simp, by simp; omega, by omega⟩
    have hk0 : Ask [] i (1 - cc) := ⟨by omega, by omega, by simp, by simp, by omega⟩
    (simp -implicitDefEqProofs only [go_sem]; repeat (refine GO ?_; simp -implicitDefEqProofs only [go_sem]))
    refine .pure _ (show Spec0 Try.prog 67 [setA z, intsL [cc], iA i, iA (1 - cc)] _ from g67 z [cc] i (1 - cc) (by omega) hz.r40 (by simp)) rfl fun r hq _ => ?_
    obtain ⟨a, e1, rfl, ha⟩ := hq
    obtain ⟨rfl, gs, hgs, hga, _, ma, oka, hgl⟩ := hk.group hz (by decide) (by decide) ha
    have wa := hk.wd hz hgs hgl hga ma oka
    have la := wa.len
    (simp -implicitDefEqProofs only [go_sem, setA, iA]; repeat (refine GO ?_; simp -implicitDefEqProofs only [go_sem, setA, iA]))
    refine .pure _ (show Spec0 Try.prog 67 [setA z, .nl, iA i, iA (1 - cc)] _ from g67z z i (1 - cc) (by omega) hz.r40) rfl fun r hq _ => ?_
    obtain ⟨b, e2, rfl, hb2⟩ := hq
    obtain ⟨bl, br⟩ := groupR_rows hb2
    obtain ⟨rfl, gs2, hgs2, hgb, _⟩ := hk0.group hz (by decide) (by decide) hb2
    have e3 := hgs2.uniq (gpi_nil hnz)
    (simp -implicitDefEqProofs only [go_sem, setA, iA]; repeat (refine GO ?_; simp -implicitDefEqProofs only [go_sem, setA, iA]))
    refine VIF.split (fun h1 => ?_) (fun h1 => ?_)
    · have h1 : i = 1 := by simp at h1; omega
      (simp -implicitDefEqProofs only [go_sem, setA, iA]; repeat (refine GO ?_; simp -implicitDefEqProofs only [go_sem, setA, iA]))
      refine .pure _ (show Spec0 Try.prog 67 [setA a, .nl, iA 2, iA 1] _ from g67z a 2 1 (by omega) wa.r40) rfl fun r hq _ => ?_
      obtain ⟨x, e4, rfl, hx⟩ := hq
      obtain ⟨rfl, gs4, hgs4, hgx, _⟩ := (show Ask [] 2 1 from ⟨by omega, by omega, by simp, by simp, by omega⟩).group wa (by decide) (by decide) hx
      have e5 := hgs4.uniq (gpi_nil fun t ht => (wa.made.nz t ht).1)
      have e6 : b = x := by
        rw [hgb, hgx, e3, e5, hga]
        exact total hk (by subst h1; rfl) hz hgs hgl
      subst e6
      (simp -implicitDefEqProofs only [go_sem, setA, iA]; repeat (refine GO ?_; simp -implicitDefEqProofs only [go_sem, setA, iA]))
      refine VIF.ff (by simp) ?_
      (simp -implicitDefEqProofs only [go_sem]; repeat (refine GO ?_; simp -implicitDefEqProofs only [go_sem]))
      refine VIF.ff (by simp) ?_
      (simp -implicitDefEqProofs only [go_sem]; repeat (refine GO ?_; simp -implicitDefEqProofs only [go_sem]))
      refine VIF.ff (by simp) ?_
      (simp -implicitDefEqProofs only [go_sem, setA, iA]; repeat (refine GO ?_; simp -implicitDefEqProofs only [go_sem, setA, iA]))
      refine .pure _ (s18 b b (by omega) (by omega) (fun t ht => by have := br t ht; omega)) rfl fun r hq _ => ?_
      obtain ⟨e8, rfl, h8⟩ := hq
      have h8 := h8.2 rfl
      subst h8
      (simp -implicitDefEqProofs only [go_sem, bA, setA, w1]; repeat (refine GO ?_; simp -implicitDefEqProofs only [go_sem, bA, setA, w1]))
      refine BACK.mk ⟨i + 1, by omega⟩ [] rfl rfl (by show 5 - (i + 1) < 5 - i; omega) ?_
      (simp -implicitDefEqProofs only [go_sem, setA, iA, intsL, w1]; repeat (refine GO ?_; simp -implicitDefEqProofs only [go_sem, setA, iA, intsL, w1]))
      exact id
    · have h1 : i ≠ 1 := by simp at h1; omega
      (simp -implicitDefEqProofs only [go_sem, setA, iA]; repeat (refine GO ?_; simp -implicitDefEqProofs only [go_sem, setA, iA]))
      refine .pure _ (show Spec0 Try.prog 67 [setA a, .nl, iA i, iA 1] _ from g67z a i 1 (by omega) wa.r40) rfl fun r hq _ => ?_
      obtain ⟨x, e4, rfl, hx⟩ := hq
      obtain ⟨rfl, gs4, hgs4, hgx, _⟩ := (show Ask [] i 1 from ⟨by omega, by omega, by simp, by simp, by omega⟩).group wa (by decide) (by decide) hx
      have e5 := hgs4.uniq (gpi_nil fun t ht => (wa.made.nz t ht).1)
      have e6 : b = x := by
        rw [hgb, hgx, e3, e5, hga]
        exact total hk (by rw [if_neg (by omega)]) hz hgs hgl
      subst e6
      (simp -implicitDefEqProofs only [go_sem, setA, iA]; repeat (refine GO ?_; simp -implicitDefEqProofs only [go_sem, setA, iA]))
      refine VIF.ff (by simp) ?_
      (simp -implicitDefEqProofs only [go_sem]; repeat (refine GO ?_; simp -implicitDefEqProofs only [go_sem]))
      refine VIF.ff (by simp) ?_
      (simp -implicitDefEqProofs only [go_sem]; repeat (refine GO ?_; simp -implicitDefEqProofs only [go_sem]))
      refine VIF.ff (by simp) ?_
      (simp -implicitDefEqProofs only [go_sem, setA, iA]; repeat (refine GO ?_; simp -implicitDefEqProofs only [go_sem, setA, iA]))
      refine .pure _ (s18 b b (by omega) (by omega) (fun t ht => by have := br t ht; omega)) rfl fun r hq _ => ?_
      obtain ⟨e8, rfl, h8⟩ := hq
      have h8 := h8.2 rfl
      subst h8
      (simp -implicitDefEqProofs only [go_sem, bA, setA, w1]; repeat (refine GO ?_; simp -implicitDefEqProofs only [go_sem, bA, setA, w1]))
      refine BACK.mk ⟨i + 1, by omega⟩ [] rfl rfl (by show 5 - (i + 1) < 5 - i; omega) ?_
      (simp -implicitDefEqProofs only [go_sem, setA, iA, intsL, w1]; repeat (refine GO ?_; simp -implicitDefEqProofs only [go_sem, setA, iA, intsL, w1]))
      exact id
  · (simp -implicitDefEqProofs only [go_sem]; repeat (refine GO ?_; simp -implicitDefEqProofs only [go_sem]))
    refine .pure _ c69 rfl fun r hq _ => ?_
    subst hq
    (simp -implicitDefEqProofs only [go_sem, bA]; repeat (refine GO ?_; simp -implicitDefEqProofs only [go_sem, bA]))
end Yt
namespace Yt
open Go Go.Vc Go.Proofs
set_option maxRecDepth 10000
set_option maxHeartbeats 8000000
set_option linter.unusedSimpArgs false
set_option linter.unusedVariables false
end Yt
namespace Yt
open Go Go.Vc Go.Proofs
set_option maxRecDepth 10000
set_option maxHeartbeats 1000000
set_option linter.unusedSimpArgs false
set_option linter.unusedVariables false
theorem gOf_mem {cols : List Int} {y : List It} {gs : List Gp} (h : GpI cols y gs) {g : Gp} (hg : g ∈ gs) : g = gOf cols y g.at_ := by
  have h2 := h.items g hg
  cases g; simp only [gOf] at *; rw [← h2]
theorem gOf_in {cols : List Int} {y : List It} {gs : List Gp} (h : GpI cols y gs) {K : List V} (hne : (gOf cols y K).items ≠ []) : gOf cols y K ∈ gs := by
  obtain ⟨t, ht⟩ := List.exists_mem_of_ne_nil _ hne
  obtain ⟨h1, h2⟩ := List.mem_filter.1 ht
  simp at h2
  obtain ⟨g, hg, e⟩ := (h.has K).2 ⟨t, h1, by omega, lin_cmpR.eq _ _ h2.2⟩
  rw [← e, ← gOf_mem h hg]; exact hg
/-- What is told of a change: all of it. -/
structure Ch (cols : List Int) (kind col : Int) (z dz s d : List It) (gs gs' : List Gp) : Prop where
  was : GpI cols z gs
  now : GpI cols s gs'
  madeA : Made (gs'.map (gItem kind col))
  madeB : Made (gs.map (gItem kind col))
  made : Made d
  tot : ∀ r, Yt.tot r d = Yt.tot r (gs'.map (gItem kind col)) - Yt.tot r (gs.map (gItem kind col))
  tots : ∀ r, Yt.tot r s = Yt.tot r z + Yt.tot r dz
  ms : Made s
  mz : Made z
theorem gmap_one {kind col : Int} {gs : List Gp} : ∀ t ∈ gs.map (gItem kind col), t.w = 1 := fun t ht => by
  obtain ⟨g, _, rfl⟩ := List.mem_map.1 ht; rfl
/-- A row of a change goes or comes. -/
theorem Ch.row {cols : List Int} {kind col : Int} {z dz s d : List It} {gs gs' : List Gp} (h : Ch cols kind col z dz s d gs gs') {t : It} (ht : t ∈ d) :
    (t.w = 1 ∧ ∃ g ∈ gs', t.row = (gItem kind col g).row ∧ ¬ ∃ g ∈ gs, t.row = (gItem kind col g).row) ∨ (t.w = -1 ∧ ∃ g ∈ gs, t.row = (gItem kind col g).row ∧ ¬ ∃ g ∈ gs', t.row = (gItem kind col g).row) := by
  have h1 := h.tot t.row
  rw [tot_made h.made ht] at h1
  have h0 := (h.made.nz t ht).1
  have mem : ∀ {gs : List Gp}, (∃ u ∈ gs.map (gItem kind col), u.row = t.row) ↔ ∃ g ∈ gs, t.row = (gItem kind col g).row := fun {gs} => by
    constructor
    · rintro ⟨u, hu, e⟩
      obtain ⟨g, hg, rfl⟩ := List.mem_map.1 hu
      exact ⟨g, hg, e.symm⟩
    · rintro ⟨g, hg, e⟩
      exact ⟨_, List.mem_map_of_mem hg, e.symm⟩
  rcases tot_one h.madeA gmap_one t.row with ⟨a, b⟩ | ⟨a, b⟩ <;> rcases tot_one h.madeB gmap_one t.row with ⟨c, e⟩ | ⟨c, e⟩
  · omega
  · rw [mem] at b e
    obtain ⟨g, hg, e2⟩ := b
    exact .inl ⟨by omega, g, hg, e2, e⟩
  · rw [mem] at b e
    obtain ⟨g, hg, e2⟩ := e
    exact .inr ⟨by omega, g, hg, e2, b⟩
  · omega
theorem Ch.len {cols : List Int} {kind col : Int} {z dz s d : List It} {gs gs' : List Gp} (h : Ch cols kind col z dz s d gs gs') {t : It} (ht : t ∈ d) : (t.w = 1 ∨ t.w = -1) ∧ t.row.length = cols.length + 1 := by
  rcases h.row ht with ⟨h1, g, hg, e, _⟩ | ⟨h1, g, hg, e, _⟩
  · exact ⟨.inl h1, by rw [e]; have := h.now.atlen g hg; simp [gItem]; omega⟩
  · exact ⟨.inr h1, by rw [e]; have := h.was.atlen g hg; simp [gItem]; omega⟩
theorem gItem_key {cols : List Int} {kind col : Int} {y : List It} {gs : List Gp} (h : GpI cols y gs) {g : Gp} (hg : g ∈ gs) : (gItem kind col g).row.take cols.length = g.at_ := by
  rw [← h.atlen g hg, gItem, List.take_left']; rfl
theorem one_of {d : List It} (hd : d.Pairwise fun a b => a.row ≠ b.row) {p : It → Bool} {t : It} (ht : t ∈ d) (hp : p t = true) (h : ∀ u ∈ d, p u = true → u.row = t.row) : (d.filter p).length = 1 := by
  have h1 : t ∈ d.filter p := List.mem_filter.2 ⟨ht, hp⟩
  have h2 := List.length_pos_of_mem h1
  rcases Nat.lt_or_ge 1 (d.filter p).length with h3 | h3
  · have h4 := List.pairwise_iff_getElem.1 (hd.filter p) 0 1 (by omega) h3 (by decide)
    have q : ∀ i (hi : i < (d.filter p).length), (d.filter p)[i].row = t.row := fun i hi => by
      obtain ⟨a, b⟩ := List.mem_filter.1 (List.getElem_mem hi)
      exact h _ a b
    exact absurd ((q 0 (by omega)).trans (q 1 h3).symm) h4
  · omega
/-- Has it the key and the weight of another one? -/
def alike (n : Nat) (t u : It) : Bool := decide (cmpR (u.row.take n) (t.row.take n) = 0) && decide (u.w = t.w)
theorem Ch.same {cols : List Int} {kind col : Int} {z dz s d : List It} {gs gs' : List Gp} (h : Ch cols kind col z dz s d gs gs') {t : It} (ht : t ∈ d) : (d.filter (alike cols.length t)).length = 1 := by
  refine one_of (made_rows h.made) ht (by simp [alike, cmpR_self]) fun u hu hp => ?_
  simp only [alike, Bool.and_eq_true, decide_eq_true_eq] at hp
  have hk := lin_cmpR.eq _ _ hp.1
  rcases h.row ht with ⟨h1, g, hg, e, _⟩ | ⟨h1, g, hg, e, _⟩ <;> rcases h.row hu with ⟨h2, g2, hg2, e2, _⟩ | ⟨h2, g2, hg2, e2, _⟩
  · rw [e, e2, gItem_key h.now hg, gItem_key h.now hg2] at hk
    rw [e, e2, gOf_mem h.now hg, gOf_mem h.now hg2, hk]
  · omega
  · omega
  · rw [e, e2, gItem_key h.was hg, gItem_key h.was hg2] at hk
    rw [e, e2, gOf_mem h.was hg, gOf_mem h.was hg2, hk]
theorem gOf_stay {cols : List Int} {z dz s : List It} (ts : ∀ r, tot r s = tot r z + tot r dz) (ms : Made s) (mz : Made z) {K : List V} (hno : ∀ t ∈ dz, pickR t.row cols ≠ K) : gOf cols s K = gOf cols z K := by
  have e : (s.filter fun t => (fun r => decide (cmpR (pickR r cols) K = 0)) t.row) = z.filter fun t => (fun r => decide (cmpR (pickR r cols) K = 0)) t.row := by
    refine made_eq (made_filter ms _) (made_filter mz _) fun r => ?_
    rw [tot_filter (fun r => decide (cmpR (pickR r cols) K = 0)), tot_filter (fun r => decide (cmpR (pickR r cols) K = 0))]
    split
    · rename_i h
      simp only [decide_eq_true_eq] at h
      have h2 := lin_cmpR.eq _ _ h
      rw [ts, tot_none (x := dz), Int.add_zero]
      intro t ht h3
      refine hno t ht ?_
      rw [lin_cmpR.eq _ _ h3]; exact h2
    · rfl
  have e2 := congrArg (List.filter fun t => !decide (t.w < 0)) e
  rw [List.filter_filter, List.filter_filter] at e2
  simp only [gOf]
  rw [e2]
theorem Ch.here {cols : List Int} {kind col : Int} {z dz s d : List It} {gs gs' : List Gp} (h : Ch cols kind col z dz s d gs gs') {t : It} (ht : t ∈ d) :
    (dz.any fun u => decide (cmpR (pickR u.row cols) (t.row.take cols.length) = 0)) = true := by
  cases hb : dz.any fun u => decide (cmpR (pickR u.row cols) (t.row.take cols.length) = 0) with
  | true => rfl
  | false =>
    rw [List.any_eq_false] at hb
    have hno : ∀ u ∈ dz, pickR u.row cols ≠ t.row.take cols.length := fun u hu e => hb u hu (by rw [e, cmpR_self]; rfl)
    have st := gOf_stay h.tots h.ms h.mz hno
    rcases h.row ht with ⟨_, g, hg, e, hn⟩ | ⟨_, g, hg, e, hn⟩
    · have hk : t.row.take cols.length = g.at_ := by rw [e, gItem_key h.now hg]
      rw [hk] at st
      have h1 := gOf_mem h.now hg
      rw [st] at h1
      have h2 := gOf_in h.was (K := g.at_) (by rw [← h1]; exact h.now.some g hg)
      exact absurd ⟨g, by rw [h1]; exact h2, e⟩ hn
    · have hk : t.row.take cols.length = g.at_ := by rw [e, gItem_key h.was hg]
      rw [hk] at st
      have h1 := gOf_mem h.was hg
      rw [← st] at h1
      have h2 := gOf_in h.now (K := g.at_) (by rw [← h1]; exact h.was.some g hg)
      exact absurd ⟨g, by rw [h1]; exact h2, e⟩ hn
theorem minR_fine {a b out : List It} {err : Int} (ha : Good a) (hb : Good b) (h1 : ∀ t ∈ a, t.w = 1) (h2 : ∀ t ∈ b, t.w = 1) (h : MinR a b out err) :
    err = 0 ∧ Made out ∧ (∀ r, tot r out = tot r a - tot r b) ∧ (∀ t ∈ out, okR t.row = 0) ∧ out.length ≤ a.length + b.length := by
  have hm : MakeR (a ++ b.map negI) out err := by
    rcases h with ⟨h, _⟩ | ⟨_, _, h⟩
    · exact absurd ⟨ha, hb⟩ h
    · exact h
  have ma := good_made.1 ha
  have mb := good_made.1 hb
  obtain ⟨g1, g2, g3, g4, g5⟩ := makeR_fine hm (by
    rw [List.any_eq_false]; intro t ht
    rcases List.mem_append.1 ht with ht | ht
    · have := (ma.1.nz t ht).2
      simp [okI, this, ma.2 t ht]
    · obtain ⟨u, hu, rfl⟩ := List.mem_map.1 ht
      have := okW_neg (mb.1.nz u hu).2
      simp [okI, negI, this, mb.2 u hu]) fun r => by
    rw [tot_append, tot_neg]
    rcases tot_one ma.1 h1 r with ⟨e, _⟩ | ⟨e, _⟩ <;> rcases tot_one mb.1 h2 r with ⟨f, _⟩ | ⟨f, _⟩ <;> (rw [e, f]; decide)
  refine ⟨g1, g2, fun r => by rw [g3, tot_append, tot_neg]; omega, fun t ht => (g4 t ht).1, by simpa using g5⟩
/-- A change of a small set is told. -/
theorem gdel_fine {cols : List Int} {kind col : Int} (a : Ask cols kind col) {z dz d : List It} {i : Nat} {err : Int} {gs : List Gp} (hz : Wd z i 1000) (hd : Wd dz 1 1000) (hi : i ≤ 12) (hgs : GpI cols z gs) (h : GDel z dz cols kind col d err) :
    err = 0 ∧ ∃ s gs', Wd s (i + 1) 1000 ∧ Ch cols kind col z dz s d gs gs' ∧ Good (gs.map (gItem kind col)) ∧ Good (gs'.map (gItem kind col)) ∧ Good d ∧ d.length ≤ 2000 ∧ gs.length ≤ 1000 ∧ gs'.length ≤ 1000 := by
  obtain ⟨now, e1, h1, h⟩ := h
  obtain ⟨rfl, ws, ts⟩ := hz.add hd (by omega) h1
  rcases h with ⟨h, _⟩ | ⟨_, x, e2, h2, h⟩
  · exact absurd rfl h
  obtain ⟨rfl, gs', hgs', hx, _, mx, okx, lx⟩ := a.group ws (by omega) (by decide) h2
  rcases h with ⟨h, _⟩ | ⟨_, y, e3, h3, h⟩
  · exact absurd rfl h
  obtain ⟨rfl, gs2, hgs2, hy, _, my, oky, ly⟩ := a.group hz (by omega) (by decide) h3
  have := hgs2.uniq hgs
  subst this
  rcases h with ⟨h, _⟩ | ⟨_, h⟩
  · exact absurd rfl h
  have gx : Good x := good_made.2 ⟨mx, okx⟩
  have gy : Good y := good_made.2 ⟨my, oky⟩
  subst hx; subst hy
  obtain ⟨g1, g2, g3, g4, g5⟩ := minR_fine gx gy gmap_one gmap_one h
  have l1 := ws.len
  have l2 := hz.len
  rw [List.length_map, List.length_map] at g5
  exact ⟨g1, now, gs', ws, ⟨hgs, hgs', mx, my, g2, g3, ts, ws.made, hz.made⟩, gy, gx, good_made.2 ⟨g2, g4⟩, by omega, by omega, by omega⟩
end Yt
namespace Yt
open Go Go.Vc Go.Proofs
set_option maxRecDepth 10000
set_option maxHeartbeats 8000000
set_option linter.unusedSimpArgs false
set_option linter.unusedVariables false
theorem addR_to {a b o out : List It} {err : Int} (ha : Good a) (hb : Good b) (hm : Made o) (ht : ∀ r, tot r o = tot r a + tot r b) (h : AddR a b out err) : out = o ∧ err = 0 := by
  have h2 : MakeR (a ++ b) out err := by
    rcases h with ⟨h, _⟩ | ⟨_, _, h⟩
    · exact absurd ⟨ha, hb⟩ h
    · exact h
  have ma := good_made.1 ha
  have mb := good_made.1 hb
  exact makeR_ok h2 (by
    rw [List.any_eq_false]; intro t ht
    rcases List.mem_append.1 ht with ht | ht
    · simp [okI, (ma.1.nz t ht).2, ma.2 t ht]
    · simp [okI, (mb.1.nz t ht).2, mb.2 t ht]) hm fun r => by rw [ht, tot_append]
theorem slc (r : List V) (n : Nat) : List.drop (Int.toNat 0) (List.take n (List.map V.c r)) = List.map V.c (r.take n) := by
  rw [show Int.toNat 0 = 0 from rfl, List.drop_zero, List.map_take]
theorem anyT {p : It → Bool} {z : List It} {i : Nat} (h : i < z.length) : (z.take (i + 1)).any p = ((z.take i).any p || p z[i]) := by
  rw [List.take_succ_eq_append_getElem h, List.any_append]; simp
theorem good_r {z : List It} (h : Good z) : ∀ t ∈ z, t.row.length ≤ 12 := fun t ht => okR_len ((good_made.1 h).2 t ht)
theorem c25 (l : List (List It)) (c k v : Int) (hl : l.length < 4611686018427387904) (hz : ∀ z ∈ l, z.length < 4611686018427387904) (hr : ∀ z ∈ l, ∀ t ∈ z, t.row.length < 4611686018427387904) :
    Spec0 Try.prog 25 [setsA l, iA c, iA k, iA v] (· = bA true) := by
  refine spec0_of_vc tabOk elems ord25 Try.func25 rfl (rl := [.tmp 8]) rfl (by kernel_rfl) rfl ?_
  (simp -implicitDefEqProofs only [go_sem, setsA, iA]; repeat (refine GO ?_; simp -implicitDefEqProofs only [go_sem, setsA, iA]))
  refine VIF.split (fun h => ?_) (fun h => ?_)
  · (simp -implicitDefEqProofs only [go_sem, bA]; repeat (refine GO ?_; simp -implicitDefEqProofs only [go_sem, bA]))
  have h : l.length ≤ 10 := by simp at h; omega
  (simp -implicitDefEqProofs only [go_sem]; repeat (refine GO ?_; simp -implicitDefEqProofs only [go_sem]))
  refine .pure _ (s10 l hl hz hr) rfl fun r hq _ => ?_
  subst hq
  (simp -implicitDefEqProofs only [go_sem, bA]; repeat (refine GO ?_; simp -implicitDefEqProofs only [go_sem, bA]))
  refine VIF.split (fun hb => ?_) (fun hb => ?_)
  · (simp -implicitDefEqProofs only [go_sem, bA]; repeat (refine GO ?_; simp -implicitDefEqProofs only [go_sem, bA]))
  have hb : ∀ z ∈ l, heavyS z = false := by
    rw [List.any_eq_false] at hb
    exact fun z hz => by simpa using hb z hz
  obtain ⟨k0, ho, ho1, ho2⟩ := u64_rem k 4 (by decide) (by decide)
  obtain ⟨v0, ho3, ho4, ho5⟩ := u64_rem v 2 (by decide) (by decide)
  obtain ⟨c0, ho6, ho7, ho8⟩ := u64_rem c 2 (by decide) (by decide)
  have u0 : IntKind.i64.wrap (1 + (k0 : Int)) = 1 + (k0 : Int) := by rw [wrap_i64] <;> omega
  (simp -implicitDefEqProofs only [go_sem, iA, ho, ho2, ho3, ho5, ho6, ho8, u0]; repeat (refine GO ?_; simp -implicitDefEqProofs only [go_sem, iA, ho, ho2, ho3, ho5, ho6, ho8, u0]))
  obtain ⟨kk, hkk⟩ : ∃ kk : Int, kk = 1 + (k0 : Int) := ⟨_, rfl⟩
  obtain ⟨cc, hcc⟩ : ∃ cc : Int, cc = (c0 : Int) := ⟨_, rfl⟩
  obtain ⟨vv, hvv⟩ : ∃ vv : Int, vv = (v0 : Int) := ⟨_, rfl⟩
  rw [← hkk, ← hcc, ← hvv]
  refine ⟨by decide, by decide, by decide, by decide, ?_⟩
  refine VIF.join (ι := { p : List Int // Ask p kk vv }) (fun p => mkS [(0, setsA l), (2, iA kk), (3, iA vv), (9, intsL p.1)] [] []) (fun h1 => ?_) (fun h1 => ?_) (fun p => ?_)
  · (simp -implicitDefEqProofs only [go_sem]; repeat (refine GO ?_; simp -implicitDefEqProofs only [go_sem]))
    refine JB.mk ⟨[], by omega, by omega, by simp, by simp, by omega⟩ [] rfl rfl ?_
    (simp -implicitDefEqProofs only [go_sem, setsA, iA, intsL]; repeat (refine GO ?_; simp -implicitDefEqProofs only [go_sem, setsA, iA, intsL]))
    exact ⟨id, rfl⟩
  · (simp -implicitDefEqProofs only [go_sem]; repeat (refine GO ?_; simp -implicitDefEqProofs only [go_sem]))
    refine JB.mk ⟨[cc], by omega, by omega, by simp, by simp; omega, by omega⟩ [] rfl rfl ?_
    (simp -implicitDefEqProofs only [go_sem, setsA, iA, intsL]; repeat (refine GO ?_; simp -implicitDefEqProofs only [go_sem, setsA, iA, intsL]))
    exact ⟨id, by decide, _, rfl, by simp [Ob.leafy, AV.leaf, iA], rfl, rfl⟩
  obtain ⟨cols, hk⟩ := p
  have hcl := hk.len
  (simp -implicitDefEqProofs only [go_sem, setsA, iA, intsL]; repeat (refine GO ?_; simp -implicitDefEqProofs only [go_sem, setsA, iA, intsL]))
  refine LOOP.mk (ι := { p : Nat × List It × List Gp // p.1 ≤ l.length ∧ Wd p.2.1 p.1 1000 ∧ GpI cols p.2.1 p.2.2 }) (fun p => mkS [(0, setsA l), (2, iA kk), (3, iA vv), (9, intsL cols), (10, setA p.1.2.1), (11, setA (p.1.2.2.map (gItem kk vv))), (12, iA p.1.1)] [] [])
    (fun p => l.length - p.1.1) ⟨(0, [], []), Nat.zero_le _, Wd.nil 0 1000, GpI.nil cols⟩ [] rfl rfl ?_ (fun p => ?_)
  · (simp -implicitDefEqProofs only [go_sem, setA, setsA, iA, intsL]; repeat (refine GO ?_; simp -implicitDefEqProofs only [go_sem, setA, setsA, iA, intsL]))
    exact ⟨id, rfl, rfl, rfl⟩
  obtain ⟨⟨i, z, gs⟩, hi, wz, hgs⟩ := p
  simp only at hi wz hgs
  have lz := wz.len
  (simp -implicitDefEqProofs only [go_sem, setA, setsA, iA, intsL]; repeat (refine GO ?_; simp -implicitDefEqProofs only [go_sem, setA, setsA, iA, intsL]))
  refine VIF.split (fun h1 => ?_) (fun h1 => ?_)
  rotate_left
  · (simp -implicitDefEqProofs only [go_sem]; repeat (refine GO ?_; simp -implicitDefEqProofs only [go_sem]))
    refine .pure _ c69 rfl fun r hq _ => ?_
    subst hq
    (simp -implicitDefEqProofs only [go_sem, bA]; repeat (refine GO ?_; simp -implicitDefEqProofs only [go_sem, bA]))
  have h1 : i < l.length := by simpa using h1
  have w1 := wrap_add1 (show i < 4611686018427387904 by omega)
  obtain ⟨hl0, hr0⟩ := not_heavyS (hb l[i] (List.getElem_mem h1))
  (simp -implicitDefEqProofs only [go_sem]; repeat (refine GO ?_; simp -implicitDefEqProofs only [go_sem]))
  refine EL.map h1 ?_
  (simp -implicitDefEqProofs only [go_sem, setA]; repeat (refine GO ?_; simp -implicitDefEqProofs only [go_sem, setA]))
  refine .pure _ (show Spec0 Try.prog 66 [setA l[i]] _ from c66 l[i] (by omega) (fun t ht => by have := hr0 t ht; omega)) rfl fun r hq _ => ?_
  obtain ⟨dz, rfl, e0, hdz⟩ := hq
  have wd := wide_wd hdz
  have ld := wd.len
  (simp -implicitDefEqProofs only [go_sem, setA, iA]; repeat (refine GO ?_; simp -implicitDefEqProofs only [go_sem, setA, iA]))
  refine .pure _ (show Spec0 Try.prog 72 [setA z, setA dz, intsL cols, iA kk, iA vv] _ from c72 z dz cols kk vv (by omega) wz.r40 wd.r40 (by omega)) rfl fun r hq _ => ?_
  obtain ⟨d, e, rfl, hd⟩ := hq
  obtain ⟨rfl, s, gs', ws, hc, gb, ga, gd, ldl, lgs, lgs'⟩ := gdel_fine hk wz wd (by omega) hgs hd
  (simp -implicitDefEqProofs only [go_sem, setA, iA]; repeat (refine GO ?_; simp -implicitDefEqProofs only [go_sem, setA, iA]))
  refine .pure _ (Spec1.setE (s23 z dz (by omega) wz.r40 wd.r40)) rfl fun r hq _ => ?_
  obtain ⟨s2, e, rfl, hs⟩ := hq
  obtain ⟨rfl, rfl⟩ := addR_to wz.good wd.good ws.made hc.tots hs
  (simp -implicitDefEqProofs only [go_sem, iA, setA]; repeat (refine GO ?_; simp -implicitDefEqProofs only [go_sem, iA, setA]))
  obtain ⟨out, hout⟩ : ∃ out, out = gs.map (gItem kk vv) := ⟨_, rfl⟩
  obtain ⟨o2, ho2⟩ : ∃ o2, o2 = gs'.map (gItem kk vv) := ⟨_, rfl⟩
  have lout : out.length ≤ 1000 := by rw [hout, List.length_map]; exact lgs
  have lo2 : o2.length ≤ 1000 := by rw [ho2, List.length_map]; exact lgs'
  rw [← hout] at gb
  rw [← ho2] at ga
  rw [← hout]
  have ob := good_r gb
  have od := good_r gd
  have oa := good_r ga
  refine .pure _ (Spec1.setE (s23 out d (by omega) (fun t ht => by have := ob t ht; omega) (fun t ht => by have := od t ht; omega))) rfl fun r hq _ => ?_
  obtain ⟨o, e, rfl, ho⟩ := hq
  obtain ⟨rfl, rfl⟩ := addR_to (o := o2) gb gd (good_made.1 ga).1 (fun r => by have := hc.tot r; rw [← ho2, ← hout] at this; omega) ho
  (simp -implicitDefEqProofs only [go_sem, iA, setA]; repeat (refine GO ?_; simp -implicitDefEqProofs only [go_sem, iA, setA]))
  refine .pure _ (show Spec0 Try.prog 67 [setA s2, intsL cols, iA kk, iA vv] _ from g67 s2 cols kk vv (by have := ws.len; omega) ws.r40 (by omega)) rfl fun r hq _ => ?_
  obtain ⟨w, e, rfl, hw⟩ := hq
  obtain ⟨rfl, gs2, hgs2, hw2, _⟩ := hk.group ws (by omega) (by decide) hw
  have := hgs2.uniq hc.now
  subst this
  have hwo : w = o := by rw [hw2, ho2]
  subst hwo
  (simp -implicitDefEqProofs only [go_sem, iA, setA]; repeat (refine GO ?_; simp -implicitDefEqProofs only [go_sem, iA, setA]))
  refine VIF.ff (by simp) ?_
  (simp -implicitDefEqProofs only [go_sem]; repeat (refine GO ?_; simp -implicitDefEqProofs only [go_sem]))
  refine VIF.ff (by simp) ?_
  (simp -implicitDefEqProofs only [go_sem]; repeat (refine GO ?_; simp -implicitDefEqProofs only [go_sem]))
  refine VIF.ff (by simp) ?_
  (simp -implicitDefEqProofs only [go_sem]; repeat (refine GO ?_; simp -implicitDefEqProofs only [go_sem]))
  refine VIF.ff (by simp) ?_
  (simp -implicitDefEqProofs only [go_sem, setA]; repeat (refine GO ?_; simp -implicitDefEqProofs only [go_sem, setA]))
  refine .pure _ (s18 w w (by omega) (by omega) (fun t ht => by have := oa t ht; omega)) rfl fun r hq _ => ?_
  obtain ⟨e2, rfl, h2⟩ := hq
  have h2 := h2.2 rfl
  subst h2
  (simp -implicitDefEqProofs only [go_sem, bA, setA]; repeat (refine GO ?_; simp -implicitDefEqProofs only [go_sem, bA, setA]))
  have wc := wrap_add1 (show cols.length < 4611686018427387904 by omega)
  refine LOOP.mk (ι := { j : Nat // j ≤ d.length }) (fun j => mkS [(0, setsA l), (2, iA kk), (3, iA vv), (9, intsL cols), (12, iA i), (13, setA dz), (14, setA d), (16, setA s2), (18, setA w), (22, iA j.1)] [] [])
    (fun j => d.length - j.1) ⟨0, Nat.zero_le _⟩ [] rfl rfl ?_ (fun j => ?_)
  · (simp -implicitDefEqProofs only [go_sem, setA, setsA, iA, intsL]; repeat (refine GO ?_; simp -implicitDefEqProofs only [go_sem, setA, setsA, iA, intsL]))
    exact ⟨id, rfl⟩
  obtain ⟨j, hj⟩ := j
  (simp -implicitDefEqProofs only [go_sem, setA, setsA, iA, intsL]; repeat (refine GO ?_; simp -implicitDefEqProofs only [go_sem, setA, setsA, iA, intsL]))
  refine VIF.split (fun h3 => ?_) (fun h3 => ?_)
  rotate_left
  · have h3 : j = d.length := by simp at h3; omega
    (simp -implicitDefEqProofs only [go_sem, w1]; repeat (refine GO ?_; simp -implicitDefEqProofs only [go_sem, w1]))
    refine BACK.mk ⟨(i + 1, s2, gs2), by simp only; omega, ws, hc.now⟩ [] rfl rfl (by show l.length - (i + 1) < l.length - i; omega) ?_
    (simp -implicitDefEqProofs only [go_sem, setA, setsA, iA, intsL, w1]; repeat (refine GO ?_; simp -implicitDefEqProofs only [go_sem, setA, setsA, iA, intsL, w1]))
    exact ⟨id, by rw [ho2]⟩
  have h3 : j < d.length := by simpa using h3
  have w2 := wrap_add1 (show j < 4611686018427387904 by omega)
  have hm := List.getElem_mem h3
  obtain ⟨q1, q2⟩ := hc.len hm
  have q3 := hc.same hm
  have q4 := hc.here hm
  (simp -implicitDefEqProofs only [go_sem]; repeat (refine GO ?_; simp -implicitDefEqProofs only [go_sem]))
  refine EL.map h3 ?_
  (simp -implicitDefEqProofs only [go_sem, It.c, iA]; repeat (refine GO ?_; simp -implicitDefEqProofs only [go_sem, It.c, iA]))
  refine VIF.split (fun h4 => ?_) (fun h4 => ?_)
  have h4 : d[j].w ≠ 1 := by simpa using h4
  (simp -implicitDefEqProofs only [go_sem]; repeat (refine GO ?_; simp -implicitDefEqProofs only [go_sem]))
  refine EL.map h3 ?_
  (simp -implicitDefEqProofs only [go_sem, It.c, iA]; repeat (refine GO ?_; simp -implicitDefEqProofs only [go_sem, It.c, iA]))
  refine VIF.ff (by simp; omega) ?_
  (simp -implicitDefEqProofs only [go_sem, wc]; repeat (refine GO ?_; simp -implicitDefEqProofs only [go_sem, wc]))
  refine EL.map h3 ?_
  (simp -implicitDefEqProofs only [go_sem, It.c, iA, rowA, wc]; repeat (refine GO ?_; simp -implicitDefEqProofs only [go_sem, It.c, iA, rowA, wc]))
  refine VIF.ff (by simp [q2]) ?_
  (simp -implicitDefEqProofs only [go_sem]; repeat (refine GO ?_; simp -implicitDefEqProofs only [go_sem]))
  refine LOOP.mk (ι := { k : Nat // k ≤ d.length }) (fun m => mkS [(0, setsA l), (2, iA kk), (3, iA vv), (9, intsL cols), (12, iA i), (13, setA dz), (14, setA d), (16, setA s2), (18, setA w), (22, iA j), (23, iA ((d.take m.1).filter (alike cols.length d[j])).length), (24, bA false), (25, iA m.1)] [] [])
    (fun m => d.length - m.1) ⟨0, Nat.zero_le _⟩ [] rfl rfl ?_ ?_
  · (simp -implicitDefEqProofs only [go_sem, setA, setsA, iA, intsL, bA]; repeat (refine GO ?_; simp -implicitDefEqProofs only [go_sem, setA, setsA, iA, intsL, bA]))
    exact ⟨id, rfl, rfl⟩
  rotate_left
  (simp -implicitDefEqProofs only [go_sem]; repeat (refine GO ?_; simp -implicitDefEqProofs only [go_sem]))
  refine EL.map h3 ?_
  (simp -implicitDefEqProofs only [go_sem, It.c, iA, rowA, wc]; repeat (refine GO ?_; simp -implicitDefEqProofs only [go_sem, It.c, iA, rowA, wc]))
  refine VIF.ff (by simp [q2]) ?_
  (simp -implicitDefEqProofs only [go_sem]; repeat (refine GO ?_; simp -implicitDefEqProofs only [go_sem]))
  refine LOOP.mk (ι := { k : Nat // k ≤ d.length }) (fun m => mkS [(0, setsA l), (2, iA kk), (3, iA vv), (9, intsL cols), (12, iA i), (13, setA dz), (14, setA d), (16, setA s2), (18, setA w), (22, iA j), (23, iA ((d.take m.1).filter (alike cols.length d[j])).length), (24, bA false), (25, iA m.1)] [] [])
    (fun m => d.length - m.1) ⟨0, Nat.zero_le _⟩ [] rfl rfl ?_ ?_
  · (simp -implicitDefEqProofs only [go_sem, setA, setsA, iA, intsL, bA]; repeat (refine GO ?_; simp -implicitDefEqProofs only [go_sem, setA, setsA, iA, intsL, bA]))
    exact ⟨id, rfl, rfl⟩
  all_goals
    rintro ⟨m, hmm⟩
    (simp -implicitDefEqProofs only [go_sem, setA, setsA, iA, intsL, bA]; repeat (refine GO ?_; simp -implicitDefEqProofs only [go_sem, setA, setsA, iA, intsL, bA]))
    refine VIF.split (fun h5 => ?_) (fun h5 => ?_)
    · have h5 : m < d.length := by simpa using h5
      have w3 := wrap_add1 (show m < 4611686018427387904 by omega)
      have hmm2 := List.getElem_mem h5
      obtain ⟨p1, p2⟩ := hc.len hmm2
      have fs := filt_step (p := alike cols.length d[j]) h5
      (simp -implicitDefEqProofs only [go_sem]; repeat (refine GO ?_; simp -implicitDefEqProofs only [go_sem]))
      refine EL.map h5 ?_
      (simp -implicitDefEqProofs only [go_sem, It.c, iA, rowA, wc]; repeat (refine GO ?_; simp -implicitDefEqProofs only [go_sem, It.c, iA, rowA, wc]))
      refine VIF.tt (by simp [p2]) ?_
      (simp -implicitDefEqProofs only [go_sem]; repeat (refine GO ?_; simp -implicitDefEqProofs only [go_sem]))
      refine EL.map h5 ?_
      (simp -implicitDefEqProofs only [go_sem, It.c, iA, rowA]; repeat (refine GO ?_; simp -implicitDefEqProofs only [go_sem, It.c, iA, rowA]))
      refine ⟨⟨Int.le_refl 0, by omega⟩, EL.map h3 ?_⟩
      (simp -implicitDefEqProofs only [go_sem, It.c, iA, rowA]; repeat (refine GO ?_; simp -implicitDefEqProofs only [go_sem, It.c, iA, rowA]))
      refine ⟨⟨Int.le_refl 0, by omega⟩, ?_⟩
      (simp -implicitDefEqProofs only [go_sem, slc]; repeat (refine GO ?_; simp -implicitDefEqProofs only [go_sem, slc]))
      have l1 : (d[m].row.take cols.length).length < 4611686018427387904 := by rw [List.length_take]; omega
      refine .pure _ (show Spec0 Try.prog 41 [rowA (d[m].row.take cols.length), rowA (d[j].row.take cols.length)] _ from s14 _ _ l1) rfl fun r hq _ => ?_
      obtain ⟨e, rfl, h6⟩ := hq
      have lm := hmm2
      have fl : ((d.take m).filter (alike cols.length d[j])).length ≤ 2000 := by
        have := List.length_filter_le (alike cols.length d[j]) (d.take m)
        rw [List.length_take] at this; omega
      have w4 := wrap_add1 (show ((d.take m).filter (alike cols.length d[j])).length < 4611686018427387904 by omega)
      (simp -implicitDefEqProofs only [go_sem, bA]; repeat (refine GO ?_; simp -implicitDefEqProofs only [go_sem, bA]))
      refine VIF.split (fun h7 => ?_) (fun h7 => ?_)
      · have h8 := h6.1 h7
        (simp -implicitDefEqProofs only [go_sem]; repeat (refine GO ?_; simp -implicitDefEqProofs only [go_sem]))
        refine EL.map h5 ?_
        (simp -implicitDefEqProofs only [go_sem, It.c, iA]; repeat (refine GO ?_; simp -implicitDefEqProofs only [go_sem, It.c, iA]))
        refine EL.map h3 ?_
        (simp -implicitDefEqProofs only [go_sem, It.c, iA]; repeat (refine GO ?_; simp -implicitDefEqProofs only [go_sem, It.c, iA]))
        refine VIF.split (fun h9 => ?_) (fun h9 => ?_)
        · have h9 : d[m].w = d[j].w := by simpa using h9
          have yes : alike cols.length d[j] d[m] = true := by simp [alike, h8, h9, cmpR_self]
          rw [yes, if_pos rfl] at fs
          (simp -implicitDefEqProofs only [go_sem, w4, w3]; repeat (refine GO ?_; simp -implicitDefEqProofs only [go_sem, w4, w3]))
          refine BACK.mk ⟨m + 1, by omega⟩ [] rfl rfl (by show d.length - (m + 1) < d.length - m; omega) ?_
          (simp -implicitDefEqProofs only [go_sem, setA, setsA, iA, intsL, bA, fs, w3, w4]; repeat (refine GO ?_; simp -implicitDefEqProofs only [go_sem, setA, setsA, iA, intsL, bA, fs, w3, w4]))
          exact ⟨id, by simp⟩
        · have h9 : d[m].w ≠ d[j].w := by simpa using h9
          have no : alike cols.length d[j] d[m] = false := by simp [alike, h9]
          rw [no, if_neg (by decide), List.append_nil] at fs
          (simp -implicitDefEqProofs only [go_sem, w3]; repeat (refine GO ?_; simp -implicitDefEqProofs only [go_sem, w3]))
          refine BACK.mk ⟨m + 1, by omega⟩ [] rfl rfl (by show d.length - (m + 1) < d.length - m; omega) ?_
          (simp -implicitDefEqProofs only [go_sem, setA, setsA, iA, intsL, bA, fs, w3]; repeat (refine GO ?_; simp -implicitDefEqProofs only [go_sem, setA, setsA, iA, intsL, bA, fs, w3]))
          exact id
      · have no : alike cols.length d[j] d[m] = false := by
          simp only [alike]
          have : ¬ cmpR (d[m].row.take cols.length) (d[j].row.take cols.length) = 0 := fun h => by rw [h6.2 (lin_cmpR.eq _ _ h)] at h7; cases h7
          simp [this]
        rw [no, if_neg (by decide), List.append_nil] at fs
        (simp -implicitDefEqProofs only [go_sem, w3]; repeat (refine GO ?_; simp -implicitDefEqProofs only [go_sem, w3]))
        refine BACK.mk ⟨m + 1, by omega⟩ [] rfl rfl (by show d.length - (m + 1) < d.length - m; omega) ?_
        (simp -implicitDefEqProofs only [go_sem, setA, setsA, iA, intsL, bA, fs, w3]; repeat (refine GO ?_; simp -implicitDefEqProofs only [go_sem, setA, setsA, iA, intsL, bA, fs, w3]))
        exact id
    · have h5 : m = d.length := by simp at h5; omega
      subst h5
      rw [List.take_length, q3]
      (simp -implicitDefEqProofs only [go_sem]; repeat (refine GO ?_; simp -implicitDefEqProofs only [go_sem]))
      refine LOOP.mk (ι := { m : Nat // m ≤ dz.length }) (fun m => mkS [(0, setsA l), (2, iA kk), (3, iA vv), (9, intsL cols), (12, iA i), (13, setA dz), (14, setA d), (16, setA s2), (18, setA w), (22, iA j), (23, iA 1), (24, bA ((dz.take m.1).any fun u => decide (cmpR (pickR u.row cols) (List.take cols.length d[j].row) = 0))), (26, iA m.1)] [] [])
        (fun m => dz.length - m.1) ⟨0, Nat.zero_le _⟩ [] rfl rfl ?_ fun m => ?_
      · (simp -implicitDefEqProofs only [go_sem, setA, setsA, iA, intsL, bA]; repeat (refine GO ?_; simp -implicitDefEqProofs only [go_sem, setA, setsA, iA, intsL, bA]))
        exact ⟨id, rfl, rfl, rfl⟩
      obtain ⟨m, hmm⟩ := m
      (simp -implicitDefEqProofs only [go_sem, setA, setsA, iA, intsL, bA]; repeat (refine GO ?_; simp -implicitDefEqProofs only [go_sem, setA, setsA, iA, intsL, bA]))
      refine VIF.split (fun h5 => ?_) (fun h5 => ?_)
      · have h5 : m < dz.length := by simpa using h5
        have w3 := wrap_add1 (show m < 4611686018427387904 by omega)
        have hmm2 := List.getElem_mem h5
        have hrl := wd.r40 _ hmm2
        have hpk : pickE dz[m].row cols = 0 := pickE_of hk.cs (by omega) (wd.two _ hmm2)
        (simp -implicitDefEqProofs only [go_sem]; repeat (refine GO ?_; simp -implicitDefEqProofs only [go_sem]))
        refine EL.map h5 ?_
        (simp -implicitDefEqProofs only [go_sem, It.c, iA, rowA]; repeat (refine GO ?_; simp -implicitDefEqProofs only [go_sem, It.c, iA, rowA]))
        refine .pure _ (show Spec0 Try.prog 61 [rowA dz[m].row, intsL cols] _ from Spec1.rowE (c61 dz[m].row cols hrl (by omega))) rfl fun r hq _ => ?_
        obtain ⟨out2, err, rfl, rfl, hk1, _⟩ := hq
        have hk1 := hk1 hpk
        subst hk1
        (simp -implicitDefEqProofs only [go_sem, iA, rowA]; repeat (refine GO ?_; simp -implicitDefEqProofs only [go_sem, iA, rowA]))
        have fs := anyT (p := fun u => decide (cmpR (pickR u.row cols) (List.take cols.length d[j].row) = 0)) h5
        refine VIF.split (fun h6 => ?_) (fun h6 => ?_)
        · rw [h6, Bool.true_or] at fs
          (simp -implicitDefEqProofs only [go_sem, w3]; repeat (refine GO ?_; simp -implicitDefEqProofs only [go_sem, w3]))
          refine BACK.mk ⟨m + 1, by omega⟩ [] rfl rfl (by show dz.length - (m + 1) < dz.length - m; omega) ?_
          (simp -implicitDefEqProofs only [go_sem, setA, setsA, iA, intsL, bA, fs, w3]; repeat (refine GO ?_; simp -implicitDefEqProofs only [go_sem, setA, setsA, iA, intsL, bA, fs, w3]))
          exact id
        · rw [h6, Bool.false_or] at fs
          (simp -implicitDefEqProofs only [go_sem]; repeat (refine GO ?_; simp -implicitDefEqProofs only [go_sem]))
          refine EL.map h3 ?_
          (simp -implicitDefEqProofs only [go_sem, It.c, iA, rowA]; repeat (refine GO ?_; simp -implicitDefEqProofs only [go_sem, It.c, iA, rowA]))
          refine ⟨⟨Int.le_refl 0, by omega⟩, ?_⟩
          (simp -implicitDefEqProofs only [go_sem, slc]; repeat (refine GO ?_; simp -implicitDefEqProofs only [go_sem, slc]))
          refine .pure _ (show Spec0 Try.prog 41 [rowA (pickR dz[m].row cols), rowA (d[j].row.take cols.length)] _ from s14 _ _ (by simp [pickR]; omega)) rfl fun r hq _ => ?_
          obtain ⟨e, rfl, h7⟩ := hq
          have e2 : decide (cmpR (pickR dz[m].row cols) (List.take cols.length d[j].row) = 0) = e := by
            cases e with
            | true => rw [decide_eq_true_eq, h7.1 rfl]; exact cmpR_self _
            | false => rw [decide_eq_false_iff_not]; intro h; have := h7.2 (lin_cmpR.eq _ _ h); cases this
          rw [e2] at fs
          (simp -implicitDefEqProofs only [go_sem, bA, w3]; repeat (refine GO ?_; simp -implicitDefEqProofs only [go_sem, bA, w3]))
          refine BACK.mk ⟨m + 1, by omega⟩ [] rfl rfl (by show dz.length - (m + 1) < dz.length - m; omega) ?_
          (simp -implicitDefEqProofs only [go_sem, setA, setsA, iA, intsL, bA, fs, w3]; repeat (refine GO ?_; simp -implicitDefEqProofs only [go_sem, setA, setsA, iA, intsL, bA, fs, w3]))
          exact id
      · have h5 : m = dz.length := by simp at h5; omega
        subst h5
        rw [List.take_length, q4]
        (simp -implicitDefEqProofs only [go_sem]; repeat (refine GO ?_; simp -implicitDefEqProofs only [go_sem]))
        refine VIF.ff (by simp) ?_
        (simp -implicitDefEqProofs only [go_sem, w2]; repeat (refine GO ?_; simp -implicitDefEqProofs only [go_sem, w2]))
        refine BACK.mk ⟨j + 1, by omega⟩ [] rfl rfl (by show d.length - (j + 1) < d.length - j; omega) ?_
        (simp -implicitDefEqProofs only [go_sem, setA, setsA, iA, intsL, w2]; repeat (refine GO ?_; simp -implicitDefEqProofs only [go_sem, setA, setsA, iA, intsL, w2]))
        exact id
end Yt
namespace Yt
open Go Go.Vc Go.Proofs Go.Proofs.Ytbnbngkbngmndaa
set_option linter.unusedSimpArgs false
set_option linter.unusedVariables false
mutual
theorem bulk_le {H : Type} {B : Nat} : ∀ d : DataW H, Rows.uptoBulk d ≤ B → bulkLe B d
  | .lit l, h => by
    cases l with
    | string bs => simp only [Rows.uptoBulk] at h; simp only [bulkLe]; omega
    | _ => simp only [bulkLe]
  | .nil, _ => by simp only [bulkLe]
  | .ptr d, _ => by simp only [bulkLe]
  | .slice elems spare, h => by
    simp only [Rows.uptoBulk] at h
    have h2 := bulks_len elems
    simp only [bulkLe]
    exact ⟨by omega, bulks_le elems (by omega)⟩
  | .agg ds, h => by
    simp only [Rows.uptoBulk] at h
    simp only [bulkLe]
    exact bulks_le ds (by omega)
  | .iface _ _, _ => by simp only [bulkLe]
  | .map _, _ => by simp only [bulkLe]
  | .held _, _ => by simp only [bulkLe]
theorem bulks_le {H : Type} {B : Nat} : ∀ ds : List (DataW H), Rows.uptoBulkAll ds ≤ B → bulkLe.bulkLes B ds
  | [], _ => trivial
  | d :: r, h => by
    simp only [Rows.uptoBulkAll] at h
    exact ⟨bulk_le d (by omega), bulks_le r (by omega)⟩
theorem bulk_pos {H : Type} : ∀ d : DataW H, 1 ≤ Rows.uptoBulk d
  | .lit l => by cases l <;> simp [Rows.uptoBulk]
  | .nil => by simp [Rows.uptoBulk]
  | .ptr d => by simp [Rows.uptoBulk]
  | .slice elems spare => by simp [Rows.uptoBulk]
  | .agg ds => by simp [Rows.uptoBulk]
  | .iface _ _ => by simp [Rows.uptoBulk]
  | .map _ => by simp [Rows.uptoBulk]
  | .held _ => by simp [Rows.uptoBulk]
theorem bulks_len {H : Type} : ∀ ds : List (DataW H), ds.length ≤ Rows.uptoBulkAll ds
  | [] => by simp
  | d :: r => by
    have := bulk_pos d
    have := bulks_len r
    simp only [Rows.uptoBulkAll, List.length_cons]; omega
end
theorem bound {H : Type} {l : List (DataW H)} (hk : Rows.uptoSmall H l = true) : bulkLe.bulkLes 1048576 l := bulks_le l (of_decide_eq_true hk)
theorem kids : Kids Try.prog (· < Try.prog.types.size) := kids_rows (by kernel_rfl) (by kernel_rfl)
def szOk (P : Program) : Bool := (List.range P.types.size).all fun t => match P.underlying t with | some (.slice e) => decide (0 < P.cellsOf e) | _ => true
theorem szOk_to {P : Program} (h : szOk P = true) {t e : TypeId} (ht : t < P.types.size) (hu : P.underlying t = some (.slice e)) : 0 < P.cellsOf e := by
  have := List.all_eq_true.1 h t (by simpa using ht)
  rw [hu] at this
  simpa using this
theorem sizes {t e : TypeId} (ht : t < Try.prog.types.size) (hu : Try.prog.underlying t = some (.slice e)) : 0 < Try.prog.cellsOf e := szOk_to (by kernel_rfl) ht hu
def i64 (n : Int) : Prop := -9223372036854775808 ≤ n ∧ n ≤ 9223372036854775807
theorem i64_of {n : Int} (h : (Lit.int .i64 n).wf = true) : i64 n := by
  simp [Lit.wf, IntKind.min, IntKind.max, IntKind.signed, IntKind.bits] at h
  exact h
def V.fit (v : V) : Prop := i64 v.k ∧ i64 v.i ∧ v.s.size ≤ 1048576
def It.fit (t : It) : Prop := t.row.length ≤ 1048576 ∧ i64 t.w
theorem cellsV : Try.prog.cellsOf 25 = 3 := by kernel_rfl
theorem cellsI : Try.prog.cellsOf 27 = 2 := by kernel_rfl
theorem cellsZ : Try.prog.cellsOf 28 = 1 := by kernel_rfl
theorem shVal {avs : List AV} (h : Sh Try.prog 1048576 25 avs) : ∃ v : V, avs = v.c ∧ v.fit := by
  obtain ⟨xs, rfl, hl, hf⟩ := sh_struct Try.underlying25 h
  match xs, hl with
  | [a, b, c], _ =>
    obtain ⟨k, rfl, hk⟩ := sh_int Try.underlying3 (hf 0 _ a rfl rfl)
    obtain ⟨i, rfl, hi⟩ := sh_int Try.underlying3 (hf 1 _ b rfl rfl)
    obtain ⟨s, rfl, hs⟩ := sh_str Try.underlying9 (hf 2 _ c rfl rfl)
    exact ⟨⟨k, i, s⟩, rfl, i64_of hk, i64_of hi, hs⟩
theorem shRow {avs : List AV} (h : Sh Try.prog 1048576 23 avs) : ∃ r : List V, avs = [rowA r] ∧ r.length ≤ 1048576 := by
  obtain ⟨es, rfl, hl, he⟩ := sh_slice Try.underlying23 h
  obtain ⟨l, rfl, _⟩ := map_choose fun x hx => shVal (he x hx)
  rw [cellsV]
  exact ⟨l, rfl, by simpa using hl⟩
theorem shItem {avs : List AV} (h : Sh Try.prog 1048576 27 avs) : ∃ t : It, avs = t.c ∧ t.fit := by
  obtain ⟨xs, rfl, hl, hf⟩ := sh_struct Try.underlying27 h
  match xs, hl with
  | [a, b], _ =>
    obtain ⟨r, rfl, hr⟩ := shRow (hf 0 _ a rfl rfl)
    obtain ⟨w, rfl, hw⟩ := sh_int Try.underlying3 (hf 1 _ b rfl rfl)
    exact ⟨⟨r, w⟩, rfl, hr, i64_of hw⟩
theorem shSet {avs : List AV} (h : Sh Try.prog 1048576 28 avs) : ∃ l : List It, avs = [setA l] ∧ l.length ≤ 1048576 ∧ ∀ t ∈ l, t.fit := by
  obtain ⟨es, rfl, hl, he⟩ := sh_slice Try.underlying28 h
  obtain ⟨l, rfl, h2⟩ := map_choose fun x hx => shItem (he x hx)
  rw [cellsI]
  exact ⟨l, rfl, by simpa using hl, h2⟩
theorem shSets {avs : List AV} (h : Sh Try.prog 1048576 50 avs) : ∃ l : List (List It), avs = [setsA l] ∧ l.length ≤ 1048576 ∧ ∀ z ∈ l, z.length ≤ 1048576 ∧ ∀ t ∈ z, t.fit := by
  obtain ⟨es, rfl, hl, he⟩ := sh_slice Try.underlying50 h
  obtain ⟨l, rfl, h2⟩ := map_choose (f := fun r => [setA r]) fun x hx => shSet (he x hx)
  rw [cellsZ]
  exact ⟨l, rfl, by simpa using hl, h2⟩
theorem own : ownKnob Try.prog.godebug = none := by kernel_rfl
def signs : List Char := [Char.ofNat 104, Char.ofNat 97, Char.ofNat 114, Char.ofNat 110, Char.ofNat 101, Char.ofNat 115, Char.ofNat 115, Char.ofNat 32, Char.ofNat 55, Char.ofNat 97, Char.ofNat 99, Char.ofNat 53, Char.ofNat 53, Char.ofNat 101, Char.ofNat 99, Char.ofNat 99, Char.ofNat 52, Char.ofNat 56, Char.ofNat 55, Char.ofNat 54, Char.ofNat 48, Char.ofNat 52, Char.ofNat 56, Char.ofNat 56, Char.ofNat 97, Char.ofNat 54, Char.ofNat 55, Char.ofNat 57, Char.ofNat 100, Char.ofNat 49, Char.ofNat 99, Char.ofNat 56, Char.ofNat 101, Char.ofNat 97, Char.ofNat 56, Char.ofNat 55, Char.ofNat 56, Char.ofNat 54, Char.ofNat 98, Char.ofNat 101, Char.ofNat 100, Char.ofNat 52, Char.ofNat 56, Char.ofNat 56, Char.ofNat 100, Char.ofNat 100, Char.ofNat 48, Char.ofNat 100, Char.ofNat 54, Char.ofNat 51, Char.ofNat 99, Char.ofNat 51, Char.ofNat 53, Char.ofNat 48, Char.ofNat 57, Char.ofNat 102, Char.ofNat 54, Char.ofNat 55, Char.ofNat 48, Char.ofNat 51, Char.ofNat 102, Char.ofNat 55, Char.ofNat 101, Char.ofNat 55, Char.ofNat 98, Char.ofNat 53, Char.ofNat 102, Char.ofNat 52, Char.ofNat 53, Char.ofNat 99, Char.ofNat 100, Char.ofNat 100, Char.ofNat 32, Char.ofNat 99, Char.ofNat 117, Char.ofNat 116, Char.ofNat 32, Char.ofNat 97, Char.ofNat 116, Char.ofNat 32, Char.ofNat 114, Char.ofNat 97, Char.ofNat 100, Char.ofNat 100, Char.ofNat 108, Char.ofNat 101, Char.ofNat 47, Char.ofNat 114, Char.ofNat 97, Char.ofNat 100, Char.ofNat 100, Char.ofNat 108, Char.ofNat 101, Char.ofNat 108, Char.ofNat 97, Char.ofNat 119, Char.ofNat 49, Char.ofNat 55, Char.ofNat 46, Char.ofNat 74, Char.ofNat 111, Char.ofNat 105, Char.ofNat 110, Char.ofNat 87, Char.ofNat 105, Char.ofNat 100, Char.ofNat 101, Char.ofNat 32, Char.ofNat 114, Char.ofNat 97, Char.ofNat 100, Char.ofNat 100, Char.ofNat 108, Char.ofNat 101, Char.ofNat 47, Char.ofNat 114, Char.ofNat 97, Char.ofNat 100, Char.ofNat 100, Char.ofNat 108, Char.ofNat 101, Char.ofNat 108, Char.ofNat 97, Char.ofNat 119, Char.ofNat 49, Char.ofNat 56, Char.ofNat 46, Char.ofNat 68, Char.ofNat 105, Char.ofNat 115, Char.ofNat 116, Char.ofNat 69, Char.ofNat 120, Char.ofNat 97, Char.ofNat 99, Char.ofNat 116, Char.ofNat 32, Char.ofNat 114, Char.ofNat 97, Char.ofNat 100, Char.ofNat 100, Char.ofNat 108, Char.ofNat 101, Char.ofNat 47, Char.ofNat 114, Char.ofNat 97, Char.ofNat 100, Char.ofNat 100, Char.ofNat 108, Char.ofNat 101, Char.ofNat 108, Char.ofNat 97, Char.ofNat 119, Char.ofNat 49, Char.ofNat 56, Char.ofNat 46, Char.ofNat 68, Char.ofNat 105, Char.ofNat 115, Char.ofNat 116, Char.ofNat 83, Char.ofNat 116, Char.ofNat 101, Char.ofNat 112, Char.ofNat 115, Char.ofNat 32, Char.ofNat 114, Char.ofNat 97, Char.ofNat 100, Char.ofNat 100, Char.ofNat 108, Char.ofNat 101, Char.ofNat 47, Char.ofNat 114, Char.ofNat 97, Char.ofNat 100, Char.ofNat 100, Char.ofNat 108, Char.ofNat 101, Char.ofNat 108, Char.ofNat 97, Char.ofNat 119, Char.ofNat 49, Char.ofNat 55, Char.ofNat 46, Char.ofNat 74, Char.ofNat 111, Char.ofNat 105, Char.ofNat 110, Char.ofNat 82, Char.ofNat 111, Char.ofNat 119, Char.ofNat 115, Char.ofNat 32, Char.ofNat 114, Char.ofNat 97, Char.ofNat 100, Char.ofNat 100, Char.ofNat 108, Char.ofNat 101, Char.ofNat 47, Char.ofNat 114, Char.ofNat 97, Char.ofNat 100, Char.ofNat 100, Char.ofNat 108, Char.ofNat 101, Char.ofNat 108, Char.ofNat 97, Char.ofNat 119, Char.ofNat 49, Char.ofNat 56, Char.ofNat 46, Char.ofNat 68, Char.ofNat 105, Char.ofNat 115, Char.ofNat 116, Char.ofNat 65, Char.ofNat 100, Char.ofNat 100, Char.ofNat 115, Char.ofNat 32, Char.ofNat 114, Char.ofNat 97, Char.ofNat 100, Char.ofNat 100, Char.ofNat 108, Char.ofNat 101, Char.ofNat 47, Char.ofNat 114, Char.ofNat 97, Char.ofNat 100, Char.ofNat 100, Char.ofNat 108, Char.ofNat 101, Char.ofNat 108, Char.ofNat 97, Char.ofNat 119, Char.ofNat 49, Char.ofNat 55, Char.ofNat 46, Char.ofNat 74, Char.ofNat 111, Char.ofNat 105, Char.ofNat 110, Char.ofNat 83, Char.ofNat 119, Char.ofNat 97, Char.ofNat 112, Char.ofNat 115, Char.ofNat 32, Char.ofNat 114, Char.ofNat 97, Char.ofNat 100, Char.ofNat 100, Char.ofNat 108, Char.ofNat 101, Char.ofNat 47, Char.ofNat 114, Char.ofNat 97, Char.ofNat 100, Char.ofNat 100, Char.ofNat 108, Char.ofNat 101, Char.ofNat 108, Char.ofNat 97, Char.ofNat 119, Char.ofNat 49, Char.ofNat 56, Char.ofNat 46, Char.ofNat 68, Char.ofNat 105, Char.ofNat 115, Char.ofNat 116, Char.ofNat 70, Char.ofNat 105, Char.ofNat 108, Char.ofNat 116, Char.ofNat 101, Char.ofNat 114, Char.ofNat 115, Char.ofNat 32, Char.ofNat 114, Char.ofNat 97, Char.ofNat 100, Char.ofNat 100, Char.ofNat 108, Char.ofNat 101, Char.ofNat 47, Char.ofNat 114, Char.ofNat 97, Char.ofNat 100, Char.ofNat 100, Char.ofNat 108, Char.ofNat 101, Char.ofNat 108, Char.ofNat 97, Char.ofNat 119, Char.ofNat 49, Char.ofNat 54, Char.ofNat 46, Char.ofNat 76, Char.ofNat 105, Char.ofNat 110, Char.ofNat 84, Char.ofNat 119, Char.ofNat 105, Char.ofNat 99, Char.ofNat 101, Char.ofNat 32, Char.ofNat 114, Char.ofNat 97, Char.ofNat 100, Char.ofNat 100, Char.ofNat 108, Char.ofNat 101, Char.ofNat 47, Char.ofNat 114, Char.ofNat 97, Char.ofNat 100, Char.ofNat 100, Char.ofNat 108, Char.ofNat 101, Char.ofNat 108, Char.ofNat 97, Char.ofNat 119, Char.ofNat 49, Char.ofNat 54, Char.ofNat 46, Char.ofNat 76, Char.ofNat 105, Char.ofNat 110, Char.ofNat 87, Char.ofNat 114, Char.ofNat 97, Char.ofNat 112, Char.ofNat 115, Char.ofNat 32, Char.ofNat 114, Char.ofNat 97, Char.ofNat 100, Char.ofNat 100, Char.ofNat 108, Char.ofNat 101, Char.ofNat 47, Char.ofNat 114, Char.ofNat 97, Char.ofNat 100, Char.ofNat 100, Char.ofNat 108, Char.ofNat 101, Char.ofNat 108, Char.ofNat 97, Char.ofNat 119, Char.ofNat 49, Char.ofNat 54, Char.ofNat 46, Char.ofNat 76, Char.ofNat 105, Char.ofNat 110, Char.ofNat 69, Char.ofNat 120, Char.ofNat 97, Char.ofNat 99, Char.ofNat 116, Char.ofNat 32, Char.ofNat 114, Char.ofNat 97, Char.ofNat 100, Char.ofNat 100, Char.ofNat 108, Char.ofNat 101, Char.ofNat 47, Char.ofNat 114, Char.ofNat 97, Char.ofNat 100, Char.ofNat 100, Char.ofNat 108, Char.ofNat 101, Char.ofNat 108, Char.ofNat 97, Char.ofNat 119, Char.ofNat 49, Char.ofNat 54, Char.ofNat 46, Char.ofNat 76, Char.ofNat 105, Char.ofNat 110, Char.ofNat 83, Char.ofNat 117, Char.ofNat 109, Char.ofNat 115, Char.ofNat 32, Char.ofNat 114, Char.ofNat 97, Char.ofNat 100, Char.ofNat 100, Char.ofNat 108, Char.ofNat 101, Char.ofNat 47, Char.ofNat 114, Char.ofNat 97, Char.ofNat 100, Char.ofNat 100, Char.ofNat 108, Char.ofNat 101, Char.ofNat 108, Char.ofNat 97, Char.ofNat 119, Char.ofNat 49, Char.ofNat 54, Char.ofNat 46, Char.ofNat 76, Char.ofNat 105, Char.ofNat 110, Char.ofNat 79, Char.ofNat 102, Char.ofNat 102, Char.ofNat 32, Char.ofNat 114, Char.ofNat 97, Char.ofNat 100, Char.ofNat 100, Char.ofNat 108, Char.ofNat 101, Char.ofNat 47, Char.ofNat 114, Char.ofNat 97, Char.ofNat 100, Char.ofNat 100, Char.ofNat 108, Char.ofNat 101, Char.ofNat 108, Char.ofNat 97, Char.ofNat 119, Char.ofNat 49, Char.ofNat 54, Char.ofNat 46, Char.ofNat 76, Char.ofNat 105, Char.ofNat 110, Char.ofNat 82, Char.ofNat 111, Char.ofNat 119, Char.ofNat 115, Char.ofNat 32, Char.ofNat 114, Char.ofNat 97, Char.ofNat 100, Char.ofNat 100, Char.ofNat 108, Char.ofNat 101, Char.ofNat 47, Char.ofNat 114, Char.ofNat 97, Char.ofNat 100, Char.ofNat 100, Char.ofNat 108, Char.ofNat 101, Char.ofNat 108, Char.ofNat 97, Char.ofNat 119, Char.ofNat 49, Char.ofNat 55, Char.ofNat 46, Char.ofNat 74, Char.ofNat 111, Char.ofNat 105, Char.ofNat 110, Char.ofNat 70, Char.ofNat 105, Char.ofNat 108, Char.ofNat 116, Char.ofNat 101, Char.ofNat 114, Char.ofNat 115, Char.ofNat 32, Char.ofNat 114, Char.ofNat 97, Char.ofNat 100, Char.ofNat 100, Char.ofNat 108, Char.ofNat 101, Char.ofNat 47, Char.ofNat 114, Char.ofNat 97, Char.ofNat 100, Char.ofNat 100, Char.ofNat 108, Char.ofNat 101, Char.ofNat 108, Char.ofNat 97, Char.ofNat 119, Char.ofNat 49, Char.ofNat 55, Char.ofNat 46, Char.ofNat 74, Char.ofNat 111, Char.ofNat 105, Char.ofNat 110, Char.ofNat 69, Char.ofNat 120, Char.ofNat 97, Char.ofNat 99, Char.ofNat 116, Char.ofNat 32, Char.ofNat 114, Char.ofNat 97, Char.ofNat 100, Char.ofNat 100, Char.ofNat 108, Char.ofNat 101, Char.ofNat 47, Char.ofNat 114, Char.ofNat 97, Char.ofNat 100, Char.ofNat 100, Char.ofNat 108, Char.ofNat 101, Char.ofNat 108, Char.ofNat 97, Char.ofNat 119, Char.ofNat 49, Char.ofNat 55, Char.ofNat 46, Char.ofNat 74, Char.ofNat 111, Char.ofNat 105, Char.ofNat 110, Char.ofNat 80, Char.ofNat 97, Char.ofNat 114, Char.ofNat 116, Char.ofNat 115, Char.ofNat 32, Char.ofNat 114, Char.ofNat 97, Char.ofNat 100, Char.ofNat 100, Char.ofNat 108, Char.ofNat 101, Char.ofNat 47, Char.ofNat 114, Char.ofNat 97, Char.ofNat 100, Char.ofNat 100, Char.ofNat 108, Char.ofNat 101, Char.ofNat 108, Char.ofNat 97, Char.ofNat 119, Char.ofNat 49, Char.ofNat 57, Char.ofNat 46, Char.ofNat 65, Char.ofNat 103, Char.ofNat 103, Char.ofNat 84, Char.ofNat 101, Char.ofNat 108, Char.ofNat 108, Char.ofNat 115, Char.ofNat 32, Char.ofNat 114, Char.ofNat 97, Char.ofNat 100, Char.ofNat 100, Char.ofNat 108, Char.ofNat 101, Char.ofNat 47, Char.ofNat 114, Char.ofNat 97, Char.ofNat 100, Char.ofNat 100, Char.ofNat 108, Char.ofNat 101, Char.ofNat 108, Char.ofNat 97, Char.ofNat 119, Char.ofNat 49, Char.ofNat 57, Char.ofNat 46, Char.ofNat 65, Char.ofNat 103, Char.ofNat 103, Char.ofNat 84, Char.ofNat 111, Char.ofNat 116, Char.ofNat 97, Char.ofNat 108, Char.ofNat 32, Char.ofNat 114, Char.ofNat 97, Char.ofNat 100, Char.ofNat 100, Char.ofNat 108, Char.ofNat 101, Char.ofNat 47, Char.ofNat 114, Char.ofNat 97, Char.ofNat 100, Char.ofNat 100, Char.ofNat 108, Char.ofNat 101, Char.ofNat 108, Char.ofNat 97, Char.ofNat 119, Char.ofNat 49, Char.ofNat 57, Char.ofNat 46, Char.ofNat 65, Char.ofNat 103, Char.ofNat 103, Char.ofNat 79, Char.ofNat 118, Char.ofNat 101, Char.ofNat 114, Char.ofNat 32, Char.ofNat 114, Char.ofNat 97, Char.ofNat 100, Char.ofNat 100, Char.ofNat 108, Char.ofNat 101, Char.ofNat 47, Char.ofNat 114, Char.ofNat 97, Char.ofNat 100, Char.ofNat 100, Char.ofNat 108, Char.ofNat 101, Char.ofNat 108, Char.ofNat 97, Char.ofNat 119, Char.ofNat 49, Char.ofNat 57, Char.ofNat 46, Char.ofNat 65, Char.ofNat 103, Char.ofNat 103, Char.ofNat 83, Char.ofNat 111, Char.ofNat 109, Char.ofNat 101, Char.ofNat 32, Char.ofNat 114, Char.ofNat 97, Char.ofNat 100, Char.ofNat 100, Char.ofNat 108, Char.ofNat 101, Char.ofNat 47, Char.ofNat 114, Char.ofNat 97, Char.ofNat 100, Char.ofNat 100, Char.ofNat 108, Char.ofNat 101, Char.ofNat 108, Char.ofNat 97, Char.ofNat 119, Char.ofNat 49, Char.ofNat 57, Char.ofNat 46, Char.ofNat 65, Char.ofNat 103, Char.ofNat 103, Char.ofNat 75, Char.ofNat 101, Char.ofNat 121, Char.ofNat 115, Char.ofNat 32, Char.ofNat 114, Char.ofNat 97, Char.ofNat 100, Char.ofNat 100, Char.ofNat 108, Char.ofNat 101, Char.ofNat 47, Char.ofNat 114, Char.ofNat 97, Char.ofNat 100, Char.ofNat 100, Char.ofNat 108, Char.ofNat 101, Char.ofNat 108, Char.ofNat 97, Char.ofNat 119, Char.ofNat 49, Char.ofNat 57, Char.ofNat 46, Char.ofNat 65, Char.ofNat 103, Char.ofNat 103, Char.ofNat 69, Char.ofNat 120, Char.ofNat 97, Char.ofNat 99, Char.ofNat 116, Char.ofNat 32, Char.ofNat 114, Char.ofNat 97, Char.ofNat 100, Char.ofNat 100, Char.ofNat 108, Char.ofNat 101, Char.ofNat 47, Char.ofNat 114, Char.ofNat 97, Char.ofNat 100, Char.ofNat 100, Char.ofNat 108, Char.ofNat 101, Char.ofNat 108, Char.ofNat 97, Char.ofNat 119, Char.ofNat 49, Char.ofNat 57, Char.ofNat 46, Char.ofNat 65, Char.ofNat 103, Char.ofNat 103, Char.ofNat 65, Char.ofNat 100, Char.ofNat 100, Char.ofNat 115]
theorem words_eq : headIs Try.prog ([Char.ofNat 99, Char.ofNat 117, Char.ofNat 116] :: [[Char.ofNat 97, Char.ofNat 116], [Char.ofNat 114, Char.ofNat 97, Char.ofNat 100, Char.ofNat 100, Char.ofNat 108, Char.ofNat 101, Char.ofNat 47, Char.ofNat 114, Char.ofNat 97, Char.ofNat 100, Char.ofNat 100, Char.ofNat 108, Char.ofNat 101, Char.ofNat 108, Char.ofNat 97, Char.ofNat 119, Char.ofNat 49, Char.ofNat 55, Char.ofNat 46, Char.ofNat 74, Char.ofNat 111, Char.ofNat 105, Char.ofNat 110, Char.ofNat 87, Char.ofNat 105, Char.ofNat 100, Char.ofNat 101], [Char.ofNat 114, Char.ofNat 97, Char.ofNat 100, Char.ofNat 100, Char.ofNat 108, Char.ofNat 101, Char.ofNat 47, Char.ofNat 114, Char.ofNat 97, Char.ofNat 100, Char.ofNat 100, Char.ofNat 108, Char.ofNat 101, Char.ofNat 108, Char.ofNat 97, Char.ofNat 119, Char.ofNat 49, Char.ofNat 56, Char.ofNat 46, Char.ofNat 68, Char.ofNat 105, Char.ofNat 115, Char.ofNat 116, Char.ofNat 69, Char.ofNat 120, Char.ofNat 97, Char.ofNat 99, Char.ofNat 116], [Char.ofNat 114, Char.ofNat 97, Char.ofNat 100, Char.ofNat 100, Char.ofNat 108, Char.ofNat 101, Char.ofNat 47, Char.ofNat 114, Char.ofNat 97, Char.ofNat 100, Char.ofNat 100, Char.ofNat 108, Char.ofNat 101, Char.ofNat 108, Char.ofNat 97, Char.ofNat 119, Char.ofNat 49, Char.ofNat 56, Char.ofNat 46, Char.ofNat 68, Char.ofNat 105, Char.ofNat 115, Char.ofNat 116, Char.ofNat 83, Char.ofNat 116, Char.ofNat 101, Char.ofNat 112, Char.ofNat 115], [Char.ofNat 114, Char.ofNat 97, Char.ofNat 100, Char.ofNat 100, Char.ofNat 108, Char.ofNat 101, Char.ofNat 47, Char.ofNat 114, Char.ofNat 97, Char.ofNat 100, Char.ofNat 100, Char.ofNat 108, Char.ofNat 101, Char.ofNat 108, Char.ofNat 97, Char.ofNat 119, Char.ofNat 49, Char.ofNat 55, Char.ofNat 46, Char.ofNat 74, Char.ofNat 111, Char.ofNat 105, Char.ofNat 110, Char.ofNat 82, Char.ofNat 111, Char.ofNat 119, Char.ofNat 115], [Char.ofNat 114, Char.ofNat 97, Char.ofNat 100, Char.ofNat 100, Char.ofNat 108, Char.ofNat 101, Char.ofNat 47, Char.ofNat 114, Char.ofNat 97, Char.ofNat 100, Char.ofNat 100, Char.ofNat 108, Char.ofNat 101, Char.ofNat 108, Char.ofNat 97, Char.ofNat 119, Char.ofNat 49, Char.ofNat 56, Char.ofNat 46, Char.ofNat 68, Char.ofNat 105, Char.ofNat 115, Char.ofNat 116, Char.ofNat 65, Char.ofNat 100, Char.ofNat 100, Char.ofNat 115], [Char.ofNat 114, Char.ofNat 97, Char.ofNat 100, Char.ofNat 100, Char.ofNat 108, Char.ofNat 101, Char.ofNat 47, Char.ofNat 114, Char.ofNat 97, Char.ofNat 100, Char.ofNat 100, Char.ofNat 108, Char.ofNat 101, Char.ofNat 108, Char.ofNat 97, Char.ofNat 119, Char.ofNat 49, Char.ofNat 55, Char.ofNat 46, Char.ofNat 74, Char.ofNat 111, Char.ofNat 105, Char.ofNat 110, Char.ofNat 83, Char.ofNat 119, Char.ofNat 97, Char.ofNat 112, Char.ofNat 115], [Char.ofNat 114, Char.ofNat 97, Char.ofNat 100, Char.ofNat 100, Char.ofNat 108, Char.ofNat 101, Char.ofNat 47, Char.ofNat 114, Char.ofNat 97, Char.ofNat 100, Char.ofNat 100, Char.ofNat 108, Char.ofNat 101, Char.ofNat 108, Char.ofNat 97, Char.ofNat 119, Char.ofNat 49, Char.ofNat 56, Char.ofNat 46, Char.ofNat 68, Char.ofNat 105, Char.ofNat 115, Char.ofNat 116, Char.ofNat 70, Char.ofNat 105, Char.ofNat 108, Char.ofNat 116, Char.ofNat 101, Char.ofNat 114, Char.ofNat 115], [Char.ofNat 114, Char.ofNat 97, Char.ofNat 100, Char.ofNat 100, Char.ofNat 108, Char.ofNat 101, Char.ofNat 47, Char.ofNat 114, Char.ofNat 97, Char.ofNat 100, Char.ofNat 100, Char.ofNat 108, Char.ofNat 101, Char.ofNat 108, Char.ofNat 97, Char.ofNat 119, Char.ofNat 49, Char.ofNat 54, Char.ofNat 46, Char.ofNat 76, Char.ofNat 105, Char.ofNat 110, Char.ofNat 84, Char.ofNat 119, Char.ofNat 105, Char.ofNat 99, Char.ofNat 101], [Char.ofNat 114, Char.ofNat 97, Char.ofNat 100, Char.ofNat 100, Char.ofNat 108, Char.ofNat 101, Char.ofNat 47, Char.ofNat 114, Char.ofNat 97, Char.ofNat 100, Char.ofNat 100, Char.ofNat 108, Char.ofNat 101, Char.ofNat 108, Char.ofNat 97, Char.ofNat 119, Char.ofNat 49, Char.ofNat 54, Char.ofNat 46, Char.ofNat 76, Char.ofNat 105, Char.ofNat 110, Char.ofNat 87, Char.ofNat 114, Char.ofNat 97, Char.ofNat 112, Char.ofNat 115], [Char.ofNat 114, Char.ofNat 97, Char.ofNat 100, Char.ofNat 100, Char.ofNat 108, Char.ofNat 101, Char.ofNat 47, Char.ofNat 114, Char.ofNat 97, Char.ofNat 100, Char.ofNat 100, Char.ofNat 108, Char.ofNat 101, Char.ofNat 108, Char.ofNat 97, Char.ofNat 119, Char.ofNat 49, Char.ofNat 54, Char.ofNat 46, Char.ofNat 76, Char.ofNat 105, Char.ofNat 110, Char.ofNat 69, Char.ofNat 120, Char.ofNat 97, Char.ofNat 99, Char.ofNat 116], [Char.ofNat 114, Char.ofNat 97, Char.ofNat 100, Char.ofNat 100, Char.ofNat 108, Char.ofNat 101, Char.ofNat 47, Char.ofNat 114, Char.ofNat 97, Char.ofNat 100, Char.ofNat 100, Char.ofNat 108, Char.ofNat 101, Char.ofNat 108, Char.ofNat 97, Char.ofNat 119, Char.ofNat 49, Char.ofNat 54, Char.ofNat 46, Char.ofNat 76, Char.ofNat 105, Char.ofNat 110, Char.ofNat 83, Char.ofNat 117, Char.ofNat 109, Char.ofNat 115], [Char.ofNat 114, Char.ofNat 97, Char.ofNat 100, Char.ofNat 100, Char.ofNat 108, Char.ofNat 101, Char.ofNat 47, Char.ofNat 114, Char.ofNat 97, Char.ofNat 100, Char.ofNat 100, Char.ofNat 108, Char.ofNat 101, Char.ofNat 108, Char.ofNat 97, Char.ofNat 119, Char.ofNat 49, Char.ofNat 54, Char.ofNat 46, Char.ofNat 76, Char.ofNat 105, Char.ofNat 110, Char.ofNat 79, Char.ofNat 102, Char.ofNat 102], [Char.ofNat 114, Char.ofNat 97, Char.ofNat 100, Char.ofNat 100, Char.ofNat 108, Char.ofNat 101, Char.ofNat 47, Char.ofNat 114, Char.ofNat 97, Char.ofNat 100, Char.ofNat 100, Char.ofNat 108, Char.ofNat 101, Char.ofNat 108, Char.ofNat 97, Char.ofNat 119, Char.ofNat 49, Char.ofNat 54, Char.ofNat 46, Char.ofNat 76, Char.ofNat 105, Char.ofNat 110, Char.ofNat 82, Char.ofNat 111, Char.ofNat 119, Char.ofNat 115], [Char.ofNat 114, Char.ofNat 97, Char.ofNat 100, Char.ofNat 100, Char.ofNat 108, Char.ofNat 101, Char.ofNat 47, Char.ofNat 114, Char.ofNat 97, Char.ofNat 100, Char.ofNat 100, Char.ofNat 108, Char.ofNat 101, Char.ofNat 108, Char.ofNat 97, Char.ofNat 119, Char.ofNat 49, Char.ofNat 55, Char.ofNat 46, Char.ofNat 74, Char.ofNat 111, Char.ofNat 105, Char.ofNat 110, Char.ofNat 70, Char.ofNat 105, Char.ofNat 108, Char.ofNat 116, Char.ofNat 101, Char.ofNat 114, Char.ofNat 115], [Char.ofNat 114, Char.ofNat 97, Char.ofNat 100, Char.ofNat 100, Char.ofNat 108, Char.ofNat 101, Char.ofNat 47, Char.ofNat 114, Char.ofNat 97, Char.ofNat 100, Char.ofNat 100, Char.ofNat 108, Char.ofNat 101, Char.ofNat 108, Char.ofNat 97, Char.ofNat 119, Char.ofNat 49, Char.ofNat 55, Char.ofNat 46, Char.ofNat 74, Char.ofNat 111, Char.ofNat 105, Char.ofNat 110, Char.ofNat 69, Char.ofNat 120, Char.ofNat 97, Char.ofNat 99, Char.ofNat 116], [Char.ofNat 114, Char.ofNat 97, Char.ofNat 100, Char.ofNat 100, Char.ofNat 108, Char.ofNat 101, Char.ofNat 47, Char.ofNat 114, Char.ofNat 97, Char.ofNat 100, Char.ofNat 100, Char.ofNat 108, Char.ofNat 101, Char.ofNat 108, Char.ofNat 97, Char.ofNat 119, Char.ofNat 49, Char.ofNat 55, Char.ofNat 46, Char.ofNat 74, Char.ofNat 111, Char.ofNat 105, Char.ofNat 110, Char.ofNat 80, Char.ofNat 97, Char.ofNat 114, Char.ofNat 116, Char.ofNat 115], [Char.ofNat 114, Char.ofNat 97, Char.ofNat 100, Char.ofNat 100, Char.ofNat 108, Char.ofNat 101, Char.ofNat 47, Char.ofNat 114, Char.ofNat 97, Char.ofNat 100, Char.ofNat 100, Char.ofNat 108, Char.ofNat 101, Char.ofNat 108, Char.ofNat 97, Char.ofNat 119, Char.ofNat 49, Char.ofNat 57, Char.ofNat 46, Char.ofNat 65, Char.ofNat 103, Char.ofNat 103, Char.ofNat 84, Char.ofNat 101, Char.ofNat 108, Char.ofNat 108, Char.ofNat 115], [Char.ofNat 114, Char.ofNat 97, Char.ofNat 100, Char.ofNat 100, Char.ofNat 108, Char.ofNat 101, Char.ofNat 47, Char.ofNat 114, Char.ofNat 97, Char.ofNat 100, Char.ofNat 100, Char.ofNat 108, Char.ofNat 101, Char.ofNat 108, Char.ofNat 97, Char.ofNat 119, Char.ofNat 49, Char.ofNat 57, Char.ofNat 46, Char.ofNat 65, Char.ofNat 103, Char.ofNat 103, Char.ofNat 84, Char.ofNat 111, Char.ofNat 116, Char.ofNat 97, Char.ofNat 108], [Char.ofNat 114, Char.ofNat 97, Char.ofNat 100, Char.ofNat 100, Char.ofNat 108, Char.ofNat 101, Char.ofNat 47, Char.ofNat 114, Char.ofNat 97, Char.ofNat 100, Char.ofNat 100, Char.ofNat 108, Char.ofNat 101, Char.ofNat 108, Char.ofNat 97, Char.ofNat 119, Char.ofNat 49, Char.ofNat 57, Char.ofNat 46, Char.ofNat 65, Char.ofNat 103, Char.ofNat 103, Char.ofNat 79, Char.ofNat 118, Char.ofNat 101, Char.ofNat 114], [Char.ofNat 114, Char.ofNat 97, Char.ofNat 100, Char.ofNat 100, Char.ofNat 108, Char.ofNat 101, Char.ofNat 47, Char.ofNat 114, Char.ofNat 97, Char.ofNat 100, Char.ofNat 100, Char.ofNat 108, Char.ofNat 101, Char.ofNat 108, Char.ofNat 97, Char.ofNat 119, Char.ofNat 49, Char.ofNat 57, Char.ofNat 46, Char.ofNat 65, Char.ofNat 103, Char.ofNat 103, Char.ofNat 83, Char.ofNat 111, Char.ofNat 109, Char.ofNat 101], [Char.ofNat 114, Char.ofNat 97, Char.ofNat 100, Char.ofNat 100, Char.ofNat 108, Char.ofNat 101, Char.ofNat 47, Char.ofNat 114, Char.ofNat 97, Char.ofNat 100, Char.ofNat 100, Char.ofNat 108, Char.ofNat 101, Char.ofNat 108, Char.ofNat 97, Char.ofNat 119, Char.ofNat 49, Char.ofNat 57, Char.ofNat 46, Char.ofNat 65, Char.ofNat 103, Char.ofNat 103, Char.ofNat 75, Char.ofNat 101, Char.ofNat 121, Char.ofNat 115], [Char.ofNat 114, Char.ofNat 97, Char.ofNat 100, Char.ofNat 100, Char.ofNat 108, Char.ofNat 101, Char.ofNat 47, Char.ofNat 114, Char.ofNat 97, Char.ofNat 100, Char.ofNat 100, Char.ofNat 108, Char.ofNat 101, Char.ofNat 108, Char.ofNat 97, Char.ofNat 119, Char.ofNat 49, Char.ofNat 57, Char.ofNat 46, Char.ofNat 65, Char.ofNat 103, Char.ofNat 103, Char.ofNat 69, Char.ofNat 120, Char.ofNat 97, Char.ofNat 99, Char.ofNat 116], [Char.ofNat 114, Char.ofNat 97, Char.ofNat 100, Char.ofNat 100, Char.ofNat 108, Char.ofNat 101, Char.ofNat 47, Char.ofNat 114, Char.ofNat 97, Char.ofNat 100, Char.ofNat 100, Char.ofNat 108, Char.ofNat 101, Char.ofNat 108, Char.ofNat 97, Char.ofNat 119, Char.ofNat 49, Char.ofNat 57, Char.ofNat 46, Char.ofNat 65, Char.ofNat 103, Char.ofNat 103, Char.ofNat 65, Char.ofNat 100, Char.ofNat 100, Char.ofNat 115]]) := head_of (l := signs) (by kernel_rfl) (by kernel_rfl)
theorem laid : laidOutB Try.prog = true := by kernel_rfl
theorem rowed : mapsRowed Try.prog = true := by kernel_rfl
theorem heard : Try.prog.stopsHeard = true := by kernel_rfl
theorem plain : Try.prog.plainKeys = true := by kernel_rfl
theorem doorRows : Try.prog.doorRows = [] := by kernel_rfl
theorem laysLater : Try.prog.laysLater = false := by kernel_rfl
theorem bearsReflect : Try.prog.bearsReflect = false := by kernel_rfl
theorem cutMade : Try.prog.make = some .cut := make_of words_eq (by kernel_rfl) (by kernel_rfl)
theorem cutLifts : Try.prog.liftsFinal = false := lifts_of words_eq (by kernel_rfl) (by kernel_rfl) (by kernel_rfl)
theorem cutEnter : Try.prog.mayEnter = true := enter_of words_eq (by kernel_rfl) (by kernel_rfl) (by kernel_rfl) (by kernel_rfl) doorRows laysLater bearsReflect
end Yt
