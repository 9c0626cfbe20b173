/- Contracts of the program's functions over abstract values and states, plain facts on which these lean, and the framework of these values over the model: Products in 64 bits; what meets. Rows side by side. The pairs that meet. Sets joined. What a join is more; the wake of chapter 17. Plain facts of joins. Few; the wake of chapter 17. The law JoinParts. Rows of two columns; sums over pairs. The law JoinSwaps. The law JoinFilters. The law JoinRows. The law LinRows. The law DistFilters. The law DistAdds. The law DistSteps. Groups: what is told of each. Groups: the search among them. slices.Insert at groups: the roads, of memory itself. Groups: slices.Insert; objects of a family. The groups of a set. agg.Group. Wide sets; the wake of chapter 19; Delta. Groups of small sets: plain facts. The wake of chapter 19. agg.Delta. The law AggSome. The law AggKeys. Groups: sums and bests of parts. The law AggTotal. The law AggTells. Changes of groups: plain facts. The law AggAdds. The page's sort keeps the order of those of one row. The page's join. The page's Pick, and what it tells of a group. The conditions stand in each theorem. -/
import Derived.Test.YtbnbngkbngmndaaBe
import Derived.Test.YtbnbngkbngmndaaBd
import Derived.Shelf.RegionOpenPlain
import Derived.Shelf.Spec.SlicesInsertGrow
import Derived.Test.YtbnbngkbngmndaaBb
set_option linter.all false
namespace Yt
open Go Go.Vc Go.Proofs
set_option maxRecDepth 10000
set_option maxHeartbeats 8000000
set_option linter.unusedSimpArgs false
set_option linter.unusedVariables false
def uA (n : Int) : AV := .pr (.int .u64 n)
theorem and_32 {x : Int} (h0 : 0 ≤ x) (h1 : x < 18446744073709551616) : bitsOp .and .u64 x 4294967295 = x % 4294967296 := by
  simp only [bitsOp]
  have h1 : (BitVec.ofInt IntKind.u64.bits x &&& BitVec.ofInt IntKind.u64.bits 4294967295).toNat = (x % 4294967296).toNat := by
    rw [BitVec.toNat_and]
    have e1 : (BitVec.ofInt IntKind.u64.bits 4294967295).toNat = 2 ^ 32 - 1 := by decide
    rw [e1, Nat.and_two_pow_sub_one_eq_mod]
    simp only [BitVec.toNat_ofInt, IntKind.bits]
    omega
  rw [h1]
  simp [IntKind.wrap, IntKind.signed, IntKind.bits]; omega
theorem wrap_u64 {x : Int} (h0 : 0 ≤ x) (h1 : x < 18446744073709551616) : IntKind.u64.wrap x = x := by
  simp [IntKind.wrap, IntKind.signed, IntKind.bits]; omega
theorem mul_bd {a b : Int} (ha : 0 ≤ a ∧ a ≤ 4294967295) (hb : 0 ≤ b ∧ b ≤ 4294967295) : 0 ≤ a * b ∧ a * b ≤ 18446744065119617025 :=
  ⟨Int.mul_nonneg ha.1 hb.1, Int.le_trans (Int.mul_le_mul ha.2 hb.2 hb.1 (by decide)) (by decide)⟩
theorem mul64 {x y : Int} (hx : 0 ≤ x ∧ x < 18446744073709551616) (hy : 0 ≤ y ∧ y < 18446744073709551616) :
    IntKind.u64.wrap (IntKind.u64.wrap (IntKind.u64.wrap (x / 4294967296 * (y / 4294967296)) +
      IntKind.u64.wrap (IntKind.u64.wrap (x / 4294967296 * bitsOp .and .u64 y 4294967295) + IntKind.u64.wrap (bitsOp .and .u64 x 4294967295 * bitsOp .and .u64 y 4294967295) / 4294967296) / 4294967296) +
      IntKind.u64.wrap (bitsOp .and .u64 (IntKind.u64.wrap (IntKind.u64.wrap (x / 4294967296 * bitsOp .and .u64 y 4294967295) + IntKind.u64.wrap (bitsOp .and .u64 x 4294967295 * bitsOp .and .u64 y 4294967295) / 4294967296)) 4294967295 +
        IntKind.u64.wrap (bitsOp .and .u64 x 4294967295 * (y / 4294967296))) / 4294967296) = x * y / 18446744073709551616 := by
  rw [and_32 hx.1 hx.2, and_32 hy.1 hy.2]
  have ex : x = x / 4294967296 * 4294967296 + x % 4294967296 := by omega
  have ey : y = y / 4294967296 * 4294967296 + y % 4294967296 := by omega
  generalize hx1 : x / 4294967296 = x1 at *
  generalize hx0 : x % 4294967296 = x0 at *
  generalize hy1 : y / 4294967296 = y1 at *
  generalize hy0 : y % 4294967296 = y0 at *
  have e : x * y = x1 * y1 * 18446744073709551616 + (x1 * y0 + x0 * y1) * 4294967296 + x0 * y0 := by
    rw [ex, ey]
    simp only [Int.add_mul, Int.mul_add]
    have e1 : x1 * 4294967296 * (y1 * 4294967296) = x1 * y1 * 18446744073709551616 := by rw [Int.mul_assoc, Int.mul_left_comm 4294967296, ← Int.mul_assoc]; rfl
    have e2 : x1 * 4294967296 * y0 = x1 * y0 * 4294967296 := Int.mul_right_comm _ _ _
    have e3 : x0 * (y1 * 4294967296) = x0 * y1 * 4294967296 := (Int.mul_assoc _ _ _).symm
    rw [e1, e2, e3]
    omega
  have b1 := mul_bd (a := x1) (b := y1) (by omega) (by omega)
  have b2 := mul_bd (a := x1) (b := y0) (by omega) (by omega)
  have b3 := mul_bd (a := x0) (b := y1) (by omega) (by omega)
  have b4 := mul_bd (a := x0) (b := y0) (by omega) (by omega)
  rw [e]
  generalize x1 * y1 = d at *
  generalize x1 * y0 = a at *
  generalize x0 * y1 = c at *
  generalize x0 * y0 = b at *
  rw [wrap_u64 (x := d) (by omega) (by omega), wrap_u64 (x := a) (by omega) (by omega), wrap_u64 (x := b) (by omega) (by omega), wrap_u64 (x := c) (by omega) (by omega)]
  rw [wrap_u64 (x := a + b / 4294967296) (by omega) (by omega), and_32 (by omega) (by omega), wrap_u64 (x := (a + b / 4294967296) % 4294967296 + c) (by omega) (by omega)]
  rw [wrap_u64 (x := d + (a + b / 4294967296) / 4294967296) (by omega) (by omega), wrap_u64 (by omega) (by omega)]
  omega
theorem c115 (x y : Int) (hx : 0 ≤ x ∧ x < 18446744073709551616) (hy : 0 ≤ y ∧ y < 18446744073709551616) :
    Spec0 Try.prog 115 [uA x, uA y] (· = .tu [uA (x * y / 18446744073709551616), uA (x * y % 18446744073709551616)]) := by
  refine spec0_of_vc tabOk elems ord115 Try.func115 rfl (rl := [.tmp 4, .tmp 5]) rfl (by kernel_rfl) rfl ?_
  (simp -implicitDefEqProofs only [go_sem, uA]; repeat (refine GO ?_; simp -implicitDefEqProofs only [go_sem, uA]))
  refine ⟨by decide, by decide, by decide, by decide, by decide, ?_⟩
  (simp -implicitDefEqProofs only [go_sem, uA]; repeat (refine GO ?_; simp -implicitDefEqProofs only [go_sem, uA]))
  refine ⟨rfl, ?_⟩
  simp only [shr32]
  rw [mul64 hx hy]
  have e : IntKind.u64.wrap (x * y) = x * y % 18446744073709551616 := by simp [IntKind.wrap, IntKind.signed, IntKind.bits]
  rw [e]
theorem natAbs_mul_le (a b : Int) (k : Nat) : (a.natAbs : Int) * b.natAbs ≤ k ↔ -(k : Int) ≤ a * b ∧ a * b ≤ k := by
  have h := Int.natAbs_mul a b
  rw [← Int.natCast_mul, ← h]
  omega
def meetP (a b : List V) (cols others : List Int) : Bool := (cols.zip others).all fun p =>
  inC p.1 a.length && inC p.2 b.length && !decide ((getV a p.1).k = 1) && !decide ((getV b p.2).k = 1) && decide (cmpV (getV a p.1) (getV b p.2) = 0)
end Yt
namespace Yt
open Go Go.Vc Go.Proofs
set_option maxRecDepth 10000
set_option maxHeartbeats 8000000
set_option linter.unusedSimpArgs false
set_option linter.unusedVariables false
end Yt
namespace Yt
open Go Go.Vc Go.Proofs
set_option maxRecDepth 10000
set_option maxHeartbeats 8000000
set_option linter.unusedSimpArgs false
set_option linter.unusedVariables false
def pairL (a b : List It) (cols others : List Int) : List (It × It) := a.flatMap fun x => (b.filter fun y => meetP x.row y.row cols others).map fun y => (x, y)
def longP (p : It × It) : Bool := decide (12 < p.1.row.length + p.2.row.length)
theorem pairL_append (a a' b : List It) (cols others : List Int) : pairL (a ++ a') b cols others = pairL a b cols others ++ pairL a' b cols others := by simp [pairL]
theorem pairL_one (x : It) (b b' : List It) (cols others : List Int) : pairL [x] (b ++ b') cols others = pairL [x] b cols others ++ pairL [x] b' cols others := by simp [pairL]
theorem pairL_len (a b : List It) (cols others : List Int) : (pairL a b cols others).length ≤ a.length * b.length := by
  induction a with
  | nil => simp [pairL]
  | cons x a ih =>
    have e : pairL (x :: a) b cols others = (b.filter fun y => meetP x.row y.row cols others).map (fun y => (x, y)) ++ pairL a b cols others := by simp [pairL]
    rw [e, List.length_append, List.length_map, List.length_cons, Nat.succ_mul]
    have := List.length_filter_le (fun y => meetP x.row y.row cols others) b
    omega
theorem pairL_mem {a b : List It} {cols others : List Int} {p : It × It} (h : p ∈ pairL a b cols others) : p.1 ∈ a ∧ p.2 ∈ b ∧ meetP p.1.row p.2.row cols others = true := by
  simp only [pairL, List.mem_flatMap, List.mem_map, List.mem_filter] at h
  obtain ⟨x, hx, y, ⟨hy, hm⟩, rfl⟩ := h
  exact ⟨hx, hy, hm⟩
end Yt
namespace Yt
open Go Go.Vc Go.Proofs
set_option maxRecDepth 10000
set_option maxHeartbeats 8000000
set_option linter.unusedSimpArgs false
set_option linter.unusedVariables false
def joinI (p : It × It) : It := ⟨p.1.row ++ p.2.row, p.1.w * p.2.w⟩
def JoinR (a b : List It) (cols others : List Int) (out : List It) (err : Int) : Prop :=
  (¬ (Good a ∧ Good b) ∧ out = [] ∧ err = 1) ∨ (Good a ∧ Good b ∧ (cols.length ≠ others.length ∨ (cols.length = others.length ∧ (pairL a b cols others).any longP = true)) ∧ out = [] ∧ err = 2) ∨
  (Good a ∧ Good b ∧ cols.length = others.length ∧ (pairL a b cols others).any longP = false ∧ (∃ p ∈ pairL a b cols others, okW (p.1.w * p.2.w) = false) ∧ out = [] ∧ err = 11) ∨
  (Good a ∧ Good b ∧ cols.length = others.length ∧ (pairL a b cols others).any longP = false ∧ (∀ p ∈ pairL a b cols others, okW (p.1.w * p.2.w) = true) ∧ MakeR ((pairL a b cols others).map joinI) out err)
theorem good_w {z : List It} (h : Good z) {t : It} (ht : t ∈ z) : -72057594037927936 ≤ t.w ∧ t.w ≤ 72057594037927936 := by
  have := ((good_made.1 h).1.nz t ht).2
  simp [okW, inB] at this; exact this
end Yt
namespace Yt
open Go Go.Vc Go.Proofs
set_option maxRecDepth 10000
set_option maxHeartbeats 8000000
set_option linter.unusedSimpArgs false
set_option linter.unusedVariables false
def Thn (out : List It) (err e : Int) (Q : Prop) : Prop := (e ≠ 0 ∧ out = [] ∧ err = e) ∨ (e = 0 ∧ Q)
theorem addR_small {a b out : List It} {err : Int} {k : Nat} (h : AddR a b out err) (ha : ∀ t ∈ a, t.row.length < k) (hb : ∀ t ∈ b, t.row.length < k) : ∀ t ∈ out, t.row.length < k := fun t ht => by
  obtain ⟨u, hu, e⟩ := (addR_rows h).2 t ht
  rw [← e]
  rcases List.mem_append.1 hu with hu | hu
  · exact ha u hu
  · exact hb u hu
end Yt
namespace Yt
open Go Go.Vc Go.Proofs
set_option maxRecDepth 10000
set_option maxHeartbeats 8000000
set_option linter.unusedSimpArgs false
set_option linter.unusedVariables false
def linF (f : List V → Int) : List It → Int
  | [] => 0
  | t :: z => t.w * f t.row + linF f z
def jt (cols others : List Int) (r : List V) (a b : List It) : Int := linF (fun ra => linF (fun rb => if meetP ra rb cols others = true ∧ cmpR (ra ++ rb) r = 0 then 1 else 0) b) a
theorem tot_join1 (cols others : List Int) (r : List V) (x : It) (b : List It) : tot r ((pairL [x] b cols others).map joinI) = x.w * linF (fun rb => if meetP x.row rb cols others = true ∧ cmpR (x.row ++ rb) r = 0 then 1 else 0) b := by
  induction b with
  | nil => simp [pairL, tot, linF]
  | cons y b ihb =>
    have e2 : pairL [x] (y :: b) cols others = pairL [x] [y] cols others ++ pairL [x] b cols others := by rw [← pairL_one]; rfl
    rw [e2, List.map_append, tot_append, ihb]
    simp only [linF, Int.mul_add]
    congr 1
    by_cases hm : meetP x.row y.row cols others = true
    · by_cases hc : cmpR (x.row ++ y.row) r = 0
      · simp [pairL, hm, tot, joinI, hc]
      · simp [pairL, hm, tot, joinI, hc]
    · simp [pairL, hm, tot]
theorem tot_join (cols others : List Int) (r : List V) (a b : List It) : tot r ((pairL a b cols others).map joinI) = jt cols others r a b := by
  induction a with
  | nil => rfl
  | cons x a ih =>
    have e : pairL (x :: a) b cols others = pairL [x] b cols others ++ pairL a b cols others := by rw [← pairL_append]; rfl
    rw [e, List.map_append, tot_append, ih, tot_join1]
    rfl
structure Fw (z : List It) (n : Nat) (k : Int) : Prop where
  good : Good z
  len : z.length ≤ n
  tot : ∀ r, -k ≤ tot r z ∧ tot r z ≤ k
theorem Fw.w {z : List It} {n : Nat} {k : Int} (h : Fw z n k) : ∀ t ∈ z, -k ≤ t.w ∧ t.w ≤ k := fun t ht => by
  rw [← tot_made (good_made.1 h.good).1 ht]; exact h.tot _
theorem mul_small {x y i j : Int} (hx : -i ≤ x ∧ x ≤ i) (hy : -j ≤ y ∧ y ≤ j) : -(i * j) ≤ x * y ∧ x * y ≤ i * j := by
  have h1 := Int.natAbs_mul x y
  have h2 : x.natAbs ≤ i.natAbs := by omega
  have h3 : y.natAbs ≤ j.natAbs := by omega
  have h4 := Nat.mul_le_mul h2 h3
  have h5 : (i.natAbs * j.natAbs : Nat) = (i * j).natAbs := (Int.natAbs_mul i j).symm
  have h6 : 0 ≤ i * j := Int.mul_nonneg (by omega) (by omega)
  omega
theorem joinR_fine {a b out : List It} {cols others : List Int} {err : Int} {n m : Nat} {i j : Int} (ha : Fw a n i) (hb : Fw b m j) (hl : cols.length = others.length) (hw : i * j * ((n * m : Nat) : Int) ≤ 72057594037927936)
    (hi : 0 ≤ i) (hj : 0 ≤ j) (hnm : 0 < n * m) (h : JoinR a b cols others out err) :
    (err = 2 ∧ out = [] ∧ (pairL a b cols others).any longP = true) ∨ (err = 0 ∧ (pairL a b cols others).any longP = false ∧ Good out ∧ Fw out (n * m) (i * j * ((n * m : Nat) : Int)) ∧ ∀ r, tot r out = jt cols others r a b) := by
  have hij : 0 ≤ i * j := Int.mul_nonneg hi hj
  have h1 : i * j ≤ i * j * ((n * m : Nat) : Int) := by
    have := Int.mul_le_mul_of_nonneg_left (show (1 : Int) ≤ ((n * m : Nat) : Int) by omega) hij
    omega
  have hp : ∀ p ∈ pairL a b cols others, -(i * j) ≤ p.1.w * p.2.w ∧ p.1.w * p.2.w ≤ i * j := fun p hp => by
    obtain ⟨g1, g2, _⟩ := pairL_mem hp
    exact mul_small (ha.w _ g1) (hb.w _ g2)
  have hok : ∀ p ∈ pairL a b cols others, okW (p.1.w * p.2.w) = true := fun p h => by
    have := hp p h
    simp only [okW, inB, Bool.and_eq_true, decide_eq_true_eq]; omega
  have hll := Nat.le_trans (pairL_len a b cols others) (Nat.mul_le_mul ha.len hb.len)
  rcases h with ⟨h, _⟩ | ⟨_, _, h, ho, he⟩ | ⟨_, _, _, _, ⟨p, hp, h⟩, _⟩ | ⟨ga, gb, _, hs, _, hm⟩
  · exact absurd ⟨ha.good, hb.good⟩ h
  · rcases h with h | ⟨_, h⟩
    · exact absurd hl h
    · exact .inl ⟨he, ho, h⟩
  · rw [hok p hp] at h; cases h
  · refine .inr ?_
    have hbd : ∀ r, -(i * j * ((n * m : Nat) : Int)) ≤ tot r ((pairL a b cols others).map joinI) ∧ tot r ((pairL a b cols others).map joinI) ≤ i * j * ((n * m : Nat) : Int) := fun r => by
      have h2 := tot_bound (z := (pairL a b cols others).map joinI) hij (fun t ht => by obtain ⟨p, h3, rfl⟩ := List.mem_map.1 ht; exact hp p h3) r
      rw [List.length_map] at h2
      have h3 : i * j * ((pairL a b cols others).length : Int) ≤ i * j * ((n * m : Nat) : Int) := Int.mul_le_mul_of_nonneg_left (by omega) hij
      omega
    obtain ⟨h1, h2, h3, h4, h5⟩ := makeR_fine hm (by
      rw [List.any_eq_false]; intro t ht
      obtain ⟨p, h3, rfl⟩ := List.mem_map.1 ht
      obtain ⟨g1, g2, _⟩ := pairL_mem h3
      have q1 := (good_made.1 ga).2 _ g1
      have q2 := (good_made.1 gb).2 _ g2
      rw [List.any_eq_false] at hs
      have q3 := hs p h3
      have q4 : okR (joinI p).row = 0 := by
        simp only [okR] at q1 q2 ⊢
        simp [longP] at q3
        rw [if_neg (by simp [joinI]; omega)]
        split at q1
        · cases q1
        · split at q1
          · split at q2
            · cases q2
            · split at q2
              · rename_i u1 _ u2
                rw [if_pos (by simp only [joinI, List.all_append, u1, u2]; rfl)]
              · cases q2
          · cases q1
      have q5 : (joinI p).w = p.1.w * p.2.w := rfl
      simp [okI, q4, q5, hok p h3]) fun r => by
        have := hbd r
        simp only [okW, inB, Bool.and_eq_true, decide_eq_true_eq]; omega
    have hg : Good out := good_made.2 ⟨h2, fun t ht => (h4 t ht).1⟩
    refine ⟨h1, hs, hg, ⟨hg, by rw [List.length_map] at h5; omega, fun r => by rw [h3]; exact hbd r⟩, fun r => by rw [h3, tot_join]⟩
theorem Fw.add {x y out : List It} {n m : Nat} {i j err : Int} (hx : Fw x n i) (hy : Fw y m j) (hij : i + j ≤ 72057594037927936) (h : AddR x y out err) : err = 0 ∧ Fw out (n + m) (i + j) ∧ ∀ r, Yt.tot r out = Yt.tot r x + Yt.tot r y := by
  rcases h with ⟨h, _⟩ | ⟨_, _, h⟩
  · exact absurd ⟨hx.good, hy.good⟩ h
  · have hok : ∀ z : List It, Good z → ∀ t ∈ z, okI t = true := fun z hz t ht => by
      have := (good_made.1 hz).2 t ht
      have h2 := ((good_made.1 hz).1.nz t ht).2
      simp [okI, this, h2]
    obtain ⟨h1, h2, h3, h4, h5⟩ := makeR_fine h (by
      rw [List.any_eq_false]; intro t ht
      rcases List.mem_append.1 ht with ht | ht
      · simp [hok _ hx.good t ht]
      · simp [hok _ hy.good t ht]) fun r => by
        rw [tot_append]
        have := hx.tot r; have := hy.tot r
        simp only [okW, inB, Bool.and_eq_true, decide_eq_true_eq]; omega
    refine ⟨h1, ⟨good_made.2 ⟨h2, fun t ht => (h4 t ht).1⟩, ?_, fun r => ?_⟩, fun r => by rw [h3, tot_append]⟩
    · rw [List.length_append] at h5
      have := hx.len; have := hy.len; omega
    · rw [h3, tot_append]
      have := hx.tot r; have := hy.tot r; omega
theorem Fw.eq {x y : List It} {n m : Nat} {i j : Int} (hx : Fw x n i) (hy : Fw y m j) (h : ∀ r, Yt.tot r x = Yt.tot r y) : x = y := made_eq (good_made.1 hx.good).1 (good_made.1 hy.good).1 h
theorem Fw.neg {x : List It} {n : Nat} {i : Int} (h : Fw x n i) : Fw (x.map negI) n i :=
  ⟨good_neg h.good, by rw [List.length_map]; exact h.len, fun r => by rw [tot_neg]; have := h.tot r; omega⟩
theorem Fw.rows {x : List It} {n : Nat} {i : Int} (h : Fw x n i) : ∀ t ∈ x, t.row.length ≤ 12 := fun t ht => by
  have := (good_made.1 h.good).2 t ht
  simp only [okR] at this
  split at this
  · cases this
  · omega
end Yt
namespace Yt
open Go Go.Vc Go.Proofs
set_option maxRecDepth 10000
set_option maxHeartbeats 8000000
set_option linter.unusedSimpArgs false
set_option linter.unusedVariables false
theorem made_tot {z : List It} {k : Int} (h : Made z) (hk : 0 ≤ k) (hw : ∀ t ∈ z, -k ≤ t.w ∧ t.w ≤ k) (r : List V) : -k ≤ tot r z ∧ tot r z ≤ k := by
  by_cases hr : ∃ t ∈ z, t.row = r
  · obtain ⟨t, ht, rfl⟩ := hr
    rw [tot_made h ht]; exact hw t ht
  · have : tot r z = 0 := tot_none fun u hu e => hr ⟨u, hu, lin_cmpR.eq _ _ e⟩
    omega
theorem good_sub {x z : List It} (h : Good z) (hs : x.Sublist z) : Good x := by
  obtain ⟨h1, h2⟩ := good_made.1 h
  exact good_made.2 ⟨⟨h1.pw.sublist hs, fun t ht => h1.nz t (hs.subset ht)⟩, fun t ht => h2 t (hs.subset ht)⟩
theorem cmpV_i (a b : Int) : cmpV ⟨3, a, ByteArray.empty⟩ ⟨3, b, ByteArray.empty⟩ = cmpI a b := by
  have h := wl_cmp a b
  simp only [wl, cmpR] at h
  split at h
  · rename_i h2; rw [h2]; exact h
  · exact h
end Yt
namespace Yt
open Go Go.Vc Go.Proofs
set_option maxRecDepth 10000
set_option maxHeartbeats 8000000
set_option linter.unusedSimpArgs false
set_option linter.unusedVariables false
theorem Fw.r40 {z : List It} {n : Nat} {k : Int} (h : Fw z n k) : ∀ t ∈ z, t.row.length < 1073741824 := fun t ht => by have := h.rows t ht; omega
def JoR (a b : List It) (cols others : List Int) (out : List It) (err : Int) : Prop :=
  (err = 2 ∧ out = [] ∧ (pairL a b cols others).any longP = true) ∨ (err = 0 ∧ (pairL a b cols others).any longP = false ∧ ∃ n k, Fw out n k ∧ n ≤ 2500 ∧ k ≤ 400000000000 ∧ ∀ r, tot r out = jt cols others r a b)
theorem JoR.of {a b out : List It} {cols others : List Int} {err : Int} {n m : Nat} {i j : Int} (ha : Fw a n i) (hb : Fw b m j) (hl : cols.length = others.length) (hnm : n * m ≤ 2500) (h0 : 0 < n * m) (hi : 0 ≤ i ∧ i ≤ 12000) (hj : 0 ≤ j ∧ j ≤ 12000)
    (h : JoinR a b cols others out err) : JoR a b cols others out err := by
  have h1 : i * j ≤ 12000 * 12000 := Int.mul_le_mul hi.2 hj.2 hj.1 (by decide)
  have h2 : 0 ≤ i * j := Int.mul_nonneg hi.1 hj.1
  have h3 : i * j * ((n * m : Nat) : Int) ≤ 12000 * 12000 * 2500 := Int.mul_le_mul h1 (by omega) (by omega) (by decide)
  rcases joinR_fine ha hb hl (by omega) hi.1 hj.1 h0 h with ⟨h4, h5, h7⟩ | ⟨h4, h7, _, h5, h6⟩
  · exact .inl ⟨h4, h5, h7⟩
  · exact .inr ⟨h4, h7, _, _, h5, hnm, by omega, h6⟩
theorem Fw.min {x y out : List It} {n m : Nat} {i j err : Int} (hx : Fw x n i) (hy : Fw y m j) (hij : i + j ≤ 72057594037927936) (h : MinR x y out err) : err = 0 ∧ Fw out (n + m) (i + j) ∧ ∀ r, Yt.tot r out = Yt.tot r x - Yt.tot r y := by
  have h2 : AddR x (y.map negI) out err := by
    rcases h with ⟨h, _⟩ | ⟨_, _, h⟩
    · exact absurd ⟨hx.good, hy.good⟩ h
    · exact .inr ⟨hx.good, hy.neg.good, h⟩
  obtain ⟨a, b, c⟩ := hx.add hy.neg hij h2
  exact ⟨a, b, fun r => by rw [c, tot_neg]; omega⟩
end Yt
namespace Yt
open Go Go.Vc Go.Proofs
set_option maxRecDepth 10000
set_option maxHeartbeats 8000000
set_option linter.unusedSimpArgs false
set_option linter.unusedVariables false
def two (t : It) : Bool := decide (t.row.length = 2)
end Yt
namespace Yt
open Go Go.Vc Go.Proofs
set_option maxRecDepth 10000
set_option maxHeartbeats 8000000
set_option linter.unusedSimpArgs false
set_option linter.unusedVariables false
theorem JoR.fine {a b out : List It} {cols others : List Int} {err : Int} (h : JoR a b cols others out err) (hl : (pairL a b cols others).any longP = false) :
    err = 0 ∧ ∃ n k, Fw out n k ∧ n ≤ 2500 ∧ k ≤ 400000000000 ∧ ∀ r, tot r out = jt cols others r a b := by
  rcases h with ⟨_, _, h⟩ | ⟨h, _, n, k, h1⟩
  · rw [hl] at h; cases h
  · exact ⟨h, n, k, h1⟩
theorem Fw.nil {n : Nat} {k : Int} (hk : 0 ≤ k) : Fw [] n k := ⟨good_made.2 ⟨⟨.nil, by simp⟩, by simp⟩, by simp, fun r => by simp [Yt.tot]; omega⟩
theorem Fw.pos {z : List It} {n : Nat} {k : Int} (h : Fw z n k) : 0 ≤ k := by have := h.tot []; omega
end Yt
namespace Yt
open Go Go.Vc Go.Proofs
set_option maxRecDepth 10000
set_option maxHeartbeats 8000000
set_option linter.unusedSimpArgs false
set_option linter.unusedVariables false
theorem made_rows {z : List It} (h : Made z) : z.Pairwise fun a b => a.row ≠ b.row := h.pw.imp fun {a b} hab e => by
  have := cI_eq.2 e; omega
end Yt
namespace Yt
open Go Go.Vc Go.Proofs
set_option maxRecDepth 10000
set_option maxHeartbeats 16000000
set_option linter.unusedSimpArgs false
set_option linter.unusedVariables false
end Yt
namespace Yt
open Go Go.Vc Go.Proofs
set_option maxRecDepth 10000
set_option maxHeartbeats 8000000
set_option linter.unusedSimpArgs false
set_option linter.unusedVariables false
end Yt
namespace Yt
open Go Go.Vc Go.Proofs
set_option maxRecDepth 10000
set_option maxHeartbeats 8000000
set_option linter.unusedSimpArgs false
set_option linter.unusedVariables false
end Yt
namespace Yt
open Go Go.Vc Go.Proofs
set_option maxRecDepth 10000
set_option maxHeartbeats 8000000
set_option linter.unusedSimpArgs false
set_option linter.unusedVariables false
end Yt
namespace Yt
open Go Go.Vc Go.Proofs
set_option maxRecDepth 10000
set_option maxHeartbeats 8000000
set_option linter.unusedSimpArgs false
set_option linter.unusedVariables false
end Yt
namespace Yt
open Go Go.Vc Go.Proofs
set_option maxRecDepth 10000
set_option maxHeartbeats 8000000
set_option linter.unusedSimpArgs false
set_option linter.unusedVariables false
def inVal (n : Int) : Bool := inB n (-1152921504606846976) 1152921504606846976
theorem c147 (n : Int) : Spec0 Try.prog 147 [iA n] (· = bA (inVal n)) := by
  refine spec0_of_vc tabOk elems ord147 Try.func147 rfl (rl := [.tmp 2]) rfl (by kernel_rfl) rfl ?_
  (simp -implicitDefEqProofs only [go_sem, iA]; repeat (refine GO ?_; simp -implicitDefEqProofs only [go_sem, iA]))
  refine VIF.split (fun h => ?_) (fun h => ?_)
  · (simp -implicitDefEqProofs only [go_sem]; repeat (refine GO ?_; simp -implicitDefEqProofs only [go_sem]))
    simp at h; simp [inVal, inB, bA, h]
  · (simp -implicitDefEqProofs only [go_sem]; repeat (refine GO ?_; simp -implicitDefEqProofs only [go_sem]))
    simp at h; simp [inVal, inB, bA]; omega
theorem u64_abs (a : Int) (h : -9223372036854775807 ≤ a ∧ a ≤ 9223372036854775807) : IntKind.u64.wrap (max a (IntKind.i64.wrap (0 - a))) = a.natAbs := by
  have w1 : IntKind.i64.wrap (0 - a) = -a := by rw [wrap_i64] <;> omega
  rw [w1, wrap_u64] <;> omega
theorem c146 (a b : Int) (ha : -4611686018427387904 ≤ a ∧ a ≤ 4611686018427387904) (hb : -4611686018427387904 ≤ b ∧ b ≤ 4611686018427387904) :
    Spec0 Try.prog 146 [iA a, iA b] (· = .tu [iA (IntKind.i64.wrap (a * b)), bA (inVal (a * b))]) := by
  refine spec0_of_vc tabOk elems ord146 Try.func146 rfl (rl := [.tmp 4, .tmp 5]) rfl (by kernel_rfl) rfl ?_
  have e1 := u64_abs a (by omega)
  have e2 := u64_abs b (by omega)
  (simp -implicitDefEqProofs only [go_sem, iA, e1, e2]; repeat (refine GO ?_; simp -implicitDefEqProofs only [go_sem, iA, e1, e2]))
  refine .pure _ (c115 (a.natAbs : Int) (b.natAbs : Int) (by omega) (by omega)) rfl fun r hq _ => ?_
  subst hq
  have hk := natAbs_mul_le a b 1152921504606846976
  have h0 : 0 ≤ (a.natAbs : Int) * b.natAbs := Int.mul_nonneg (by omega) (by omega)
  (simp -implicitDefEqProofs only [go_sem, iA, uA]; repeat (refine GO ?_; simp -implicitDefEqProofs only [go_sem, iA, uA]))
  refine VIF.split (fun h => ?_) (fun h => ?_)
  · have h : (a.natAbs : Int) * b.natAbs / 18446744073709551616 = 0 := by simpa using h
    (simp -implicitDefEqProofs only [go_sem]; repeat (refine GO ?_; simp -implicitDefEqProofs only [go_sem]))
    have e : (a.natAbs : Int) * b.natAbs % 18446744073709551616 = (a.natAbs : Int) * b.natAbs := by omega
    rw [e]
    simp only [inVal, inB, bA, h, decide_true]
    refine ⟨rfl, ?_⟩
    congr 5
    rw [← Bool.decide_and, decide_eq_decide]
    exact hk
  · have h : (a.natAbs : Int) * b.natAbs / 18446744073709551616 ≠ 0 := by simpa using h
    (simp -implicitDefEqProofs only [go_sem]; repeat (refine GO ?_; simp -implicitDefEqProofs only [go_sem]))
    have hn : ¬ (-1152921504606846976 ≤ a * b ∧ a * b ≤ 1152921504606846976) := fun h' => by have := hk.2 h'; omega
    have e : inVal (a * b) = false := by
      simp only [inVal, inB, ← Bool.decide_and]; exact decide_eq_false hn
    simp [h, e, bA, iA]
theorem c138 (n a b : Int) (ha : -4611686018427387904 ≤ a ∧ a ≤ 4611686018427387904) (hb : -4611686018427387904 ≤ b ∧ b ≤ 4611686018427387904) (hn : inVal n = true) :
    Spec0 Try.prog 138 [iA n, iA a, iA b] (fun r => ∃ v : Int, r = .tu [iA v, bA (inVal (a * b) && inVal (n + a * b))] ∧ ((inVal (a * b) && inVal (n + a * b)) = true → v = n + a * b)) := by
  refine spec0_of_vc tabOk elems ord138 Try.func138 rfl (rl := [.tmp 6, .tmp 7]) rfl (by kernel_rfl) rfl ?_
  (simp -implicitDefEqProofs only [go_sem, iA]; repeat (refine GO ?_; simp -implicitDefEqProofs only [go_sem, iA]))
  refine .pure _ (c146 a b ha hb) rfl fun r hq _ => ?_
  subst hq
  (simp -implicitDefEqProofs only [go_sem, iA, bA]; repeat (refine GO ?_; simp -implicitDefEqProofs only [go_sem, iA, bA]))
  refine VIF.split (fun h => ?_) (fun h => ?_)
  · have hm : -1152921504606846976 ≤ a * b ∧ a * b ≤ 1152921504606846976 := by simpa [inVal, inB] using h
    have hn' : -1152921504606846976 ≤ n ∧ n ≤ 1152921504606846976 := by simpa [inVal, inB] using hn
    have w1 : IntKind.i64.wrap (a * b) = a * b := by rw [wrap_i64] <;> omega
    have w2 : IntKind.i64.wrap (n + a * b) = n + a * b := by rw [wrap_i64] <;> omega
    (simp -implicitDefEqProofs only [go_sem, w1, w2]; repeat (refine GO ?_; simp -implicitDefEqProofs only [go_sem, w1, w2]))
    refine .pure _ (c147 (n + a * b)) rfl fun r hq _ => ?_
    subst hq
    (simp -implicitDefEqProofs only [go_sem, iA, bA]; repeat (refine GO ?_; simp -implicitDefEqProofs only [go_sem, iA, bA]))
    exact ⟨rfl, n + a * b, by rw [h, Bool.true_and], fun _ => rfl⟩
  · (simp -implicitDefEqProofs only [go_sem]; repeat (refine GO ?_; simp -implicitDefEqProofs only [go_sem]))
    refine ⟨rfl, _, by rw [h, Bool.false_and]; rfl, fun h' => ?_⟩
    rw [h, Bool.false_and] at h'; cases h'
structure Gp where
  at_ : List V
  items : List It
def Gp.c (g : Gp) : List AV := [rowA g.at_, setA g.items]
def sumF (kind col : Int) : List It → Int → Option Int
  | [], n => some n
  | x :: r, n => if kind = 2 ∧ (getV x.row col).k ≠ 3 then sumF kind col r n else
      if (inVal (x.w * (if kind = 2 then (getV x.row col).i else 1)) && inVal (n + x.w * (if kind = 2 then (getV x.row col).i else 1))) = true then sumF kind col r (n + x.w * (if kind = 2 then (getV x.row col).i else 1)) else none
def V.zero : V := ⟨0, 0, ByteArray.empty⟩
def sumV : Option Int → V
  | some n => ⟨3, n, ByteArray.empty⟩
  | none => V.zero
theorem leaf1 : ∀ x ∈ (Ob.mk 3 [V.zero.c]).es, ∀ a ∈ x, a.leaf = true := by simp [V.c, AV.leaf]
theorem c109 (g : Gp) (kind col : Int) (hl : g.items.length < 4611686018427387904) (hr : ∀ t ∈ g.items, t.row.length < 4611686018427387904)
    (hw : ∀ t ∈ g.items, -72057594037927936 ≤ t.w ∧ t.w ≤ 72057594037927936) (hv : ∀ t ∈ g.items, ∀ v ∈ t.row, -4611686018427387904 ≤ v.i ∧ v.i ≤ 4611686018427387904) (hc : kind ≠ 1 → ∀ t ∈ g.items, inC col t.row.length = true) :
    Spec0 Try.prog 109 [.ag g.c, iA kind, iA col] (· = .tu [.ag (sumV (sumF kind col g.items 0)).c, bA (sumF kind col g.items 0).isSome]) := by
  refine spec0_of_vc tabOk elems ord109 Try.func109 rfl (rl := [.cell 6 25, .tmp 7]) rfl (by kernel_rfl) rfl ?_
  (simp -implicitDefEqProofs only [go_sem, Gp.c, rowA, setA, iA]; repeat (refine GO ?_; simp -implicitDefEqProofs only [go_sem, Gp.c, rowA, setA, iA]))
  refine LOOP.mk (ι := { p : Nat × Int // p.1 ≤ g.items.length ∧ sumF kind col g.items 0 = sumF kind col (g.items.drop p.1) p.2 ∧ inVal p.2 = true }) (fun p => mkS [(1, iA kind), (2, iA col), (6, .pt 1000 0 0), (8, iA p.1.2), (15, setA g.items), (16, iA g.items.length), (17, iA p.1.1)] [(1000, ⟨3, [V.zero.c]⟩)] [1000])
    (fun p => g.items.length - p.1.1) ⟨(0, 0), Nat.zero_le _, rfl, by decide⟩ [(1000, some 6)] rfl rfl ?_ (fun p => ?_)
  · (simp -implicitDefEqProofs only [go_sem, setA, iA, V.c, V.zero]; repeat (refine GO ?_; simp -implicitDefEqProofs only [go_sem, setA, iA, V.c, V.zero]))
    exact ⟨id, rfl, .same ⟨3, [V.zero.c]⟩ _ _ leaf1 rfl⟩
  obtain ⟨⟨i, n⟩, hi, hs, hn⟩ := p
  simp only at hi hs hn
  (simp -implicitDefEqProofs only [go_sem, setA, iA, V.c, V.zero]; repeat (refine GO ?_; simp -implicitDefEqProofs only [go_sem, setA, iA, V.c, V.zero]))
  refine VIF.split (fun h => ?_) (fun h => ?_)
  · have h : i < g.items.length := by simpa using h
    have hm := List.getElem_mem h
    have w1 := wrap_add1 (show i < 4611686018427387904 by omega)
    have hst : sumF kind col (g.items.drop i) n = if kind = 2 ∧ (getV g.items[i].row col).k ≠ 3 then sumF kind col (g.items.drop (i + 1)) n else
        if (inVal (g.items[i].w * (if kind = 2 then (getV g.items[i].row col).i else 1)) && inVal (n + g.items[i].w * (if kind = 2 then (getV g.items[i].row col).i else 1))) = true then sumF kind col (g.items.drop (i + 1)) (n + g.items[i].w * (if kind = 2 then (getV g.items[i].row col).i else 1)) else none := by
      rw [List.drop_eq_getElem_cons h]; rfl
    (simp -implicitDefEqProofs only [go_sem]; repeat (refine GO ?_; simp -implicitDefEqProofs only [go_sem]))
    refine EL.map h ?_
    (simp -implicitDefEqProofs only [go_sem, It.c, iA]; repeat (refine GO ?_; simp -implicitDefEqProofs only [go_sem, It.c, iA]))
    refine VIF.split (fun h2 => ?_) (fun h2 => ?_)
    · have h2 : kind = 2 := by simpa using h2
      have hin := hc (by omega) _ hm
      have hin' : 0 ≤ col ∧ col.toNat < g.items[i].row.length := by simp [inC] at hin; omega
      have hgv : getV g.items[i].row col = g.items[i].row[col.toNat] := by simp [getV, hin'.2]
      (simp -implicitDefEqProofs only [go_sem, rowA]; repeat (refine GO ?_; simp -implicitDefEqProofs only [go_sem, rowA]))
      refine ⟨hin'.1, EL.map hin'.2 ?_⟩
      (simp -implicitDefEqProofs only [go_sem, V.c]; repeat (refine GO ?_; simp -implicitDefEqProofs only [go_sem, V.c]))
      refine VIF.split (fun h3 => ?_) (fun h3 => ?_)
      · have h3 : g.items[i].row[col.toNat].k ≠ 3 := by simpa using h3
        (simp -implicitDefEqProofs only [go_sem, w1]; repeat (refine GO ?_; simp -implicitDefEqProofs only [go_sem, w1]))
        refine BACK.mk ⟨(i + 1, n), by simp only; omega, ?_, hn⟩ [(1000, some 1000)] rfl rfl (by show g.items.length - (i + 1) < g.items.length - i; omega) ?_
        · rw [hs, hst, if_pos ⟨h2, by rw [hgv]; exact h3⟩]
        · (simp -implicitDefEqProofs only [go_sem, setA, iA, w1]; repeat (refine GO ?_; simp -implicitDefEqProofs only [go_sem, setA, iA, w1]))
          exact ⟨id, .same ⟨3, [V.zero.c]⟩ _ _ leaf1 rfl⟩
      · have h3 : g.items[i].row[col.toNat].k = 3 := by simpa using h3
        have hb := hv _ hm _ (List.getElem_mem hin'.2)
        have hwm := hw _ hm
        rw [if_neg (fun h => h.2 (by rw [hgv]; exact h3)), if_pos h2, hgv] at hst
        (simp -implicitDefEqProofs only [go_sem]; repeat (refine GO ?_; simp -implicitDefEqProofs only [go_sem]))
        refine .pure _ (c138 n g.items[i].w g.items[i].row[col.toNat].i (by omega) hb hn) rfl fun r hq _ => ?_
        obtain ⟨v, rfl, hv2⟩ := hq
        (simp -implicitDefEqProofs only [go_sem, iA, bA]; repeat (refine GO ?_; simp -implicitDefEqProofs only [go_sem, iA, bA]))
        refine VIF.split (fun h4 => ?_) (fun h4 => ?_)
        · have h4 : (inVal (g.items[i].w * g.items[i].row[col.toNat].i) && inVal (n + g.items[i].w * g.items[i].row[col.toNat].i)) = false := by simpa only [Bool.not_eq_true'] using h4
          rw [if_neg (by rw [h4]; decide)] at hst
          (simp -implicitDefEqProofs only [go_sem]; repeat (refine GO ?_; simp -implicitDefEqProofs only [go_sem]))
          rw [hs, hst]
          exact ⟨rfl, rfl⟩
        · have h4 : (inVal (g.items[i].w * g.items[i].row[col.toNat].i) && inVal (n + g.items[i].w * g.items[i].row[col.toNat].i)) = true := by simpa only [Bool.not_eq_false'] using h4
          have hv3 := hv2 h4
          rw [if_pos h4, ← hv3] at hst
          (simp -implicitDefEqProofs only [go_sem, w1]; repeat (refine GO ?_; simp -implicitDefEqProofs only [go_sem, w1]))
          refine BACK.mk ⟨(i + 1, v), by simp only; omega, hs.trans hst, ?_⟩ [(1000, some 1000)] rfl rfl (by show g.items.length - (i + 1) < g.items.length - i; omega) ?_
          · rw [hv3]; exact (Bool.and_eq_true _ _ ▸ h4).2
          · (simp -implicitDefEqProofs only [go_sem, setA, iA, w1]; repeat (refine GO ?_; simp -implicitDefEqProofs only [go_sem, setA, iA, w1]))
            exact ⟨id, .same ⟨3, [V.zero.c]⟩ _ _ leaf1 rfl⟩
    · have h2 : kind ≠ 2 := by simpa using h2
      have hwm := hw _ hm
      simp only [h2, false_and, if_false, Int.mul_one] at hst
      (simp -implicitDefEqProofs only [go_sem, rowA, iA]; repeat (refine GO ?_; simp -implicitDefEqProofs only [go_sem, rowA, iA]))
      refine .pure _ (show Spec0 Try.prog 138 [iA n, iA g.items[i].w, iA 1] _ from c138 n g.items[i].w 1 (by omega) (by omega) hn) rfl fun r hq _ => ?_
      obtain ⟨v, rfl, hv2⟩ := hq
      rw [Int.mul_one] at hv2 ⊢
      (simp -implicitDefEqProofs only [go_sem, iA, bA]; repeat (refine GO ?_; simp -implicitDefEqProofs only [go_sem, iA, bA]))
      refine VIF.split (fun h4 => ?_) (fun h4 => ?_)
      · have h4 : (inVal (g.items[i].w) && inVal (n + g.items[i].w)) = false := by simpa only [Bool.not_eq_true'] using h4
        rw [if_neg (by rw [h4]; decide)] at hst
        (simp -implicitDefEqProofs only [go_sem]; repeat (refine GO ?_; simp -implicitDefEqProofs only [go_sem]))
        rw [hs, hst]
        exact ⟨rfl, rfl⟩
      · have h4 : (inVal (g.items[i].w) && inVal (n + g.items[i].w)) = true := by simpa only [Bool.not_eq_false'] using h4
        have hv3 := hv2 h4
        rw [if_pos h4, ← hv3] at hst
        (simp -implicitDefEqProofs only [go_sem, w1]; repeat (refine GO ?_; simp -implicitDefEqProofs only [go_sem, w1]))
        refine BACK.mk ⟨(i + 1, v), by simp only; omega, hs.trans hst, ?_⟩ [(1000, some 1000)] rfl rfl (by show g.items.length - (i + 1) < g.items.length - i; omega) ?_
        · rw [hv3]; exact (Bool.and_eq_true _ _ ▸ h4).2
        · (simp -implicitDefEqProofs only [go_sem, setA, iA, w1]; repeat (refine GO ?_; simp -implicitDefEqProofs only [go_sem, setA, iA, w1]))
          exact ⟨id, .same ⟨3, [V.zero.c]⟩ _ _ leaf1 rfl⟩
  · have h : i = g.items.length := by simp at h; omega
    subst h
    rw [List.drop_length] at hs
    (simp -implicitDefEqProofs only [go_sem]; repeat (refine GO ?_; simp -implicitDefEqProofs only [go_sem]))
    rw [hs]
    exact ⟨rfl, rfl⟩
def bestF (kind col : Int) : List It → V → V
  | [], o => o
  | x :: r, o => if (getV x.row col).k = 1 then bestF kind col r o else
      if o.k = 1 ∨ (kind = 3 ∧ cmpV (getV x.row col) o < 0) ∨ (kind = 4 ∧ 0 < cmpV (getV x.row col) o) then bestF kind col r (getV x.row col) else bestF kind col r o
def V.nul : V := ⟨1, 0, ByteArray.empty⟩
theorem leafV (v : V) : ∀ x ∈ (Ob.mk 3 [v.c]).es, ∀ a ∈ x, a.leaf = true := by simp [V.c, AV.leaf]
theorem c108 (g : Gp) (kind col : Int) (hl : g.items.length < 4611686018427387904) (hc : kind ≠ 1 → ∀ t ∈ g.items, inC col t.row.length = true) :
    Spec0 Try.prog 108 [.ag g.c, iA kind, iA col] (· = .ag (if kind = 1 then V.nul else bestF kind col g.items V.nul).c) := by
  refine spec0_of_vc tabOk elems ord108 Try.func108 rfl (rl := [.cell 6 25]) rfl (by kernel_rfl) rfl ?_
  (simp -implicitDefEqProofs only [go_sem, Gp.c, rowA, setA, iA]; repeat (refine GO ?_; simp -implicitDefEqProofs only [go_sem, Gp.c, rowA, setA, iA]))
  refine VIF.split (fun h => ?_) (fun h => ?_)
  · have h : kind = 1 := by simpa using h
    (simp -implicitDefEqProofs only [go_sem]; repeat (refine GO ?_; simp -implicitDefEqProofs only [go_sem]))
    rw [if_pos h]
    exact ⟨rfl, rfl⟩
  have h1 : kind ≠ 1 := by simpa using h
  rw [if_neg h1]
  (simp -implicitDefEqProofs only [go_sem]; repeat (refine GO ?_; simp -implicitDefEqProofs only [go_sem]))
  refine LOOP.mk (ι := { p : Nat × V // p.1 ≤ g.items.length ∧ bestF kind col g.items V.nul = bestF kind col (g.items.drop p.1) p.2 }) (fun p => mkS [(1, iA kind), (2, iA col), (6, .pt 1001 0 0), (7, .pt 1000 0 0), (17, setA g.items), (18, iA g.items.length), (19, iA p.1.1)] [(1000, ⟨3, [p.1.2.c]⟩), (1001, ⟨3, [V.zero.c]⟩)] [1000, 1001])
    (fun p => g.items.length - p.1.1) ⟨(0, V.nul), Nat.zero_le _, rfl⟩ [(1000, some 7), (1001, some 6)] rfl rfl ?_ (fun p => ?_)
  · (simp -implicitDefEqProofs only [go_sem, setA, iA, V.c, V.zero, V.nul]; repeat (refine GO ?_; simp -implicitDefEqProofs only [go_sem, setA, iA, V.c, V.zero, V.nul]))
    exact ⟨id, rfl, .same ⟨3, [V.nul.c]⟩ _ _ (leafV V.nul) rfl, .same ⟨3, [V.zero.c]⟩ _ _ leaf1 rfl⟩
  obtain ⟨⟨i, o⟩, hi, hs⟩ := p
  simp only at hi hs
  (simp -implicitDefEqProofs only [go_sem, setA, iA, V.c, V.zero]; repeat (refine GO ?_; simp -implicitDefEqProofs only [go_sem, setA, iA, V.c, V.zero]))
  refine VIF.split (fun h => ?_) (fun h => ?_)
  · have h : i < g.items.length := by simpa using h
    have hm := List.getElem_mem h
    have w1 := wrap_add1 (show i < 4611686018427387904 by omega)
    have hin := hc h1 _ hm
    have hin' : 0 ≤ col ∧ col.toNat < g.items[i].row.length := by simp [inC] at hin; omega
    have hgv : getV g.items[i].row col = g.items[i].row[col.toNat] := by simp [getV, hin'.2]
    have hst : bestF kind col (g.items.drop i) o = if g.items[i].row[col.toNat].k = 1 then bestF kind col (g.items.drop (i + 1)) o else
      if o.k = 1 ∨ (kind = 3 ∧ cmpV g.items[i].row[col.toNat] o < 0) ∨ (kind = 4 ∧ 0 < cmpV g.items[i].row[col.toNat] o) then bestF kind col (g.items.drop (i + 1)) g.items[i].row[col.toNat] else bestF kind col (g.items.drop (i + 1)) o := by
      rw [List.drop_eq_getElem_cons h, ← hgv]; rfl
    (simp -implicitDefEqProofs only [go_sem]; repeat (refine GO ?_; simp -implicitDefEqProofs only [go_sem]))
    refine EL.map h ?_
    (simp -implicitDefEqProofs only [go_sem, It.c, iA, rowA]; repeat (refine GO ?_; simp -implicitDefEqProofs only [go_sem, It.c, iA, rowA]))
    refine ⟨hin'.1, EL.map hin'.2 ?_⟩
    (simp -implicitDefEqProofs only [go_sem, V.c]; repeat (refine GO ?_; simp -implicitDefEqProofs only [go_sem, V.c]))
    refine VIF.split (fun h3 => ?_) (fun h3 => ?_)
    · have h3 : g.items[i].row[col.toNat].k = 1 := by simpa using h3
      rw [if_pos h3] at hst
      (simp -implicitDefEqProofs only [go_sem, w1]; repeat (refine GO ?_; simp -implicitDefEqProofs only [go_sem, w1]))
      refine BACK.mk ⟨(i + 1, o), by simp only; omega, hs.trans hst⟩ [(1000, some 1000), (1001, some 1001)] rfl rfl (by show g.items.length - (i + 1) < g.items.length - i; omega) ?_
      (simp -implicitDefEqProofs only [go_sem, setA, iA, w1, V.c, V.zero]; repeat (refine GO ?_; simp -implicitDefEqProofs only [go_sem, setA, iA, w1, V.c, V.zero]))
      exact ⟨id, .same ⟨3, [o.c]⟩ _ _ (leafV o) rfl, .same ⟨3, [V.zero.c]⟩ _ _ leaf1 rfl⟩
    have h3 : g.items[i].row[col.toNat].k ≠ 1 := by simpa using h3
    rw [if_neg h3] at hst
    (simp -implicitDefEqProofs only [go_sem]; repeat (refine GO ?_; simp -implicitDefEqProofs only [go_sem]))
    refine .pure _ (s45 g.items[i].row[col.toNat] o) rfl fun r hq _ => ?_
    subst hq
    (simp -implicitDefEqProofs only [go_sem, w1]; repeat (refine GO ?_; simp -implicitDefEqProofs only [go_sem, w1]))
    have hb : ∀ b : Bool, b = decide (o.k = 1 ∨ (kind = 3 ∧ cmpV g.items[i].row[col.toNat] o < 0) ∨ (kind = 4 ∧ 0 < cmpV g.items[i].row[col.toNat] o)) →
        bestF kind col (g.items.drop i) o = bestF kind col (g.items.drop (i + 1)) (if b = true then g.items[i].row[col.toNat] else o) := by
      rintro _ rfl
      rw [hst]
      by_cases h4 : o.k = 1 ∨ (kind = 3 ∧ cmpV g.items[i].row[col.toNat] o < 0) ∨ (kind = 4 ∧ 0 < cmpV g.items[i].row[col.toNat] o)
      · rw [if_pos h4, decide_eq_true h4]; rfl
      · rw [if_neg h4, decide_eq_false h4]; rfl
    have tk : ∀ b : Bool, b = decide (o.k = 1 ∨ (kind = 3 ∧ cmpV g.items[i].row[col.toNat] o < 0) ∨ (kind = 4 ∧ 0 < cmpV g.items[i].row[col.toNat] o)) →
        (i + 1, if b = true then g.items[i].row[col.toNat] else o).1 ≤ g.items.length ∧ bestF kind col g.items V.nul = bestF kind col (g.items.drop (i + 1, if b = true then g.items[i].row[col.toNat] else o).1) (i + 1, if b = true then g.items[i].row[col.toNat] else o).2 := fun b hb' =>
      ⟨by simp only; omega, hs.trans (hb b hb')⟩
    repeat' (refine VIF.split (fun a => ?_) (fun a => ?_) <;> (simp -implicitDefEqProofs only [go_sem, w1]; repeat (refine GO ?_; simp -implicitDefEqProofs only [go_sem, w1])))
    all_goals try simp only [decide_eq_true_eq, decide_eq_false_iff_not] at *
    all_goals first
      | (exfalso; omega)
      | (refine BACK.mk ⟨(i + 1, g.items[i].row[col.toNat]), tk true (by simp [*])⟩ [(1000, some 1000), (1001, some 1001)] rfl rfl (by show g.items.length - (i + 1) < g.items.length - i; omega) ?_
         (simp -implicitDefEqProofs only [go_sem, setA, iA, w1, V.c, V.zero]; repeat (refine GO ?_; simp -implicitDefEqProofs only [go_sem, setA, iA, w1, V.c, V.zero]))
         exact ⟨id, .same ⟨3, [g.items[i].row[col.toNat].c]⟩ _ _ (leafV g.items[i].row[col.toNat]) rfl, .same ⟨3, [V.zero.c]⟩ _ _ leaf1 rfl⟩)
      | (refine BACK.mk ⟨(i + 1, o), tk false (by simp [*])⟩ [(1000, some 1000), (1001, some 1001)] rfl rfl (by show g.items.length - (i + 1) < g.items.length - i; omega) ?_
         (simp -implicitDefEqProofs only [go_sem, setA, iA, w1, V.c, V.zero]; repeat (refine GO ?_; simp -implicitDefEqProofs only [go_sem, setA, iA, w1, V.c, V.zero]))
         exact ⟨id, .same ⟨3, [o.c]⟩ _ _ (leafV o) rfl, .same ⟨3, [V.zero.c]⟩ _ _ leaf1 rfl⟩)
  · have h : i = g.items.length := by simp at h; omega
    subst h
    rw [List.drop_length] at hs
    (simp -implicitDefEqProofs only [go_sem]; repeat (refine GO ?_; simp -implicitDefEqProofs only [go_sem]))
    rw [hs]
    exact ⟨rfl, rfl⟩
theorem c106 (z : List It) (cols : List Int) (kind col : Int) (hl : z.length < 4611686018427387904) (hr : ∀ t ∈ z, t.row.length < 1073741824) (hc : cols.length < 1073741824) :
    Spec0 Try.prog 106 [setA z, intsL cols, iA kind, iA col] (fun r => ∃ e : Int, r = iA e ∧ (e = 0 ∨ e = 1 ∨ e = 2) ∧ (e = 0 ↔ Good z ∧ 1 ≤ kind ∧ kind ≤ 4 ∧ cols.length < 12 ∧ ∀ t ∈ z, pickE t.row cols = 0 ∧ (kind ≠ 1 → inC col t.row.length = true)) ∧
      (e = 2 ↔ Good z ∧ 1 ≤ kind ∧ kind ≤ 4 ∧ 12 ≤ cols.length)) := by
  refine spec0_of_vc tabOk elems ord106 Try.func106 rfl (rl := [.tmp 8]) rfl (by kernel_rfl) rfl ?_
  (simp -implicitDefEqProofs only [go_sem, setA, intsL, iA]; repeat (refine GO ?_; simp -implicitDefEqProofs only [go_sem, setA, intsL, iA]))
  refine .pure _ (show Spec0 Try.prog 62 [setA z] _ from s16 z hl (fun t ht => by have := hr t ht; omega)) rfl fun r hq _ => ?_
  obtain ⟨e, rfl, he, hg⟩ := hq
  (simp -implicitDefEqProofs only [go_sem, iA]; repeat (refine GO ?_; simp -implicitDefEqProofs only [go_sem, iA]))
  refine VIF.split (fun h => ?_) (fun h => ?_)
  · have h : e ≠ 0 := by simpa using h
    have h1 : e = 1 := by omega
    subst h1
    (simp -implicitDefEqProofs only [go_sem]; repeat (refine GO ?_; simp -implicitDefEqProofs only [go_sem]))
    have hng : ¬ Good z := fun g => h (hg.2 g)
    exact ⟨1, rfl, by omega, ⟨fun h => by omega, fun g => absurd g.1 hng⟩, ⟨fun h => by omega, fun g => absurd g.1 hng⟩⟩
  have h : e = 0 := by simpa using h
  have hgz := hg.1 h
  subst h
  (simp -implicitDefEqProofs only [go_sem]; repeat (refine GO ?_; simp -implicitDefEqProofs only [go_sem]))
  refine VIF.split (fun h => ?_) (fun h => ?_)
  · have h : kind < 1 := by simpa using h
    (simp -implicitDefEqProofs only [go_sem]; repeat (refine GO ?_; simp -implicitDefEqProofs only [go_sem]))
    exact ⟨1, rfl, by omega, ⟨fun h => by omega, fun g => by omega⟩, ⟨fun h => by omega, fun g => by omega⟩⟩
  have k1 : 1 ≤ kind := by simpa using h
  (simp -implicitDefEqProofs only [go_sem]; repeat (refine GO ?_; simp -implicitDefEqProofs only [go_sem]))
  refine VIF.split (fun h => ?_) (fun h => ?_)
  · have h : 4 < kind := by simpa using h
    (simp -implicitDefEqProofs only [go_sem]; repeat (refine GO ?_; simp -implicitDefEqProofs only [go_sem]))
    exact ⟨1, rfl, by omega, ⟨fun h => by omega, fun g => by omega⟩, ⟨fun h => by omega, fun g => by omega⟩⟩
  have k2 : kind ≤ 4 := by simpa using h
  (simp -implicitDefEqProofs only [go_sem]; repeat (refine GO ?_; simp -implicitDefEqProofs only [go_sem]))
  refine VIF.split (fun h => ?_) (fun h => ?_)
  · have h : 12 ≤ cols.length := by simp at h; omega
    (simp -implicitDefEqProofs only [go_sem]; repeat (refine GO ?_; simp -implicitDefEqProofs only [go_sem]))
    exact ⟨2, rfl, by omega, ⟨fun h => by omega, fun g => by omega⟩, ⟨fun _ => ⟨hgz, k1, k2, h⟩, fun _ => rfl⟩⟩
  have k3 : cols.length < 12 := by simp at h; omega
  (simp -implicitDefEqProofs only [go_sem]; repeat (refine GO ?_; simp -implicitDefEqProofs only [go_sem]))
  refine LOOP.mk (ι := { i : Nat // i ≤ z.length ∧ ∀ j (h : j < z.length), j < i → pickE z[j].row cols = 0 ∧ (kind ≠ 1 → inC col z[j].row.length = true) }) (fun p => mkS [(1, intsL cols), (2, iA kind), (3, iA col), (31, setA z), (32, iA z.length), (33, iA p.1)] [] [])
    (fun p => z.length - p.1) ⟨0, Nat.zero_le _, fun j _ h => absurd h (Nat.not_lt_zero _)⟩ [] rfl rfl ?_ (fun p => ?_)
  · (simp -implicitDefEqProofs only [go_sem, setA, iA, intsL]; repeat (refine GO ?_; simp -implicitDefEqProofs only [go_sem, setA, iA, intsL]))
    exact ⟨id, rfl⟩
  obtain ⟨i, hi, hz⟩ := p
  (simp -implicitDefEqProofs only [go_sem, setA, iA, intsL]; repeat (refine GO ?_; simp -implicitDefEqProofs only [go_sem, setA, iA, intsL]))
  refine VIF.split (fun h => ?_) (fun h => ?_)
  · have h : i < z.length := by simpa using h
    have hm := List.getElem_mem h
    have hrl := hr _ hm
    have w1 := wrap_add1 (show i < 4611686018427387904 by omega)
    have bad : ∀ (hb : ¬ (pickE z[i].row cols = 0 ∧ (kind ≠ 1 → inC col z[i].row.length = true))), ∃ e : Int, AV.pr (Value.int .i64 1) = iA e ∧ (e = 0 ∨ e = 1 ∨ e = 2) ∧ (e = 0 ↔ Good z ∧ 1 ≤ kind ∧ kind ≤ 4 ∧ cols.length < 12 ∧ ∀ t ∈ z, pickE t.row cols = 0 ∧ (kind ≠ 1 → inC col t.row.length = true)) ∧
        (e = 2 ↔ Good z ∧ 1 ≤ kind ∧ kind ≤ 4 ∧ 12 ≤ cols.length) := fun hb => ⟨1, rfl, by omega, ⟨fun h => by omega, fun g => absurd (g.2.2.2.2 _ hm) hb⟩, ⟨fun h => by omega, fun g => by omega⟩⟩
    (simp -implicitDefEqProofs only [go_sem]; repeat (refine GO ?_; simp -implicitDefEqProofs only [go_sem]))
    refine EL.map h ?_
    (simp -implicitDefEqProofs only [go_sem, It.c, iA, rowA]; repeat (refine GO ?_; simp -implicitDefEqProofs only [go_sem, It.c, iA, rowA]))
    refine .make 41 _ (show Spec1 Try.prog 61 [rowA z[i].row, intsL cols] _ from c61 z[i].row cols hrl hc) rfl (by simp) rfl fun q o hq hlf => ?_
    obtain ⟨out, err, rfl, rfl, rfl, h6, h7⟩ := hq
    (simp -implicitDefEqProofs only [go_sem, iA]; repeat (refine GO ?_; simp -implicitDefEqProofs only [go_sem, iA]))
    refine VIF.split (fun h2 => ?_) (fun h2 => ?_)
    · have h2 : pickE z[i].row cols ≠ 0 := by simpa using h2
      (simp -implicitDefEqProofs only [go_sem]; repeat (refine GO ?_; simp -implicitDefEqProofs only [go_sem]))
      exact bad fun g => h2 g.1
    have h2 : pickE z[i].row cols = 0 := by simpa using h2
    (simp -implicitDefEqProofs only [go_sem]; repeat (refine GO ?_; simp -implicitDefEqProofs only [go_sem]))
    refine VIF.split (fun h3 => ?_) (fun h3 => ?_)
    · have h3 : kind ≠ 1 := by simpa using h3
      (simp -implicitDefEqProofs only [go_sem]; repeat (refine GO ?_; simp -implicitDefEqProofs only [go_sem]))
      refine VIF.split (fun h4 => ?_) (fun h4 => ?_)
      · have h4 : col < 0 := by simpa using h4
        (simp -implicitDefEqProofs only [go_sem]; repeat (refine GO ?_; simp -implicitDefEqProofs only [go_sem]))
        exact bad fun g => by have := g.2 h3; simp [inC] at this; omega
      have h4 : 0 ≤ col := by simpa using h4
      (simp -implicitDefEqProofs only [go_sem, rowA]; repeat (refine GO ?_; simp -implicitDefEqProofs only [go_sem, rowA]))
      refine VIF.split (fun h5 => ?_) (fun h5 => ?_)
      · have h5 : (z[i].row.length : Int) ≤ col := by simpa using h5
        (simp -implicitDefEqProofs only [go_sem]; repeat (refine GO ?_; simp -implicitDefEqProofs only [go_sem]))
        exact bad fun g => by have := g.2 h3; simp [inC] at this; omega
      have h5 : col < z[i].row.length := by simpa using h5
      (simp -implicitDefEqProofs only [go_sem, w1]; repeat (refine GO ?_; simp -implicitDefEqProofs only [go_sem, w1]))
      refine BACK.mk ⟨i + 1, by omega, fun j hj hji => ?_⟩ [] rfl rfl (by show z.length - (i + 1) < z.length - i; omega) ?_
      · by_cases ej : j = i
        · subst ej; exact ⟨h2, fun _ => by simp [inC]; omega⟩
        · exact hz j hj (by omega)
      · (simp -implicitDefEqProofs only [go_sem, setA, iA, intsL, w1]; repeat (refine GO ?_; simp -implicitDefEqProofs only [go_sem, setA, iA, intsL, w1]))
        exact id
    · have h3 : kind = 1 := by simpa using h3
      (simp -implicitDefEqProofs only [go_sem, w1]; repeat (refine GO ?_; simp -implicitDefEqProofs only [go_sem, w1]))
      refine BACK.mk ⟨i + 1, by omega, fun j hj hji => ?_⟩ [] rfl rfl (by show z.length - (i + 1) < z.length - i; omega) ?_
      · by_cases ej : j = i
        · subst ej; exact ⟨h2, fun g => absurd h3 g⟩
        · exact hz j hj (by omega)
      · (simp -implicitDefEqProofs only [go_sem, setA, iA, intsL, w1]; repeat (refine GO ?_; simp -implicitDefEqProofs only [go_sem, setA, iA, intsL, w1]))
        exact id
  · have h : i = z.length := by simp at h; omega
    subst h
    (simp -implicitDefEqProofs only [go_sem]; repeat (refine GO ?_; simp -implicitDefEqProofs only [go_sem]))
    refine ⟨0, rfl, by omega, ⟨fun _ => ⟨hgz, k1, k2, k3, fun t ht => ?_⟩, fun _ => rfl⟩, ⟨fun h => by omega, fun g => by omega⟩⟩
    obtain ⟨j, hj, rfl⟩ := List.mem_iff_getElem.1 ht
    exact hz j hj hj
end Yt
namespace Yt
open Go Go.Vc Go.Proofs
set_option maxRecDepth 10000
set_option maxHeartbeats 8000000
set_option linter.unusedSimpArgs false
set_option linter.unusedVariables false
theorem c136 (g : Gp) (a : List V) (hg : g.at_.length < 4611686018427387904) : Spec0 Try.prog 136 [.ag g.c, rowA a] (· = iA (cmpR g.at_ a)) := by
  refine spec0_of_vc tabOk elems ord136 Try.func136 rfl (rl := [.tmp 4]) rfl (by kernel_rfl) rfl ?_
  (simp -implicitDefEqProofs only [go_sem, Gp.c, rowA]; repeat (refine GO ?_; simp -implicitDefEqProofs only [go_sem, Gp.c, rowA]))
  refine .pure _ (show Spec0 Try.prog 93 [rowA g.at_, rowA a] _ from s13 g.at_ a hg) rfl fun r hq _ => ?_
  subst hq
  (simp -implicitDefEqProofs only [go_sem, iA]; repeat (refine GO ?_; simp -implicitDefEqProofs only [go_sem, iA]))
def gsA (gs : List Gp) : AV := .im 2 (gs.map Gp.c)
theorem shr1 (n : Nat) : (n : Int) / 2 ^ min (Int.toNat 1) 64 = ((n / 2 : Nat) : Int) := by
  have h2 : (2 : Int) ^ min (Int.toNat 1) 64 = 2 := by decide
  rw [h2]; omega
theorem c135 (gs : List Gp) (a : List V) (hl : gs.length < 1073741824) (hg : ∀ g ∈ gs, g.at_.length < 4611686018427387904) (hm : ∀ i j (hi : i < gs.length) (hj : j < gs.length), i < j → cmpR gs[j].at_ a < 0 → cmpR gs[i].at_ a < 0) :
    Spec0 Try.prog 135 [gsA gs, rowA a, .fn 136 []] (fun r => ∃ (k : Nat) (b : Bool), r = .tu [iA k, bA b] ∧ k ≤ gs.length ∧ (∀ j (h : j < gs.length), j < k → cmpR gs[j].at_ a < 0) ∧ (∀ j (h : j < gs.length), k ≤ j → 0 ≤ cmpR gs[j].at_ a) ∧
      (b = true ↔ ∃ h : k < gs.length, cmpR gs[k].at_ a = 0)) := by
  refine spec0_of_vc tabOk elems ord135 Try.func135 rfl (rl := [.tmp 6, .tmp 7]) rfl (by kernel_rfl) rfl ?_
  (simp -implicitDefEqProofs only [go_sem, gsA, rowA, iA]; repeat (refine GO ?_; simp -implicitDefEqProofs only [go_sem, gsA, rowA, iA]))
  refine LOOP.mk (ι := { p : Nat × Nat // p.1 ≤ p.2 ∧ p.2 ≤ gs.length ∧ (∀ j (h : j < gs.length), j < p.1 → cmpR gs[j].at_ a < 0) ∧ (∀ j (h : j < gs.length), p.2 ≤ j → 0 ≤ cmpR gs[j].at_ a) }) (fun p => mkS [(0, gsA gs), (1, rowA a), (2, .fn 136 []), (8, iA gs.length), (9, iA p.1.1), (10, iA p.1.2)] [] [])
    (fun p => p.1.2 - p.1.1) ⟨(0, gs.length), Nat.zero_le _, Nat.le_refl _, fun j _ h => absurd h (Nat.not_lt_zero _), fun j h h' => by simp only at h'; omega⟩ [] rfl rfl ?_ (fun p => ?_)
  · (simp -implicitDefEqProofs only [go_sem, gsA, rowA, iA]; repeat (refine GO ?_; simp -implicitDefEqProofs only [go_sem, gsA, rowA, iA]))
    exact ⟨id, rfl⟩
  obtain ⟨⟨i, j⟩, hij, hj, h1, h2⟩ := p
  simp only at hij hj h1 h2
  (simp -implicitDefEqProofs only [go_sem, gsA, rowA, iA]; repeat (refine GO ?_; simp -implicitDefEqProofs only [go_sem, gsA, rowA, iA]))
  refine VIF.split (fun h => ?_) (fun h => ?_)
  · have h : i < j := by simpa using h
    have e1 : IntKind.i64.wrap ((i : Int) + j) = ((i + j : Nat) : Int) := by rw [wrap_i64] <;> omega
    have e2 := u64_nat (show i + j < 4611686018427387904 by omega)
    have e3 := shr1 (i + j)
    obtain ⟨m, hme⟩ : ∃ m, m = (i + j) / 2 := ⟨_, rfl⟩
    rw [← hme] at e3
    have e4 : IntKind.i64.wrap (m : Int) = m := by rw [wrap_i64] <;> omega
    have hmi : i ≤ m ∧ m < j := by omega
    have hml : m < gs.length := by omega
    have w1 := wrap_add1 (show m < 4611686018427387904 by omega)
    (simp -implicitDefEqProofs only [go_sem, e1, e2, e3, e4]; repeat (refine GO ?_; simp -implicitDefEqProofs only [go_sem, e1, e2, e3, e4]))
    refine ⟨by decide, EL.map hml ?_⟩
    (simp -implicitDefEqProofs only [go_sem, Gp.c]; repeat (refine GO ?_; simp -implicitDefEqProofs only [go_sem, Gp.c]))
    refine .pure _ (show Spec0 Try.prog 136 [.ag gs[m].c, rowA a] _ from c136 gs[m] a (hg _ (List.getElem_mem hml))) rfl fun r hq _ => ?_
    subst hq
    (simp -implicitDefEqProofs only [go_sem, iA]; repeat (refine GO ?_; simp -implicitDefEqProofs only [go_sem, iA]))
    refine VIF.split (fun h3 => ?_) (fun h3 => ?_)
    · have h3 : cmpR gs[m].at_ a < 0 := by simpa using h3
      (simp -implicitDefEqProofs only [go_sem, w1]; repeat (refine GO ?_; simp -implicitDefEqProofs only [go_sem, w1]))
      refine BACK.mk ⟨(m + 1, j), by simp only; omega, hj, fun t ht htm => ?_, h2⟩ [] rfl rfl (by show j - (m + 1) < j - i; omega) ?_
      · rcases Nat.lt_or_ge t m with h4 | h4
        · exact hm t m ht hml h4 h3
        · have : t = m := by simp only at htm; omega
          subst this; exact h3
      · (simp -implicitDefEqProofs only [go_sem, gsA, rowA, iA, w1]; repeat (refine GO ?_; simp -implicitDefEqProofs only [go_sem, gsA, rowA, iA, w1]))
        exact id
    · have h3 : 0 ≤ cmpR gs[m].at_ a := by simpa using h3
      (simp -implicitDefEqProofs only [go_sem]; repeat (refine GO ?_; simp -implicitDefEqProofs only [go_sem]))
      refine BACK.mk ⟨(i, m), hmi.1, by simp only; omega, h1, fun t ht htm => ?_⟩ [] rfl rfl (by show m - i < j - i; omega) ?_
      · rcases Nat.lt_or_ge m t with h4 | h4
        · rcases Int.lt_or_le (cmpR gs[t].at_ a) 0 with h5 | h5
          · have := hm m t hml ht h4 h5; omega
          · exact h5
        · have : t = m := by simp only at htm; omega
          subst this; exact h3
      · (simp -implicitDefEqProofs only [go_sem, gsA, rowA, iA]; repeat (refine GO ?_; simp -implicitDefEqProofs only [go_sem, gsA, rowA, iA]))
        exact id
  · have h : i = j := by simp at h; omega
    subst h
    (simp -implicitDefEqProofs only [go_sem, gsA, rowA, iA]; repeat (refine GO ?_; simp -implicitDefEqProofs only [go_sem, gsA, rowA, iA]))
    refine VIF.split (fun h3 => ?_) (fun h3 => ?_)
    · have h3 : i < gs.length := by simpa using h3
      (simp -implicitDefEqProofs only [go_sem]; repeat (refine GO ?_; simp -implicitDefEqProofs only [go_sem]))
      refine EL.map h3 ?_
      (simp -implicitDefEqProofs only [go_sem, Gp.c]; repeat (refine GO ?_; simp -implicitDefEqProofs only [go_sem, Gp.c]))
      refine .pure _ (show Spec0 Try.prog 136 [.ag gs[i].c, rowA a] _ from c136 gs[i] a (hg _ (List.getElem_mem h3))) rfl fun r hq _ => ?_
      subst hq
      (simp -implicitDefEqProofs only [go_sem, iA, bA]; repeat (refine GO ?_; simp -implicitDefEqProofs only [go_sem, iA, bA]))
      exact ⟨rfl, i, _, rfl, hj, h1, h2, by simp [h3]⟩
    · have h3 : ¬ i < gs.length := by simpa using h3
      (simp -implicitDefEqProofs only [go_sem, iA, bA]; repeat (refine GO ?_; simp -implicitDefEqProofs only [go_sem, iA, bA]))
      exact ⟨rfl, i, _, rfl, hj, h1, h2, by simp [h3]⟩
end Yt
namespace Yt
open Go Go.Vc Go.Proofs Go.Lib
set_option maxRecDepth 100000
set_option maxHeartbeats 4000000
set_option linter.unusedSimpArgs false
set_option linter.unusedVariables false

theorem ins137_end (base : Option Addr) (n c : Nat) (vb : Option Addr) (vc : Nat) (w : World) {r : Value} {w' : World} (hz : base = none → n = 0)
    (hap : (Builtin.append_ #[104, 104] 104 #[.slice base n c, .slice vb 1 vc]).run Try.prog w = .ok r w') (hnc : n ≤ c) (hn : n ≤ 1073741824) :
    Calls Try.prog 137 #[.slice base n c, .int .i64 n, .slice vb 1 vc] w fun e w'' => e = .returned r ∧ w'' = w' := by
  have u0 := run_underlying Try.underlying104
  have u3 := run_underlying Try.underlying3
  have u4 := run_underlying Try.underlying4
  go_enter Try.func137, Try.f137
  cases base with
  | none =>
    have h0 := hz rfl
    subst h0
    go_wp2_with (at_builtin; refine Lib.wpList_append_run _ rfl _ _ _ _ rfl _ _ rfl rfl _ _ hap ?_)
    go_ret
    exact ⟨rfl, rfl⟩
  | some a =>
    obtain ⟨ab, ao, asp⟩ := a
    go_wp2_with (at_builtin; refine Lib.wpList_append_run _ rfl _ _ _ _ rfl _ _ rfl rfl _ _ hap ?_)
    all_goals (go_ret; exact ⟨rfl, rfl⟩)

theorem ins137_shift (b off n c k vb vo vc : Nat) (w : World) (hk : k < n) (hroom : n + 1 ≤ c) (hn : n ≤ 1073741824)
    (hov : ∀ lb cb, (callFunc 144 #[.slice (some ⟨vb, vo, none⟩) 1 vc, .slice (some ⟨b, off + (k + 1) * 2, none⟩) lb cb]).run Try.prog w = .ok (.value (.bool false)) w)
    {W1 W2 : World} {m1 m2 : Value}
    (hc1 : ∀ ty dc sc, (Builtin.copy_ #[104, 104] ty #[.slice (some ⟨b, off + (k + 1) * 2, none⟩) (n - k) dc, .slice (some ⟨b, off + k * 2, none⟩) (n + 1 - k) sc]).run Try.prog w.drew = .ok m1 W1)
    (hc2 : ∀ ty dc, (Builtin.copy_ #[104, 104] ty #[.slice (some ⟨b, off + k * 2, none⟩) (n + 1 - k) dc, .slice (some ⟨vb, vo, none⟩) 1 vc]).run Try.prog W1 = .ok m2 W2) :
    Calls Try.prog 137 #[.slice (some ⟨b, off, none⟩) n c, .int .i64 k, .slice (some ⟨vb, vo, none⟩) 1 vc] w fun e w' => e = .returned (.slice (some ⟨b, off, none⟩) (n + 1) c) ∧ w' = W2 := by
  have u0 := run_underlying Try.underlying104
  have u3 := run_underlying Try.underlying3
  have u4 := run_underlying Try.underlying4
  have hz2 : ¬ ((k : Int) = (n : Int)) := by omega
  have hw1 : IntKind.i64.wrap ((k : Int) + 1) = (k : Int) + 1 := by rw [IntKind.wrap_i64]; omega
  have hw2 : IntKind.i64.wrap ((n : Int) + 1) = (n : Int) + 1 := by rw [IntKind.wrap_i64]; omega
  have hb1 : (0 : Int) ≤ (k : Int) + 1 := by omega
  have hin : k ≤ n := by omega
  have htn : ((k : Int) + 1).toNat = k + 1 := by omega
  have htm : ((n : Int) + 1).toNat = n + 1 := by omega
  have hb2 : ¬ (c = k + 1) := by omega
  have hb3 : (k : Int) ≤ (n : Int) + 1 := by omega
  have hb4 : ¬ (c = k) := by omega
  have mixed := tabOk.mixed
  go_enter Try.func137, Try.f137
  go_wp2_with (simp only [hov])
  go_region_law_o (refine step_copy_runI rfl _ _ 104 104 rfl _ _ (by simp [Act.eval, Act.put]) (by simp [Act.eval, Act.put]) (hc1 _ _ _) ?_)
  go_wp2_with (at_builtin; refine wpList_copy_runI _ rfl _ _ 104 104 rfl _ _ rfl rfl (hc2 _ _) ?_)
  go_ret
  exact ⟨rfl, rfl⟩

theorem ins137_grow (b off n c k vb vo vc N G : Nat) (w : World) (hk : k < n) (hnc : n ≤ c) (hroom : c < n + 1) (hn : n ≤ 1073741824) (hGn : n + 1 ≤ G)
    {W1 W2 W3 : World} {m1 m2 : Value}
    (hap : (Builtin.append_ #[104, 3] 104 #[.slice (some ⟨b, off, none⟩) k c, .int .i64 ((n : Int) + 1 - (k : Int))]).run Try.prog w = .ok (.slice (some ⟨N, 0, none⟩) (n + 1) G) W1)
    (hc1 : ∀ ty dc, (Builtin.copy_ #[104, 104] ty #[.slice (some ⟨N, k * 2, none⟩) (n + 1 - k) dc, .slice (some ⟨vb, vo, none⟩) 1 vc]).run Try.prog W1 = .ok m1 W2)
    (hc2 : ∀ ty dc sc, (Builtin.copy_ #[104, 104] ty #[.slice (some ⟨N, (k + 1) * 2, none⟩) (n - k) dc, .slice (some ⟨b, off + k * 2, none⟩) (n - k) sc]).run Try.prog W2.drew = .ok m2 W3) :
    Calls Try.prog 137 #[.slice (some ⟨b, off, none⟩) n c, .int .i64 k, .slice (some ⟨vb, vo, none⟩) 1 vc] w fun e w' => e = .returned (.slice (some ⟨N, 0, none⟩) (n + 1) G) ∧ w' = W3 := by
  have u0 := run_underlying Try.underlying104
  have u3 := run_underlying Try.underlying3
  have u4 := run_underlying Try.underlying4
  have hz2 : ¬ ((k : Int) = (n : Int)) := by omega
  have hz3 : (c : Int) < (n : Int) + 1 := by omega
  have hw1 : IntKind.i64.wrap ((k : Int) + 1) = (k : Int) + 1 := by rw [IntKind.wrap_i64]; omega
  have hw2 : IntKind.i64.wrap ((n : Int) + 1) = (n : Int) + 1 := by rw [IntKind.wrap_i64]; omega
  have hw3 : IntKind.i64.wrap ((n : Int) + 1 - (k : Int)) = (n : Int) + 1 - (k : Int) := by rw [IntKind.wrap_i64]; omega
  have hb1 : (0 : Int) ≤ (k : Int) + 1 := by omega
  have hin : k ≤ n := by omega
  have htn : ((k : Int) + 1).toNat = k + 1 := by omega
  have htm : ((n : Int) + 1).toNat = n + 1 := by omega
  have hb3 : (k : Int) ≤ (n : Int) + 1 := by omega
  have hb5 : (k : Int) ≤ (n : Int) := by omega
  have hGi : ¬ (G = k) := by omega
  have hGim : ¬ (G = k + 1) := by omega
  have hci : ¬ (c = k) := by omega
  have mixed := tabOk.mixed
  go_enter Try.func137, Try.f137
  go_wp2_with (first
    | (at_builtin; refine Lib.wpList_append_run _ rfl _ _ _ _ rfl _ _ rfl rfl _ _ hap ?_)
    | (at_builtin; refine wpList_copy_runI _ rfl _ _ 104 104 rfl _ _ rfl rfl (hc1 _ _) ?_))
  go_region_law_o (refine step_copy_runI rfl _ _ 104 104 rfl (.slice (some ⟨N, (k + 1) * 2, none⟩) (n - k) (G - (k + 1))) (.slice (some ⟨b, off + k * 2, none⟩) (n - k) (c - k)) (by simp [Act.eval, Act.put]) (by simp [Act.eval, Act.put]) (hc2 3 (G - (k + 1)) (c - k)) ?_)
  go_wp2
  go_ret
  exact ⟨rfl, rfl⟩
end Yt
namespace Yt
open Go Go.Vc Go.Proofs Go.Lib
set_option maxRecDepth 10000
set_option linter.unusedSimpArgs false
set_option linter.unusedVariables false
theorem insG : InsRaw Try.prog 137 104 3 144 2 :=
  { fn := ⟨_, Try.func137, rfl, rfl⟩
    ov := fun w vs h => by
      rw [run_callFunc_extern Try.func144 (by kernel_rfl) (by kernel_rfl) (by kernel_rfl) (e := Extern.SlicesOverlaps.overlaps #[104, 104] #[4]) (by kernel_rfl), h 4]
      rfl
    atEnd := fun base n c vb vc w r w' h h1 h2 h3 => ins137_end base n c vb vc w h h1 h2 h3
    shift := fun b off n c k vb vo vc w h1 h2 h3 h4 W1 W2 m1 m2 h5 h6 => ins137_shift b off n c k vb vo vc w h1 h2 h3 h4 h5 h6
    grow := fun b off n c k vb vo vc N G w h1 h2 h3 h4 h5 W1 W2 W3 m1 m2 h6 h7 h8 => ins137_grow b off n c k vb vo vc N G w h1 h2 h3 h4 h5 h6 h7 h8 }
end Yt
namespace Go.Vc
section
variable {α : Type} {st : St} {m : List (Nat × Option Nat)}
theorem mkO_fam {L : List (Nat × α)} {f : Nat × α → Ob} (hn : (L.map Prod.fst).Nodup) {p : Nat × α} (hp : p ∈ L) : mkO (L.map fun p => (p.1, f p)) p.1 = some (f p) := by
  induction L with
  | nil => cases hp
  | cons q r ih =>
    simp only [List.map_cons, List.nodup_cons] at hn
    simp only [List.map_cons, mkO, upd]
    rcases List.mem_cons.1 hp with rfl | hp
    · rw [if_pos rfl]
    · rw [if_neg (fun (h : q.1 = p.1) => hn.1 (by rw [h]; exact List.mem_map_of_mem hp))]; exact ih hn.2 hp
theorem nms_fam {L : List (Nat × α)} {ν : Nat × α → Nat} (hn : (L.map Prod.fst).Nodup) {p : Nat × α} (hp : p ∈ L) : nms (L.map fun p => (p.1, some (ν p))) p.1 = some (some (ν p)) := by
  induction L with
  | nil => cases hp
  | cons q r ih =>
    simp only [List.map_cons, List.nodup_cons] at hn
    simp only [List.map_cons, nms]
    rcases List.mem_cons.1 hp with rfl | hp
    · rw [if_pos rfl]
    · rw [if_neg (fun (h : q.1 = p.1) => hn.1 (by rw [h]; exact List.mem_map_of_mem hp))]; exact ih hn.2 hp
theorem nms_not {L : List (Nat × α)} {ν : Nat × α → Nat} {k : Nat} (hk : k ∉ L.map Prod.fst) : nms (L.map fun p => (p.1, some (ν p))) k = none := by
  induction L with
  | nil => rfl
  | cons q r ih =>
    simp only [List.map_cons, List.mem_cons, not_or] at hk
    simp only [List.map_cons, nms]
    rw [if_neg (fun h => hk.1 h.symm)]; exact ih hk.2
theorem olds_fam {L : List (Nat × α)} {ν : Nat × α → Nat} : olds (L.map fun p => (p.1, some (ν p))) = L.map ν := by
  induction L with
  | nil => rfl
  | cons q r ih => simp only [List.map_cons, olds, ih]
theorem nmOk_fam {L : List (Nat × α)} {ν : Nat × α → Nat} {a : Nat} (h1 : (a :: L.map ν).Nodup) (h0 : 0 ∉ L.map Prod.fst) : nmOk ((1000, some a) :: L.map fun p => (p.1, some (ν p))) (1000 :: L.map Prod.fst) = true := by
  simp only [nmOk, Bool.and_eq_true, decide_eq_true_eq, List.all_eq_true, olds, olds_fam, nms]
  refine ⟨⟨h1, fun x hx => ?_⟩, ?_⟩
  · rcases List.mem_cons.1 hx with rfl | hx
    · simp
    · obtain ⟨p, hp, rfl⟩ := List.mem_map.1 hx
      simp only [List.contains_eq_mem, decide_eq_true_eq]
      exact List.mem_cons_of_mem _ (List.mem_map_of_mem hp)
  · rw [if_neg (by decide), nms_not h0]
theorem Es_all {l l' : List (List AV)} (hl : l.length = l'.length) (h : ∀ i (h1 : i < l.length) (h2 : i < l'.length), wk.wks st m l[i] l'[i]) : Es st m l l' := by
  induction l generalizing l' with
  | nil =>
    cases l' with
    | nil => exact .nil
    | cons y r => cases hl
  | cons x r ih =>
    cases l' with
    | nil => cases hl
    | cons y r' => exact .cons (h 0 (by simp) (by simp)) (ih (by simpa using hl) fun i h1 h2 => h (i + 1) (Nat.succ_lt_succ h1) (Nat.succ_lt_succ h2))
theorem eobs_fam {L : List (Nat × α)} {f : Nat × α → Ob} (h : ∀ p ∈ L, eob st m (nms m p.1) (f p)) : eobs st m (L.map fun p => (p.1, f p)) := by
  induction L with
  | nil => trivial
  | cons q r ih => exact ⟨h q (by simp), ih fun p hp => h p (by simp [hp])⟩
end
end Go.Vc
namespace Yt
open Go Go.Vc Go.Proofs
set_option maxRecDepth 10000
set_option maxHeartbeats 8000000
set_option linter.unusedSimpArgs false
set_option linter.unusedVariables false
def og107 : Ords
  | 10 => some (.fork [(0, some false, false, false), (1, some false, false, false), (2, some false, false, false), (3, some false, false, false), (7, some false, false, false)] 4 (.fork [(5, some false, false, false)] 6 (.lin [(8, none, false, false), (9, none, false, false), (10, some false, false, false), (11, some false, false, false), (12, none, false, false)]) 8 (.lin [(6, some false, false, false), (9, none, false, false), (10, some false, false, false), (11, some false, false, false), (12, none, false, false)])) 8 (.lin [(4, some false, false, false), (5, some false, false, false), (6, some false, false, false), (9, none, false, false), (10, some false, false, false), (11, some false, false, false), (12, none, false, false)]))
  | _ => none
@[go_sem] theorem og107_0 : og107 0 = none := rfl
@[go_sem] theorem og107_1 : og107 1 = none := rfl
@[go_sem] theorem og107_2 : og107 2 = none := rfl
@[go_sem] theorem og107_3 : og107 3 = none := rfl
@[go_sem] theorem og107_4 : og107 4 = none := rfl
@[go_sem] theorem og107_5 : og107 5 = none := rfl
@[go_sem] theorem og107_6 : og107 6 = none := rfl
@[go_sem] theorem og107_7 : og107 7 = none := rfl
@[go_sem] theorem og107_8 : og107 8 = none := rfl
@[go_sem] theorem og107_9 : og107 9 = none := rfl
@[go_sem] theorem og107_10 : og107 10 = some (.fork [(0, some false, false, false), (1, some false, false, false), (2, some false, false, false), (3, some false, false, false), (7, some false, false, false)] 4 (.fork [(5, some false, false, false)] 6 (.lin [(8, none, false, false), (9, none, false, false), (10, some false, false, false), (11, some false, false, false), (12, none, false, false)]) 8 (.lin [(6, some false, false, false), (9, none, false, false), (10, some false, false, false), (11, some false, false, false), (12, none, false, false)])) 8 (.lin [(4, some false, false, false), (5, some false, false, false), (6, some false, false, false), (9, none, false, false), (10, some false, false, false), (11, some false, false, false), (12, none, false, false)])) := rfl
@[go_sem] theorem og107_11 : og107 11 = none := rfl
@[go_sem] theorem og107_12 : og107 12 = none := rfl
structure GpI (cols : List Int) (y : List It) (gs : List Gp) : Prop where
  up : gs.Pairwise fun a b => cmpR a.at_ b.at_ < 0
  items : ∀ g ∈ gs, g.items = y.filter fun t => !decide (t.w < 0) && decide (cmpR (pickR t.row cols) g.at_ = 0)
  some : ∀ g ∈ gs, g.items ≠ []
  all : ∀ t ∈ y, ¬ t.w < 0 → ∃ g ∈ gs, g.at_ = pickR t.row cols
theorem GpI.nil (cols : List Int) : GpI cols [] [] := ⟨.nil, by simp, by simp, by simp⟩
theorem GpI.skip {cols : List Int} {y : List It} {gs : List Gp} (h : GpI cols y gs) {t : It} (ht : t.w < 0) : GpI cols (y ++ [t]) gs :=
  { up := h.up
    items := fun g hg => by rw [h.items g hg, List.filter_append]; simp [ht]
    some := h.some
    all := fun u hu hw => by
      rcases List.mem_append.1 hu with hu | hu
      · exact h.all u hu hw
      · simp at hu; subst hu; exact absurd ht hw }
theorem cmpR_self (a : List V) : cmpR a a = 0 := lin_cmpR.self a
theorem GpI.get {cols : List Int} {y : List It} {gs : List Gp} (h : GpI cols y gs) {i j : Nat} (hi : i < gs.length) (hj : j < gs.length) (hij : i < j) : cmpR gs[i].at_ gs[j].at_ < 0 :=
  List.pairwise_iff_getElem.1 h.up i j hi hj hij
theorem GpI.add {cols : List Int} {y : List It} {gs : List Gp} (h : GpI cols y gs) {t : It} (ht : ¬ t.w < 0) {k : Nat} (hk : k < gs.length) (he : cmpR gs[k].at_ (pickR t.row cols) = 0) :
    GpI cols (y ++ [t]) (gs.set k ⟨gs[k].at_, gs[k].items ++ [t]⟩) := by
  have hkey : pickR t.row cols = gs[k].at_ := (lin_cmpR.eq _ _ he).symm
  have hat : ∀ j (hj : j < gs.length), ((gs.set k ⟨gs[k].at_, gs[k].items ++ [t]⟩)[j]'(by simpa using hj)).at_ = gs[j].at_ := fun j hj => by
    rw [List.getElem_set]; split
    · subst_vars; rfl
    · rfl
  refine { up := ?_, items := fun g hg => ?_, some := fun g hg => ?_, all := fun u hu hw => ?_ }
  · rw [List.pairwise_iff_getElem]
    intro i j hi hj hij
    have hi' : i < gs.length := by simpa using hi
    have hj' : j < gs.length := by simpa using hj
    rw [hat i hi', hat j hj']; exact h.get hi' hj' hij
  · obtain ⟨j, hj, rfl⟩ := List.mem_iff_getElem.1 hg
    have hj' : j < gs.length := by simpa using hj
    have hm := List.getElem_mem hj'
    rw [hat j hj', List.filter_append, ← h.items _ hm, List.getElem_set]
    by_cases e : k = j
    · subst e
      rw [if_pos rfl]
      simp [ht, hkey, cmpR_self]
    · rw [if_neg e]
      have hne : cmpR (pickR t.row cols) gs[j].at_ ≠ 0 := fun h0 => by
        have := lin_cmpR.eq _ _ h0
        rcases Nat.lt_or_gt_of_ne e with h1 | h1
        · have h2 := h.get hk hj' h1; rw [← hkey, this, cmpR_self] at h2; omega
        · have h2 := h.get hj' hk h1; rw [← hkey, this, cmpR_self] at h2; omega
      simp [hne]
  · obtain ⟨j, hj, rfl⟩ := List.mem_iff_getElem.1 hg
    rw [List.getElem_set]
    split
    · simp
    · exact h.some _ (List.getElem_mem _)
  · have tr : ∀ j (hj : j < gs.length), gs[j].at_ = pickR u.row cols → ∃ g ∈ gs.set k ⟨gs[k].at_, gs[k].items ++ [t]⟩, g.at_ = pickR u.row cols := fun j hj e =>
      ⟨_, List.getElem_mem (by simpa using hj), by rw [hat j hj]; exact e⟩
    rcases List.mem_append.1 hu with hu | hu
    · obtain ⟨g, hg, e⟩ := h.all u hu hw
      obtain ⟨j, hj, rfl⟩ := List.mem_iff_getElem.1 hg
      exact tr j hj e
    · simp at hu; subst hu
      exact tr k hk hkey.symm
theorem GpI.ins {cols : List Int} {y : List It} {gs : List Gp} (h : GpI cols y gs) {t : It} (ht : ¬ t.w < 0) {k : Nat} (hk : k ≤ gs.length) (h1 : ∀ j (h : j < gs.length), j < k → cmpR gs[j].at_ (pickR t.row cols) < 0)
    (h2 : ∀ j (h : j < gs.length), k ≤ j → 0 < cmpR gs[j].at_ (pickR t.row cols)) : GpI cols (y ++ [t]) (gs.take k ++ ⟨pickR t.row cols, [t]⟩ :: gs.drop k) := by
  have lo : ∀ g ∈ gs.take k, cmpR g.at_ (pickR t.row cols) < 0 := fun g hg => by
    obtain ⟨j, hj, rfl⟩ := List.mem_iff_getElem.1 hg
    have hj' : j < k ∧ j < gs.length := by rw [List.length_take] at hj; omega
    rw [List.getElem_take]; exact h1 j hj'.2 hj'.1
  have hi : ∀ g ∈ gs.drop k, cmpR (pickR t.row cols) g.at_ < 0 := fun g hg => by
    obtain ⟨j, hj, rfl⟩ := List.mem_iff_getElem.1 hg
    simp at hj
    rw [List.getElem_drop]
    have := h2 (k + j) (by omega) (by omega)
    rw [lin_cmpR.neg]; omega
  have ne : ∀ g ∈ gs, cmpR (pickR t.row cols) g.at_ ≠ 0 := fun g hg h0 => by
    have e := lin_cmpR.eq _ _ h0
    rw [← List.take_append_drop k gs] at hg
    rcases List.mem_append.1 hg with hg | hg
    · have := lo g hg; rw [e, cmpR_self] at this; omega
    · have := hi g hg; rw [← e, cmpR_self] at this; omega
  have mem : ∀ g, g ∈ gs.take k ++ ⟨pickR t.row cols, [t]⟩ :: gs.drop k ↔ g = ⟨pickR t.row cols, [t]⟩ ∨ g ∈ gs := fun g => by
    constructor
    · intro hg
      rcases List.mem_append.1 hg with hg | hg
      · exact .inr (List.mem_of_mem_take hg)
      · rcases List.mem_cons.1 hg with hg | hg
        · exact .inl hg
        · exact .inr (List.mem_of_mem_drop hg)
    · rintro (rfl | hg)
      · simp
      · rw [← List.take_append_drop k gs] at hg
        rcases List.mem_append.1 hg with hg | hg
        · exact List.mem_append_left _ hg
        · exact List.mem_append_right _ (List.mem_cons_of_mem _ hg)
  refine { up := ?_, items := fun g hg => ?_, some := fun g hg => ?_, all := fun u hu hw => ?_ }
  · have hu := h.up
    rw [← List.take_append_drop k gs, List.pairwise_append] at hu
    rw [List.pairwise_append, List.pairwise_cons]
    refine ⟨hu.1, ⟨hi, hu.2.1⟩, fun a ha b hb => ?_⟩
    rcases List.mem_cons.1 hb with rfl | hb
    · exact lo a ha
    · exact hu.2.2 a ha b hb
  · rcases (mem g).1 hg with rfl | hg
    · have : (y.filter fun u => !decide (u.w < 0) && decide (cmpR (pickR u.row cols) (pickR t.row cols) = 0)) = [] := by
        rw [List.filter_eq_nil_iff]
        intro u hu hc
        simp at hc
        obtain ⟨g, hg, e⟩ := h.all u hu (by omega)
        refine ne g hg ?_
        rw [e, lin_cmpR.eq _ _ hc.2, cmpR_self]
      rw [List.filter_append, this]
      simp [ht, cmpR_self]
    · rw [List.filter_append, ← h.items g hg]
      simp [ne g hg]
  · rcases (mem g).1 hg with rfl | hg
    · simp
    · exact h.some g hg
  · rcases List.mem_append.1 hu with hu | hu
    · obtain ⟨g, hg, e⟩ := h.all u hu hw
      exact ⟨g, (mem g).2 (.inr hg), e⟩
    · simp at hu; subst hu
      exact ⟨_, (mem _).2 (.inl rfl), rfl⟩
def gCell (p : Nat × Gp) : List AV := [rowA p.2.at_, .rf p.1 0 p.2.items.length]
def gOb (L : List (Nat × Gp)) : Ob := ⟨2, L.map gCell⟩
def gFam (L : List (Nat × Gp)) : List (Nat × Ob) := L.map fun p => (p.1, so p.2.items)
theorem set_keys {L : List (Nat × Gp)} {k : Nat} {hk : k < L.length} {g : Gp} : (L.set k (L[k].1, g)).map Prod.fst = L.map Prod.fst := by
  refine List.ext_getElem (by simp) fun j q1 q2 => ?_
  simp only [List.getElem_map, List.getElem_set]
  split
  · subst_vars; rfl
  · rfl
theorem key_inj {L : List (Nat × Gp)} (hn : (L.map Prod.fst).Nodup) {i j : Nat} (hi : i < L.length) (hj : j < L.length) (h : L[i].1 = L[j].1) : i = j := by
  refine (List.getElem_inj (xs := L.map Prod.fst) (h₀ := by simpa using hi) (h₁ := by simpa using hj) hn).1 ?_
  simpa using h
theorem set_cells {L : List (Nat × Gp)} (hn : (L.map Prod.fst).Nodup) {k : Nat} (hk : k < L.length) {g : Gp} :
    (L.map gCell).set k [rowA g.at_, .rf 51 0 g.items.length] = (L.set k (L[k].1, g)).map fun p => [rowA p.2.at_, .rf (if p.1 = L[k].1 then 51 else p.1) 0 p.2.items.length] := by
  refine List.ext_getElem (by simp) fun j q1 q2 => ?_
  simp only [List.getElem_map, List.getElem_set]
  by_cases e : k = j
  · subst e; simp
  · have hj : j < L.length := by simpa using q1
    have hne : L[j].1 ≠ L[k].1 := fun h => e (key_inj hn hk hj h.symm)
    rw [if_neg e, if_neg e, if_neg hne]; rfl
theorem lent_leafy {objs : Nat → Option Ob} {id : Nat} {o : Ob} {len : Nat} {es : List (List AV)} (ho : objs id = some o) (hes : o.es = es) (hl : es.length = len) (hleaf : o.leafy) (hr : ∀ x ∈ es, x.length = o.sz) : Lent objs (.rf id 0 len) (.im o.sz es) := by
  subst hes; subst hl
  refine .rf ho (by rw [List.drop_zero, List.take_length]) rfl hr (fun i j a' h => leafy_get hleaf h) fun i j a a' h h' => ?_
  rw [h] at h'; cases h'
  exact .same (leaf_noId (leafy_get hleaf h))
theorem lent_groups {objs : Nat → Option Ob} {L : List (Nat × Gp)} (h0 : objs 1000 = some (gOb L)) (h : ∀ p ∈ L, objs p.1 = some (so p.2.items)) : Lent objs (.rf 1000 0 L.length) (gsA (L.map Prod.snd)) := by
  have e : gsA (L.map Prod.snd) = .im (gOb L).sz ((L.map Prod.snd).map Gp.c) := rfl
  rw [e]
  refine .rf (es := L.map gCell) h0 (by simp only [gOb, List.drop_zero]; exact take_map_len _ _) (by simp) (fun x hx => ?_) (fun i j a' h => ?_) fun i j a a' g g' => ?_
  · obtain ⟨g, _, rfl⟩ := List.mem_map.1 hx
    rfl
  · simp only [cellAt] at h
    cases hi : ((L.map Prod.snd).map Gp.c)[i]? with
    | none => rw [hi] at h; cases h
    | some x =>
      rw [hi] at h
      obtain ⟨g, _, rfl⟩ := List.mem_map.1 (List.mem_of_getElem? hi)
      have := List.mem_of_getElem? h
      simp [Gp.c, rowA, setA] at this
      rcases this with rfl | rfl <;> rfl
  · have hi : i < L.length := by
      simp only [cellAt] at g
      rcases Nat.lt_or_ge i L.length with h1 | h1
      · exact h1
      · rw [List.getElem?_eq_none (by simpa using h1)] at g; cases g
    simp only [cellAt, List.getElem?_map, List.getElem?_eq_getElem hi, Option.map_some, Option.bind_some] at g g'
    match j with
    | 0 => simp [gCell, Gp.c] at g g'; subst g; subst g'; exact .same rfl
    | 1 =>
      simp [gCell, Gp.c] at g g'; subst g; subst g'
      exact lent_leafy (o := so L[i].2.items) (h _ (List.getElem_mem hi)) rfl (by simp) (so_leafy _) (fun x hx => by obtain ⟨t, _, rfl⟩ := List.mem_map.1 hx; rfl)
    | j + 2 => simp [gCell] at g
theorem nd_repl {α : Type} {L : List (Nat × α)} {a x : Nat} (hn : (L.map Prod.fst).Nodup) (hge : ∀ q ∈ L.map Prod.fst, 2000 ≤ q) (ha : a < 2000) (ha2 : a ≠ 51) : (a :: L.map fun p => if p.1 = x then 51 else p.1).Nodup := by
  refine List.nodup_cons.2 ⟨fun h => ?_, ?_⟩
  · obtain ⟨p, hp, e⟩ := List.mem_map.1 h
    have := hge _ (List.mem_map_of_mem hp)
    split at e <;> omega
  · induction L with
    | nil => exact .nil
    | cons p r ih =>
      simp only [List.map_cons, List.nodup_cons] at hn ⊢
      have hge' : ∀ q ∈ r.map Prod.fst, 2000 ≤ q := fun q hq => hge q (by simp only [List.map_cons]; exact List.mem_cons_of_mem _ hq)
      refine ⟨fun h => ?_, ih hn.2 hge'⟩
      obtain ⟨q, hq, e⟩ := List.mem_map.1 h
      have h1 := hge' _ (List.mem_map_of_mem hq)
      have h2 := hge p.1 (by simp)
      have h3 : q.1 ≠ p.1 := fun h => hn.1 (h ▸ List.mem_map_of_mem hq)
      split at e <;> split at e <;> omega
theorem EL.mid {l : List (List AV)} {x : List AV} {k : Nat} {K : List AV → Prop} (h : k ≤ l.length) (hK : K x) : EL (List.take k l ++ x :: List.drop k l) k K :=
  ⟨x, by rw [List.getElem?_append_right (by simp; omega)]; simp [Nat.min_eq_left h], hK⟩
theorem fresh_name (l : List Nat) : ∃ n, 2000 ≤ n ∧ n ∉ l := by
  have h : ∃ m, ∀ x ∈ l, x ≤ m := by
    induction l with
    | nil => exact ⟨0, by simp⟩
    | cons y r ih =>
      obtain ⟨m, hm⟩ := ih
      refine ⟨y + m, fun x hx => ?_⟩
      rcases List.mem_cons.1 hx with rfl | hx
      · omega
      · have := hm x hx; omega
  obtain ⟨m, hm⟩ := h
  exact ⟨2000 + m, by omega, fun h => by have := hm _ h; omega⟩
theorem fam_ents {st : St} {L : List (Nat × Gp)} {a : Nat} {ν : Nat × Gp → Nat} {es : List (List AV)} (hn : (L.map Prod.fst).Nodup) (h1 : ∀ q ∈ L.map Prod.fst, 2000 ≤ q) (ha : st.objs a = some ⟨2, es⟩)
    (hes : es = L.map fun p => [rowA p.2.at_, .rf (ν p) 0 p.2.items.length]) (hob : ∀ p ∈ L, st.objs (ν p) = some (so p.2.items)) :
    eobs st ((1000, some a) :: L.map fun p => (p.1, some (ν p))) ((1000, gOb L) :: gFam L) := by
  have hk : ∀ p ∈ L, nms ((1000, some a) :: L.map fun p => (p.1, some (ν p))) p.1 = some (some (ν p)) := fun p hp => by
    simp only [nms]
    rw [if_neg (fun (h : 1000 = p.1) => by have := h1 p.1 (List.mem_map_of_mem hp); omega)]
    exact nms_fam hn hp
  refine ⟨?_, eobs_fam fun p hp => ?_⟩
  · simp only [nms, if_pos, eob]
    refine ⟨_, ha, rfl, Es_all (by rw [hes]; simp [gOb]) fun i q1 q2 => ?_⟩
    subst hes
    have hi : i < L.length := by simpa using q1
    simp only [gOb, List.getElem_map, gCell, wk.wks, and_true]
    refine ⟨wk_leaf rfl, ?_⟩
    simp only [wk, hk _ (List.getElem_mem hi)]
    exact ⟨trivial, trivial, trivial⟩
  · rw [hk p hp]
    exact ⟨_, hob p hp, rfl, .same (so p.2.items) _ _ (so_leafy _) rfl⟩
theorem c107 (z : List It) (cols : List Int) (hl : z.length ≤ 1048576) (hr : ∀ t ∈ z, t.row.length < 1073741824) (hc : cols.length < 1073741824) (hp : ∀ t ∈ z, pickE t.row cols = 0) :
    Spec0 Try.prog 107 [setA z, intsL cols] (fun r => ∃ gs : List Gp, r = gsA gs ∧ GpI cols z gs ∧ gs.length ≤ z.length) := by
  refine spec0_of_vc tabOk elems og107 Try.func107 rfl (rl := [.tmp 4]) rfl (by kernel_rfl) rfl ?_
  (simp -implicitDefEqProofs only [go_sem, setA, intsL, iA]; repeat (refine GO ?_; simp -implicitDefEqProofs only [go_sem, setA, intsL, iA]))
  refine LOOP.mk (ι := { p : Nat × List (Nat × Gp) // p.1 ≤ z.length ∧ GpI cols (z.take p.1) (p.2.map Prod.snd) ∧ (p.2.map Prod.fst).Nodup ∧ (∀ q ∈ p.2.map Prod.fst, 2000 ≤ q) ∧ p.2.length ≤ p.1 })
    (fun p => mkS [(1, intsL cols), (5, .rf 1000 0 p.1.2.length), (12, setA z), (13, iA z.length), (14, iA p.1.1)] ((1000, gOb p.1.2) :: gFam p.1.2) (1000 :: p.1.2.map Prod.fst))
    (fun p => z.length - p.1.1) ⟨(0, []), Nat.zero_le _, GpI.nil cols, .nil, by simp, Nat.le_refl _⟩ [(1000, none)] rfl rfl ?_ (fun p => ?_)
  · (simp -implicitDefEqProofs only [go_sem, setA, intsL, iA, gOb, gFam]; repeat (refine GO ?_; simp -implicitDefEqProofs only [go_sem, setA, intsL, iA, gOb, gFam]))
    simp
    trivial
  obtain ⟨⟨i, L⟩, hi, hg, hn, h2000, hLi⟩ := p
  simp only at hi hg hn h2000 hLi
  (simp -implicitDefEqProofs only [go_sem, setA, intsL, iA]; repeat (refine GO ?_; simp -implicitDefEqProofs only [go_sem, setA, intsL, iA]))
  refine VIF.split (fun h => ?_) (fun h => ?_)
  · have h : i < z.length := by simpa using h
    have hm := List.getElem_mem h
    have w1 := wrap_add1 (show i < 4611686018427387904 by omega)
    have hfr : ∀ k < 2000, (k ∈ L.map Prod.fst) = False := fun k hk => eq_false fun h => by have := h2000 k h; omega
    have f7 := hfr 7 (by decide)
    have f40 := hfr 40 (by decide)
    have f41 := hfr 41 (by decide)
    have f50 := hfr 50 (by decide)
    have f51 := hfr 51 (by decide)
    (simp -implicitDefEqProofs only [go_sem]; repeat (refine GO ?_; simp -implicitDefEqProofs only [go_sem]))
    refine EL.map h ?_
    (simp -implicitDefEqProofs only [go_sem, It.c, iA, f7]; repeat (refine GO ?_; simp -implicitDefEqProofs only [go_sem, It.c, iA, f7]))
    refine VIF.split (fun h2 => ?_) (fun h2 => ?_)
    · have h2 : z[i].w < 0 := by simpa using h2
      (simp -implicitDefEqProofs only [go_sem, w1]; repeat (refine GO ?_; simp -implicitDefEqProofs only [go_sem, w1]))
      refine BACK.mk ⟨(i + 1, L), by simp only; omega, ?_, hn, h2000, by simp only; omega⟩ ((1000, some 1000) :: L.map fun p => (p.1, some p.1)) rfl (nmOk_fam (ν := Prod.fst) (by simp [hfr, hn]) (by simp [hfr])) (by show z.length - (i + 1) < z.length - i; omega) ?_
      · rw [List.take_succ_eq_append_getElem h]; exact hg.skip h2
      · refine ⟨by simp [hfr], ?_, fam_ents (ν := Prod.fst) hn h2000 (es := L.map gCell) ?_ rfl fun p hp => ?_⟩
        · (simp -implicitDefEqProofs only [go_sem, setA, iA, intsL, w1]; repeat (refine GO ?_; simp -implicitDefEqProofs only [go_sem, setA, iA, intsL, w1]))
        · (simp -implicitDefEqProofs only [go_sem, gOb]; repeat (refine GO ?_; simp -implicitDefEqProofs only [go_sem, gOb]))
        · have := h2000 p.1 (List.mem_map_of_mem hp)
          have e1 : (7 = p.1) = False := eq_false (by omega)
          have e2 : (1000 = p.1) = False := eq_false (by omega)
          (simp -implicitDefEqProofs only [go_sem, e1, e2]; repeat (refine GO ?_; simp -implicitDefEqProofs only [go_sem, e1, e2]))
          exact mkO_fam hn hp
    · have h2 : 0 ≤ z[i].w := by simpa using h2
      have hrl := hr _ hm
      have hkey := hp _ hm
      (simp -implicitDefEqProofs only [go_sem, rowA]; repeat (refine GO ?_; simp -implicitDefEqProofs only [go_sem, rowA]))
      refine .pure _ (show Spec0 Try.prog 61 [rowA z[i].row, intsL cols] _ from Spec1.rowE (c61 z[i].row cols hrl hc)) rfl fun r hq _ => ?_
      obtain ⟨key, err, rfl, rfl, hk1, _⟩ := hq
      have hk1 := hk1 hkey
      (simp -implicitDefEqProofs only [go_sem, iA, rowA]; repeat (refine GO ?_; simp -implicitDefEqProofs only [go_sem, iA, rowA]))
      have hlen : (L.map Prod.snd).length = L.length := by simp
      have hat : ∀ g ∈ L.map Prod.snd, g.at_.length < 4611686018427387904 := fun g hg' => by
        obtain ⟨t, ht⟩ := List.exists_mem_of_ne_nil _ (hg.some g hg')
        rw [hg.items g hg', List.mem_filter] at ht
        have h3 := hp t (List.mem_of_mem_take ht.1)
        have h4 : cmpR (pickR t.row cols) g.at_ = 0 := by have := ht.2; simp at this; exact this.2
        rw [← lin_cmpR.eq _ _ h4]
        have : (pickR t.row cols).length = cols.length := by simp [pickR]
        omega
      have hmono : ∀ a b (ha : a < (L.map Prod.snd).length) (hb : b < (L.map Prod.snd).length), a < b → cmpR (L.map Prod.snd)[b].at_ key < 0 → cmpR (L.map Prod.snd)[a].at_ key < 0 := fun a b ha hb hab h3 =>
        lin_cmpR.trans _ _ _ (hg.get ha hb hab) h3
      refine .lendR (show Spec0 Try.prog 135 [gsA (L.map Prod.snd), rowA key, .fn 136 []] _ from c135 (L.map Prod.snd) key (by rw [hlen]; omega) hat hmono) ?_ ?_ fun r hq => ?_
      · refine ⟨lent_groups ?_ fun p hp => ?_, .same rfl, .same rfl, trivial⟩
        · (simp -implicitDefEqProofs only [go_sem]; repeat (refine GO ?_; simp -implicitDefEqProofs only [go_sem]))
        · have r0 := h2000 p.1 (List.mem_map_of_mem hp)
          have r1 : (7 = p.1) = False := eq_false (by omega)
          have r2 : (1000 = p.1) = False := eq_false (by omega)
          (simp -implicitDefEqProofs only [go_sem, r1, r2]; repeat (refine GO ?_; simp -implicitDefEqProofs only [go_sem, r1, r2]))
          exact mkO_fam hn hp
      · rintro _ ⟨k, b, rfl, _⟩; rfl
      obtain ⟨k, b, rfl, hkl, hk2, hk3, hb⟩ := hq
      (simp -implicitDefEqProofs only [go_sem, iA, bA]; repeat (refine GO ?_; simp -implicitDefEqProofs only [go_sem, iA, bA]))
      refine VIF.split (fun h4 => ?_) (fun h4 => ?_)
      · have h4 : b = false := by simpa using h4
        have hk : k ≤ L.length := by rw [← hlen]; exact hkl
        (simp -implicitDefEqProofs only [go_sem, iA, rowA, f7, f40, f41]; repeat (refine GO ?_; simp -implicitDefEqProofs only [go_sem, iA, rowA, f7, f40, f41]))
        refine .ins (e := 107) (tS := 104) (tI := 3) (fo := 144) tabOk elems insG rfl rfl (id := 1000) (id2 := 40) (o := gOb L) (o2 := ⟨2, [[rowA key, .nl]]⟩) (x := [rowA key, .nl]) (by (simp -implicitDefEqProofs only [go_sem]; repeat (refine GO ?_; simp -implicitDefEqProofs only [go_sem]))) (by (simp -implicitDefEqProofs only [go_sem, rowA]; repeat (refine GO ?_; simp -implicitDefEqProofs only [go_sem, rowA]))) (by decide) (by simp [hfr]) rfl rfl rfl hk (by omega) ?_
        have htl : ((gOb L).es.drop 0).take L.length = L.map gCell := by simp only [gOb, List.drop_zero]; exact take_map_len _ _
        rw [htl]
        have e5 : ((k : Int) < ((L.length + 1 : Nat) : Int)) = True := eq_true (by omega)
        have hkm : k ≤ (L.map gCell).length := by simpa using hk
        obtain ⟨fr, hf1, hf2⟩ := fresh_name (L.map Prod.fst)
        obtain ⟨L', hL'⟩ : ∃ L', L' = L.take k ++ (fr, (⟨key, [z[i]]⟩ : Gp)) :: L.drop k := ⟨_, rfl⟩
        have hg1 : GpI cols (z.take (i + 1)) (L'.map Prod.snd) := by
          have hnb : ¬ ∃ h : k < (L.map Prod.snd).length, cmpR (L.map Prod.snd)[k].at_ key = 0 := fun g => by have := hb.2 g; rw [h4] at this; cases this
          have h3 := hg.ins (t := z[i]) (by omega) (k := k) hkl (by rw [← hk1]; exact hk2) (by
            rw [← hk1]
            intro j hj hkj
            have h5 := hk3 j hj hkj
            rcases Nat.lt_or_ge k j with h6 | h6
            · rcases Int.lt_or_le 0 (cmpR (L.map Prod.snd)[j].at_ key) with h7 | h7
              · exact h7
              · have h8 : cmpR (L.map Prod.snd)[j].at_ key = 0 := by omega
                have h9 := hk3 k (by omega) (Nat.le_refl _)
                have h10 := hg.get (by omega) hj h6
                rw [lin_cmpR.eq _ _ h8] at h10; omega
            · have : j = k := by omega
              subst this
              have : cmpR (L.map Prod.snd)[j].at_ key ≠ 0 := fun h => hnb ⟨hj, h⟩
              omega)
          rw [List.take_succ_eq_append_getElem h, hL', List.map_append, List.map_cons, List.map_take, List.map_drop, hk1]
          exact h3
        have hmem : ∀ p ∈ L', p = (fr, ⟨key, [z[i]]⟩) ∨ p ∈ L := fun p hp => by
          rw [hL'] at hp
          rcases List.mem_append.1 hp with h | h
          · exact .inr (List.mem_of_mem_take h)
          · rcases List.mem_cons.1 h with h | h
            · exact .inl h
            · exact .inr (List.mem_of_mem_drop h)
        have hn' : (L'.map Prod.fst).Nodup := by
          rw [hL', List.map_append, List.map_cons, (List.perm_middle).nodup_iff, ← List.map_append, List.take_append_drop]
          exact List.nodup_cons.2 ⟨hf2, hn⟩
        have h2000' : ∀ q ∈ L'.map Prod.fst, 2000 ≤ q := fun q hq => by
          obtain ⟨p, hp, rfl⟩ := List.mem_map.1 hq
          rcases hmem p hp with rfl | h
          · exact hf1
          · exact h2000 _ (List.mem_map_of_mem h)
        have hfl : ∀ p ∈ L, p.1 ≠ fr := fun p hp h => hf2 (h ▸ List.mem_map_of_mem hp)
        have hnd : (41 :: L'.map fun p => if p.1 = fr then 51 else p.1).Nodup := nd_repl hn' h2000' (by decide) (by decide)
        have h00 : 0 ∉ L'.map Prod.fst := fun h => absurd (h2000' 0 h) (by omega)
        have hlL : L'.length = L.length + 1 := by rw [hL']; simp; omega
        have hsc : (List.take k (L.map gCell) ++ [rowA key, .nl] :: List.drop k (L.map gCell)).set k [rowA key, .rf 51 0 1] = L'.map fun p => [rowA p.2.at_, .rf (if p.1 = fr then 51 else p.1) 0 p.2.items.length] := by
          have hcl : ∀ p ∈ L, gCell p = [rowA p.2.at_, .rf (if p.1 = fr then 51 else p.1) 0 p.2.items.length] := fun p hp => by rw [if_neg (hfl p hp)]; rfl
          have htk : (List.take k (L.map gCell)).length = k := by simp; omega
          rw [List.set_append_right _ _ (by omega), htk, Nat.sub_self, List.set_cons_zero, hL', List.map_append, List.map_cons, ← List.map_take, ← List.map_drop]
          congr 1
          · exact List.map_congr_left fun p hp => hcl p (List.mem_of_mem_take hp)
          · congr 1
            · simp
            · exact List.map_congr_left fun p hp => hcl p (List.mem_of_mem_drop hp)
        (simp -implicitDefEqProofs only [go_sem, iA, rowA, f7, f40, f41, f50, f51, e5]; repeat (refine GO ?_; simp -implicitDefEqProofs only [go_sem, iA, rowA, f7, f40, f41, f50, f51, e5]))
        refine ⟨⟨EL.mid hkm ?_, EL.mid hkm ?_⟩, EL.mid hkm ?_⟩
        all_goals (simp -implicitDefEqProofs only [go_sem, iA, rowA, f7, f40, f41, f50, f51, e5, w1]; repeat (refine GO ?_; simp -implicitDefEqProofs only [go_sem, iA, rowA, f7, f40, f41, f50, f51, e5, w1]))
        all_goals refine EL.mid hkm ?_
        all_goals (simp -implicitDefEqProofs only [go_sem, iA, rowA, f7, f40, f41, f50, f51, e5, w1]; repeat (refine GO ?_; simp -implicitDefEqProofs only [go_sem, iA, rowA, f7, f40, f41, f50, f51, e5, w1]))
        all_goals refine BACK.mk ⟨(i + 1, L'), by simp only; omega, hg1, hn', h2000', by simp only; omega⟩ ((1000, some 41) :: L'.map fun p => (p.1, some (if p.1 = fr then 51 else p.1))) rfl (nmOk_fam (ν := fun p => if p.1 = fr then 51 else p.1) hnd h00) (by show z.length - (i + 1) < z.length - i; omega) ?_
        all_goals
          refine ⟨by simp [hfr], ?_, fam_ents (ν := fun p => if p.1 = fr then 51 else p.1) hn' h2000' (es := (List.take k (L.map gCell) ++ [rowA key, .nl] :: List.drop k (L.map gCell)).set k [rowA key, .rf 51 0 1]) ?_ hsc fun p hp => ?_⟩
          · (simp -implicitDefEqProofs only [go_sem, setA, iA, intsL, w1, hlL]; repeat (refine GO ?_; simp -implicitDefEqProofs only [go_sem, setA, iA, intsL, w1, hlL]))
          · (simp -implicitDefEqProofs only [go_sem, rowA]; repeat (refine GO ?_; simp -implicitDefEqProofs only [go_sem, rowA]))
          · rcases hmem p hp with rfl | hp
            · rw [if_pos rfl]
              (simp -implicitDefEqProofs only [go_sem, so, It.c]; repeat (refine GO ?_; simp -implicitDefEqProofs only [go_sem, so, It.c]))
              rfl
            · rw [if_neg (hfl p hp)]
              have r0 := h2000 p.1 (List.mem_map_of_mem hp)
              have r1 : (7 = p.1) = False := eq_false (by omega)
              have r2 : (50 = p.1) = False := eq_false (by omega)
              have r3 : (51 = p.1) = False := eq_false (by omega)
              have r4 : (1000 = p.1) = False := eq_false (by omega)
              have r5 : (40 = p.1) = False := eq_false (by omega)
              have r6 : (41 = p.1) = False := eq_false (by omega)
              (simp -implicitDefEqProofs only [go_sem, r1, r2, r3, r4, r5, r6]; repeat (refine GO ?_; simp -implicitDefEqProofs only [go_sem, r1, r2, r3, r4, r5, r6]))
              exact mkO_fam hn hp
      · have h4 : b = true := by simpa using h4
        obtain ⟨h5, h6⟩ := hb.1 h4
        have hk : k < L.length := by simpa using h5
        have hkm := List.getElem_mem hk
        have hge := h2000 _ (List.mem_map_of_mem hkm)
        have e1 : (1000 = L[k].1) = False := eq_false (by omega)
        have e2 : (7 = L[k].1) = False := eq_false (by omega)
        have e3 : (50 = L[k].1) = False := eq_false (by omega)
        have e4 : mkO (gFam L) L[k].1 = some (so L[k].2.items) := mkO_fam hn hkm
        have e5 : ((k : Int) < L.length) = True := eq_true (by omega)
        have e6 : (L[k].1 = 1000) = False := eq_false (by omega)
        have e7 : (L[k].1 = 7) = False := eq_false (by omega)
        have e8 : (L[k].1 = 50) = False := eq_false (by omega)
        (simp -implicitDefEqProofs only [go_sem, iA, rowA, f7, f50, f51, gOb, e5]; repeat (refine GO ?_; simp -implicitDefEqProofs only [go_sem, iA, rowA, f7, f50, f51, gOb, e5]))
        have e9 : (L[k].1 = 51) = False := eq_false (by omega)
        have e10 : (51 = L[k].1) = False := eq_false (by omega)
        have esz : ∀ l, (so l).sz = 2 := fun _ => rfl
        have hil : L[k].2.items.length ≤ 1073741823 := by
          rw [hg.items _ (List.mem_map_of_mem hkm)]
          have := List.length_filter_le (fun t : It => !decide (t.w < 0) && decide (cmpR (pickR t.row cols) L[k].2.at_ = 0)) (z.take i)
          rw [List.length_take] at this
          omega
        have hil2 : (L[k].2.items.length ≤ 1073741823) = True := eq_true hil
        obtain ⟨L', hL'⟩ : ∃ L', L' = L.set k (L[k].1, ⟨L[k].2.at_, L[k].2.items ++ [z[i]]⟩) := ⟨_, rfl⟩
        have hks : L'.map Prod.fst = L.map Prod.fst := by rw [hL']; exact set_keys (hk := hk)
        have hg1 : GpI cols (z.take (i + 1)) (L'.map Prod.snd) := by
          have h3 := hg.add (t := z[i]) (by omega) h5 (by rw [← hk1]; exact h6)
          rw [List.take_succ_eq_append_getElem h, hL', List.map_set]
          simpa only [List.getElem_map] using h3
        have hnd : (1000 :: L'.map fun p => if p.1 = L[k].1 then 51 else p.1).Nodup := nd_repl (by rw [hks]; exact hn) (by rw [hks]; exact h2000) (by decide) (by decide)
        have h00 : 0 ∉ L'.map Prod.fst := by rw [hks, hfr 0 (by decide)]; exact id
        have hsc := set_cells hn hk (g := ⟨L[k].2.at_, L[k].2.items ++ [z[i]]⟩)
        rw [← hL'] at hsc
        have hlL : L'.length = L.length := by rw [hL', List.length_set]
        have hob : ∀ p ∈ L', p.1 = L[k].1 ∧ p.2.items = L[k].2.items ++ [z[i]] ∨ p.1 ≠ L[k].1 ∧ mkO (gFam L) p.1 = some (so p.2.items) := by
          intro p hp'
          obtain ⟨t, ht, rfl⟩ := List.mem_iff_getElem.1 hp'
          simp only [hL', List.getElem_set]
          by_cases e : k = t
          · subst e; simp
          · have ht' : t < L.length := by rw [← hlL]; exact ht
            refine .inr ⟨?_, ?_⟩
            · rw [if_neg e]; exact fun h => e (key_inj hn hk ht' h.symm)
            · rw [if_neg e]; exact mkO_fam hn (List.getElem_mem ht')
        refine ⟨⟨EL.map hk ?_, EL.map hk ?_⟩, EL.map hk ?_⟩
        all_goals (simp -implicitDefEqProofs only [go_sem, gCell, f50, f51, e1, e2, e3, e4, e5, e6, e7, e8, e9, e10, esz, hil2, w1]; repeat (refine GO ?_; simp -implicitDefEqProofs only [go_sem, gCell, f50, f51, e1, e2, e3, e4, e5, e6, e7, e8, e9, e10, esz, hil2, w1]))
        all_goals refine EL.map hk ?_
        all_goals (simp -implicitDefEqProofs only [go_sem, gCell, f50, f51, e1, e2, e3, e4, e5, e6, e7, e8, e9, e10, esz, hil2, w1]; repeat (refine GO ?_; simp -implicitDefEqProofs only [go_sem, gCell, f50, f51, e1, e2, e3, e4, e5, e6, e7, e8, e9, e10, esz, hil2, w1]))
        all_goals refine BACK.mk ⟨(i + 1, L'), by simp only; omega, hg1, by rw [hks]; exact hn, by rw [hks]; exact h2000, by simp only; omega⟩ ((1000, some 1000) :: L'.map fun p => (p.1, some (if p.1 = L[k].1 then 51 else p.1))) rfl (nmOk_fam (ν := fun p => if p.1 = L[k].1 then 51 else p.1) hnd h00) (by show z.length - (i + 1) < z.length - i; omega) ?_
        all_goals
          refine ⟨by simp [hfr], ?_, fam_ents (ν := fun p => if p.1 = L[k].1 then 51 else p.1) (by rw [hks]; exact hn) (by rw [hks]; exact h2000) (es := (L.map gCell).set k [rowA L[k].2.at_, .rf 51 0 (L[k].2.items.length + 1)]) ?_ ?_ fun p hp => ?_⟩
          · (simp -implicitDefEqProofs only [go_sem, setA, iA, intsL, w1, hlL]; repeat (refine GO ?_; simp -implicitDefEqProofs only [go_sem, setA, iA, intsL, w1, hlL]))
          · (simp -implicitDefEqProofs only [go_sem, e1, e2, e3, e4, e6, e7, e8, e9, e10, rowA]; repeat (refine GO ?_; simp -implicitDefEqProofs only [go_sem, e1, e2, e3, e4, e6, e7, e8, e9, e10, rowA]))
          · simpa using hsc
          · rcases hob p hp with ⟨q1, q2⟩ | ⟨q1, q2⟩
            · rw [if_pos q1, q2]
              (simp -implicitDefEqProofs only [go_sem, so, It.c]; repeat (refine GO ?_; simp -implicitDefEqProofs only [go_sem, so, It.c]))
              rw [List.map_append]; rfl
            · rw [if_neg q1]
              have r0 := h2000 p.1 (by rw [← hks]; exact List.mem_map_of_mem hp)
              have r1 : (7 = p.1) = False := eq_false (by omega)
              have r2 : (50 = p.1) = False := eq_false (by omega)
              have r3 : (51 = p.1) = False := eq_false (by omega)
              have r4 : (1000 = p.1) = False := eq_false (by omega)
              have r5 : (L[k].1 = p.1) = False := eq_false (fun h => q1 h.symm)
              (simp -implicitDefEqProofs only [go_sem, r1, r2, r3, r4, r5]; repeat (refine GO ?_; simp -implicitDefEqProofs only [go_sem, r1, r2, r3, r4, r5]))
              exact q2
  · have h : i = z.length := by simp at h; omega
    subst h
    rw [List.take_length] at hg
    simp -implicitDefEqProofs only [go_sem]
    refine TO [(1000, some 1000)] [(5, .rf 1000 0 L.length)] [(1000, ⟨2, (L.map Prod.snd).map Gp.c⟩)] [1000] rfl ?_ ?_
    · (simp -implicitDefEqProofs only [go_sem, gOb]; repeat (refine GO ?_; simp -implicitDefEqProofs only [go_sem, gOb]))
      have h0 : 0 ∉ L.map Prod.fst := fun h => absurd (h2000 0 h) (by omega)
      refine ⟨fun h => h.elim id (fun h => h0 h), Es_all (by simp) fun j q1 q2 => ?_⟩
      have hj : j < L.length := by simpa using q1
      have hmj := List.getElem_mem hj
      have hge := h2000 _ (List.mem_map_of_mem hmj)
      simp only [List.getElem_map, gCell, Gp.c, wk.wks, and_true]
      refine ⟨wk_leaf rfl, ?_⟩
      simp only [wk, setA]
      refine ⟨by simp [olds]; omega, so L[j].2.items, ?_, so_leafy _, rfl, by simp only [so, List.drop_zero]; exact take_map_len _ _⟩
      have e2 : (1000 = L[j].1) = False := eq_false (by omega)
      (simp -implicitDefEqProofs only [go_sem, e2]; repeat (refine GO ?_; simp -implicitDefEqProofs only [go_sem, e2]))
      exact mkO_fam hn hmj
    simp -implicitDefEqProofs only [go_sem]
    refine FRZ 1000 ⟨2, (L.map Prod.snd).map Gp.c⟩ rfl (leafy_do ▸ leafs2_map fun x _ => by simp [leafs, Gp.c, rowA, setA, AV.leaf]) ?_
    (simp -implicitDefEqProofs only [go_sem]; repeat (refine GO ?_; simp -implicitDefEqProofs only [go_sem]))
    exact ⟨L.map Prod.snd, by rw [List.take_of_length_le (by simp)]; rfl, hg, by simpa using hLi⟩
end Yt
namespace Yt
open Go Go.Vc Go.Proofs
set_option maxRecDepth 10000
set_option maxHeartbeats 8000000
set_option linter.unusedSimpArgs false
set_option linter.unusedVariables false
def gval (kind col : Int) (g : Gp) : Option V := if kind = 1 ∨ kind = 2 then (sumF kind col g.items 0).map fun n => ⟨3, n, ByteArray.empty⟩ else some (bestF kind col g.items V.nul)
def gItem (kind col : Int) (g : Gp) : It := ⟨g.at_ ++ [(gval kind col g).getD V.zero], 1⟩
def Wr0 (z : List It) (cols : List Int) (kind col : Int) : Prop := Good z ∧ 1 ≤ kind ∧ kind ≤ 4 ∧ cols.length < 12 ∧ ∀ t ∈ z, pickE t.row cols = 0 ∧ (kind ≠ 1 → inC col t.row.length = true)
def GroupR (z : List It) (cols : List Int) (kind col : Int) (out : List It) (err : Int) : Prop :=
  (¬ Wr0 z cols kind col ∧ out = [] ∧ (err = 1 ∨ err = 2) ∧ (err = 2 ↔ Good z ∧ 1 ≤ kind ∧ kind ≤ 4 ∧ 12 ≤ cols.length)) ∨
  (Wr0 z cols kind col ∧ ∃ gs, GpI cols z gs ∧ gs.length ≤ z.length ∧ (((∃ g ∈ gs, gval kind col g = none) ∧ out = [] ∧ err = 11) ∨ ((∀ g ∈ gs, gval kind col g ≠ none) ∧ MakeR (gs.map (gItem kind col)) out err)))
theorem okR_bound {r : List V} (h : okR r = 0) : ∀ v ∈ r, -4611686018427387904 ≤ v.i ∧ v.i ≤ 4611686018427387904 := by
  intro v hv
  simp only [okR] at h
  split at h
  · cases h
  · split at h
    · rename_i h2
      have := List.all_eq_true.1 h2 v hv
      simp only [okV, inB] at this
      split at this
      · simp at this; omega
      · split at this
        · simp at this; omega
        · split at this
          · simp at this; omega
          · split at this
            · simp at this; omega
            · cases this
    · cases h
theorem GpI.atlen {cols : List Int} {y : List It} {gs : List Gp} (h : GpI cols y gs) : ∀ g ∈ gs, g.at_.length = cols.length := fun g hg => by
  obtain ⟨t, ht⟩ := List.exists_mem_of_ne_nil _ (h.some g hg)
  rw [h.items g hg, List.mem_filter] at ht
  have h4 : cmpR (pickR t.row cols) g.at_ = 0 := by have := ht.2; simp at this; exact this.2
  rw [← lin_cmpR.eq _ _ h4]; simp [pickR]
theorem c67 (z : List It) (cols : List Int) (kind col : Int) (hl : z.length ≤ 1048576) (hr : ∀ t ∈ z, t.row.length < 1073741824) (hc : cols.length < 1073741824) :
    Spec1 Try.prog 67 [setA z, intsL cols, iA kind, iA col] (fun r o => ∃ (out : List It) (err : Int), r = .tu [.rf 0 0 out.length, iA err] ∧ o = so out ∧ GroupR z cols kind col out err) := by
  refine spec1_of_vc tabOk elems ord67 Try.func67 rfl (rl := [.tmp 8, .tmp 9]) rfl (by kernel_rfl) rfl ?_
  (simp -implicitDefEqProofs only [go_sem, setA, intsL, iA]; repeat (refine GO ?_; simp -implicitDefEqProofs only [go_sem, setA, intsL, iA]))
  refine .pure _ (show Spec0 Try.prog 106 [setA z, intsL cols, iA kind, iA col] _ from c106 z cols kind col (by omega) hr hc) rfl fun r hq _ => ?_
  obtain ⟨e, rfl, he, he0, he2⟩ := hq
  (simp -implicitDefEqProofs only [go_sem, iA]; repeat (refine GO ?_; simp -implicitDefEqProofs only [go_sem, iA]))
  refine VIF.split (fun h => ?_) (fun h => ?_)
  · have h : e ≠ 0 := by simpa using h
    (simp -implicitDefEqProofs only [go_sem]; repeat (refine GO ?_; simp -implicitDefEqProofs only [go_sem]))
    refine FINmk [(0, none)] [(8, .rf 0 0 0), (9, iA e)] [(0, so [])] [0] rfl ?_ ?_
    · (simp -implicitDefEqProofs only [go_sem, iA]; repeat (refine GO ?_; simp -implicitDefEqProofs only [go_sem, iA]))
      simp [so]
    · exact ⟨so [], ⟨⟨[], e, rfl, rfl, .inl ⟨fun g => h (he0.2 g), rfl, by omega, he2⟩⟩, rfl⟩, so_leafy [], rfl⟩
  have h : e = 0 := by simpa using h
  have hw := he0.1 h
  subst h
  (simp -implicitDefEqProofs only [go_sem]; repeat (refine GO ?_; simp -implicitDefEqProofs only [go_sem]))
  refine .pure _ (show Spec0 Try.prog 107 [setA z, intsL cols] _ from c107 z cols hl hr hc (fun t ht => (hw.2.2.2.2 t ht).1)) rfl fun r hq _ => ?_
  obtain ⟨gs, rfl, hg, hgl⟩ := hq
  (simp -implicitDefEqProofs only [go_sem, gsA, iA]; repeat (refine GO ?_; simp -implicitDefEqProofs only [go_sem, gsA, iA]))
  refine LOOP.mk (ι := { i : Nat // i ≤ gs.length ∧ ∀ j (h : j < gs.length), j < i → gval kind col gs[j] ≠ none }) (fun p => mkS [(2, iA kind), (3, iA col), (11, .rf 1000 0 p.1), (26, gsA gs), (27, iA gs.length), (28, iA p.1)] [(1000, so ((gs.take p.1).map (gItem kind col)))] [1000])
    (fun p => gs.length - p.1) ⟨0, Nat.zero_le _, fun j _ h => absurd h (Nat.not_lt_zero _)⟩ [(1000, none)] rfl rfl ?_ (fun p => ?_)
  · (simp -implicitDefEqProofs only [go_sem, gsA, iA, so]; repeat (refine GO ?_; simp -implicitDefEqProofs only [go_sem, gsA, iA, so]))
    simp
  obtain ⟨i, hi, hv⟩ := p
  (simp -implicitDefEqProofs only [go_sem, gsA, iA]; repeat (refine GO ?_; simp -implicitDefEqProofs only [go_sem, gsA, iA]))
  refine VIF.split (fun h => ?_) (fun h => ?_)
  · have h : i < gs.length := by simpa using h
    have hm := List.getElem_mem h
    have w1 := wrap_add1 (show i < 4611686018427387904 by omega)
    (simp -implicitDefEqProofs only [go_sem]; repeat (refine GO ?_; simp -implicitDefEqProofs only [go_sem]))
    refine EL.map h ?_
    (simp -implicitDefEqProofs only [go_sem, Gp.c, iA]; repeat (refine GO ?_; simp -implicitDefEqProofs only [go_sem, Gp.c, iA]))
    have hgi : ∀ t ∈ gs[i].items, t ∈ z := fun t ht => by rw [hg.items _ hm, List.mem_filter] at ht; exact ht.1
    have hgl2 : gs[i].items.length ≤ z.length := by rw [hg.items _ hm]; exact List.length_filter_le _ _
    have hal : gs[i].at_.length = cols.length := by
      obtain ⟨t, ht⟩ := List.exists_mem_of_ne_nil _ (hg.some _ hm)
      rw [hg.items _ hm, List.mem_filter] at ht
      have h4 : cmpR (pickR t.row cols) gs[i].at_ = 0 := by have := ht.2; simp at this; exact this.2
      rw [← lin_cmpR.eq _ _ h4]; simp [pickR]
    have hcc : kind ≠ 1 → ∀ t ∈ gs[i].items, inC col t.row.length = true := fun hk t ht => (hw.2.2.2.2 t (hgi t ht)).2 hk
    refine .pure _ (show Spec0 Try.prog 108 [.ag gs[i].c, iA kind, iA col] _ from c108 gs[i] kind col (by omega) hcc) rfl fun r hq _ => ?_
    subst hq
    (simp -implicitDefEqProofs only [go_sem, V.c, iA]; repeat (refine GO ?_; simp -implicitDefEqProofs only [go_sem, V.c, iA]))
    have hwb : ∀ t ∈ gs[i].items, -72057594037927936 ≤ t.w ∧ t.w ≤ 72057594037927936 := fun t ht => good_w hw.1 (hgi t ht)
    have hvb : ∀ t ∈ gs[i].items, ∀ v ∈ t.row, -4611686018427387904 ≤ v.i ∧ v.i ≤ 4611686018427387904 := fun t ht v hv => by
      have h3 := (good_made.1 hw.1).2 t (hgi t ht)
      exact okR_bound h3 v hv
    have s109 : Spec0 Try.prog 109 [.ag [.im 3 (gs[i].at_.map V.c), .im 2 (gs[i].items.map It.c)], .pr (.int .i64 kind), .pr (.int .i64 col)] _ := c109 gs[i] kind col (by omega) (fun t ht => by have := hr t (hgi t ht); omega) hwb hvb hcc
    have hor : ∀ h : kind = 1 ∨ kind = 2, gval kind col gs[i] = (sumF kind col gs[i].items 0).map fun n => ⟨3, n, ByteArray.empty⟩ := fun h => if_pos h
    have bad : gval kind col gs[i] = none → ∃ o, ((∃ (out : List It) (err : Int), AV.tu [.rf 0 0 0, .pr (.int .i64 11)] = .tu [.rf 0 0 out.length, iA err] ∧ o = so out ∧ GroupR z cols kind col out err) ∧ AV.only0 (.tu [.rf 0 0 0, .pr (.int .i64 11)]) = true) ∧ o.leafy ∧ upd noOb 0 (some (so [])) = upd noOb 0 (some o) := fun hn =>
      ⟨so [], ⟨⟨[], 11, rfl, rfl, .inr ⟨hw, gs, hg, hgl, .inl ⟨⟨_, hm, hn⟩, rfl, rfl⟩⟩⟩, rfl⟩, so_leafy [], rfl⟩
    refine VIF.split (fun h1 => ?_) (fun h1 => ?_)
    · have h1 : kind = 1 := by simpa using h1
      (simp -implicitDefEqProofs only [go_sem, V.c, iA, rowA, setA]; repeat (refine GO ?_; simp -implicitDefEqProofs only [go_sem, V.c, iA, rowA, setA]))
      refine .pure _ s109 rfl fun r hq _ => ?_
      subst hq
      (simp -implicitDefEqProofs only [go_sem, V.c, iA, bA]; repeat (refine GO ?_; simp -implicitDefEqProofs only [go_sem, V.c, iA, bA]))
      refine VIF.split (fun h3 => ?_) (fun h3 => ?_)
      · have h3 : (sumF kind col gs[i].items 0).isSome = false := by simpa only [Bool.not_eq_true'] using h3
        have hno : gval kind col gs[i] = none := by
          rw [hor (.inl h1)]
          cases hs : sumF kind col gs[i].items 0 with
          | none => rfl
          | some n => rw [hs] at h3; cases h3
        (simp -implicitDefEqProofs only [go_sem]; repeat (refine GO ?_; simp -implicitDefEqProofs only [go_sem]))
        refine FINmk [(0, none)] [(8, .rf 0 0 0), (9, iA 11)] [(0, so [])] [0] rfl ?_ ?_
        · (simp -implicitDefEqProofs only [go_sem, iA]; repeat (refine GO ?_; simp -implicitDefEqProofs only [go_sem, iA]))
          simp [so]
        · exact bad hno
      have h3 : (sumF kind col gs[i].items 0).isSome = true := by simpa only [Bool.not_eq_false'] using h3
      obtain ⟨n, hs⟩ := Option.isSome_iff_exists.1 h3
      have hgv : gval kind col gs[i] = some ⟨3, n, ByteArray.empty⟩ := by rw [hor (.inl h1), hs]; rfl
      rw [hs]
      obtain ⟨v, hv'⟩ : ∃ v : V, v = ⟨3, n, ByteArray.empty⟩ := ⟨_, rfl⟩
      rw [← hv'] at hgv
      rw [show sumV (some n) = v from hv'.symm]
      simp -implicitDefEqProofs only [go_sem, V.c, iA, rowA, setA]
      refine TO [(1000, some 1000)] [(2, iA kind), (3, iA col), (11, .rf 1000 0 i), (13, .ro gs[i].c 0), (14, .ro v.c 0), (26, gsA gs), (27, iA gs.length), (28, iA i)] [(1000, so ((gs.take i).map (gItem kind col)))] [1000] rfl ?_ ?_
      · (simp -implicitDefEqProofs only [go_sem, V.c, iA, Gp.c, gsA, bA]; repeat (refine GO ?_; simp -implicitDefEqProofs only [go_sem, V.c, iA, Gp.c, gsA, bA]))
        exact ⟨id, ⟨⟨by decide, _, rfl, by simp [Ob.leafy, AV.leaf, rowA, setA], rfl⟩, by decide, _, rfl, by simp [Ob.leafy, AV.leaf], rfl⟩, .same (so ((gs.take i).map (gItem kind col))) _ _ (so_leafy _) rfl⟩
      (simp -implicitDefEqProofs only [go_sem, V.c, iA, Gp.c, rowA, bA]; repeat (refine GO ?_; simp -implicitDefEqProofs only [go_sem, V.c, iA, Gp.c, rowA, bA]))
      have hla : gs[i].at_.length ≤ 1073741823 := by omega
      have s43' : Spec1 Try.prog 110 [.im 3 (gs[i].at_.map V.c)] _ := s43 gs[i].at_ (by omega)
      refine ⟨.make 54 _ s43' rfl (by simp) rfl fun q o hq _ => ?_, .make 54 _ s43' rfl (by simp) rfl fun q o hq _ => ?_⟩
      all_goals obtain ⟨rfl, rfl⟩ := hq
      all_goals (simp -implicitDefEqProofs only [go_sem, V.c, iA, Gp.c, ro3, so, w1]; repeat (refine GO ?_; simp -implicitDefEqProofs only [go_sem, V.c, iA, Gp.c, ro3, so, w1]))
      all_goals refine ⟨hla, by omega, ?_⟩
      all_goals refine BACK.mk ⟨i + 1, by omega, fun j hj hji => if e : j = i then (by subst e; rw [hgv]; simp) else hv j hj (by omega)⟩ [(1000, some 60)] rfl rfl (by show gs.length - (i + 1) < gs.length - i; omega) ?_
      all_goals (simp -implicitDefEqProofs only [go_sem, gsA, iA, so, w1]; repeat (refine GO ?_; simp -implicitDefEqProofs only [go_sem, gsA, iA, so, w1]))
      all_goals
        refine ⟨id, ?_⟩
        rw [List.take_succ_eq_append_getElem h, List.map_append, List.map_append, List.map_cons, List.map_nil, List.map_cons, List.map_nil, List.take_of_length_le (l := List.map It.c (List.map (gItem kind col) (List.take i gs))) (by simp; omega)]
        refine Es_snoc (l := List.map It.c (List.map (gItem kind col) (List.take i gs))) (fun x hx a ha => so_leafy ((gs.take i).map (gItem kind col)) x hx a ha) ?_
        (simp -implicitDefEqProofs only [go_sem, It.c, gItem, hgv, rowA, iA]; repeat (refine GO ?_; simp -implicitDefEqProofs only [go_sem, It.c, gItem, hgv, rowA, iA]))
        exact ⟨by decide, ro3 (gs[i].at_ ++ [v]), by rw [ro3, List.map_append]; rfl, ro3_leafy _, rfl, List.take_of_length_le (by simp [ro3])⟩
    have h1 : kind ≠ 1 := by simpa using h1
    (simp -implicitDefEqProofs only [go_sem, V.c, iA]; repeat (refine GO ?_; simp -implicitDefEqProofs only [go_sem, V.c, iA]))
    refine VIF.split (fun h2 => ?_) (fun h2 => ?_)
    · have h2 : kind = 2 := by simpa using h2
      (simp -implicitDefEqProofs only [go_sem, V.c, iA, rowA, setA]; repeat (refine GO ?_; simp -implicitDefEqProofs only [go_sem, V.c, iA, rowA, setA]))
      refine .pure _ s109 rfl fun r hq _ => ?_
      subst hq
      (simp -implicitDefEqProofs only [go_sem, V.c, iA, bA]; repeat (refine GO ?_; simp -implicitDefEqProofs only [go_sem, V.c, iA, bA]))
      refine VIF.split (fun h3 => ?_) (fun h3 => ?_)
      · have h3 : (sumF kind col gs[i].items 0).isSome = false := by simpa only [Bool.not_eq_true'] using h3
        have hno : gval kind col gs[i] = none := by
          rw [hor (.inr h2)]
          cases hs : sumF kind col gs[i].items 0 with
          | none => rfl
          | some n => rw [hs] at h3; cases h3
        (simp -implicitDefEqProofs only [go_sem]; repeat (refine GO ?_; simp -implicitDefEqProofs only [go_sem]))
        refine FINmk [(0, none)] [(8, .rf 0 0 0), (9, iA 11)] [(0, so [])] [0] rfl ?_ ?_
        · (simp -implicitDefEqProofs only [go_sem, iA]; repeat (refine GO ?_; simp -implicitDefEqProofs only [go_sem, iA]))
          simp [so]
        · exact bad hno
      have h3 : (sumF kind col gs[i].items 0).isSome = true := by simpa only [Bool.not_eq_false'] using h3
      obtain ⟨n, hs⟩ := Option.isSome_iff_exists.1 h3
      have hgv : gval kind col gs[i] = some ⟨3, n, ByteArray.empty⟩ := by rw [hor (.inr h2), hs]; rfl
      rw [hs]
      obtain ⟨v, hv'⟩ : ∃ v : V, v = ⟨3, n, ByteArray.empty⟩ := ⟨_, rfl⟩
      rw [← hv'] at hgv
      rw [show sumV (some n) = v from hv'.symm]
      simp -implicitDefEqProofs only [go_sem, V.c, iA, rowA, setA]
      refine TO [(1000, some 1000)] [(2, iA kind), (3, iA col), (11, .rf 1000 0 i), (13, .ro gs[i].c 0), (14, .ro v.c 0), (26, gsA gs), (27, iA gs.length), (28, iA i)] [(1000, so ((gs.take i).map (gItem kind col)))] [1000] rfl ?_ ?_
      · (simp -implicitDefEqProofs only [go_sem, V.c, iA, Gp.c, gsA, bA]; repeat (refine GO ?_; simp -implicitDefEqProofs only [go_sem, V.c, iA, Gp.c, gsA, bA]))
        exact ⟨id, ⟨⟨by decide, _, rfl, by simp [Ob.leafy, AV.leaf, rowA, setA], rfl⟩, by decide, _, rfl, by simp [Ob.leafy, AV.leaf], rfl⟩, .same (so ((gs.take i).map (gItem kind col))) _ _ (so_leafy _) rfl⟩
      (simp -implicitDefEqProofs only [go_sem, V.c, iA, Gp.c, rowA, bA]; repeat (refine GO ?_; simp -implicitDefEqProofs only [go_sem, V.c, iA, Gp.c, rowA, bA]))
      have hla : gs[i].at_.length ≤ 1073741823 := by omega
      have s43' : Spec1 Try.prog 110 [.im 3 (gs[i].at_.map V.c)] _ := s43 gs[i].at_ (by omega)
      refine ⟨.make 54 _ s43' rfl (by simp) rfl fun q o hq _ => ?_, .make 54 _ s43' rfl (by simp) rfl fun q o hq _ => ?_⟩
      all_goals obtain ⟨rfl, rfl⟩ := hq
      all_goals (simp -implicitDefEqProofs only [go_sem, V.c, iA, Gp.c, ro3, so, w1]; repeat (refine GO ?_; simp -implicitDefEqProofs only [go_sem, V.c, iA, Gp.c, ro3, so, w1]))
      all_goals refine ⟨hla, by omega, ?_⟩
      all_goals refine BACK.mk ⟨i + 1, by omega, fun j hj hji => if e : j = i then (by subst e; rw [hgv]; simp) else hv j hj (by omega)⟩ [(1000, some 60)] rfl rfl (by show gs.length - (i + 1) < gs.length - i; omega) ?_
      all_goals (simp -implicitDefEqProofs only [go_sem, gsA, iA, so, w1]; repeat (refine GO ?_; simp -implicitDefEqProofs only [go_sem, gsA, iA, so, w1]))
      all_goals
        refine ⟨id, ?_⟩
        rw [List.take_succ_eq_append_getElem h, List.map_append, List.map_append, List.map_cons, List.map_nil, List.map_cons, List.map_nil, List.take_of_length_le (l := List.map It.c (List.map (gItem kind col) (List.take i gs))) (by simp; omega)]
        refine Es_snoc (l := List.map It.c (List.map (gItem kind col) (List.take i gs))) (fun x hx a ha => so_leafy ((gs.take i).map (gItem kind col)) x hx a ha) ?_
        (simp -implicitDefEqProofs only [go_sem, It.c, gItem, hgv, rowA, iA]; repeat (refine GO ?_; simp -implicitDefEqProofs only [go_sem, It.c, gItem, hgv, rowA, iA]))
        exact ⟨by decide, ro3 (gs[i].at_ ++ [v]), by rw [ro3, List.map_append]; rfl, ro3_leafy _, rfl, List.take_of_length_le (by simp [ro3])⟩
    have h2 : kind ≠ 2 := by simpa using h2
    rw [if_neg h1]
    have hgv : gval kind col gs[i] = some (bestF kind col gs[i].items V.nul) := by simp [gval, h1, h2]
    simp -implicitDefEqProofs only [go_sem, V.c, iA]
    generalize bestF kind col gs[i].items V.nul = v at hgv ⊢
    refine TO [(1000, some 1000)] [(2, iA kind), (3, iA col), (11, .rf 1000 0 i), (13, .ro gs[i].c 0), (14, .ro v.c 0), (15, bA true), (26, gsA gs), (27, iA gs.length), (28, iA i)] [(1000, so ((gs.take i).map (gItem kind col)))] [1000] rfl ?_ ?_
    · (simp -implicitDefEqProofs only [go_sem, V.c, iA, Gp.c, gsA, bA]; repeat (refine GO ?_; simp -implicitDefEqProofs only [go_sem, V.c, iA, Gp.c, gsA, bA]))
      exact ⟨id, ⟨⟨by decide, _, rfl, by simp [Ob.leafy, AV.leaf, rowA, setA], rfl⟩, by decide, _, rfl, by simp [Ob.leafy, AV.leaf], rfl⟩, .same (so ((gs.take i).map (gItem kind col))) _ _ (so_leafy _) rfl⟩
    (simp -implicitDefEqProofs only [go_sem, V.c, iA, Gp.c, rowA, bA]; repeat (refine GO ?_; simp -implicitDefEqProofs only [go_sem, V.c, iA, Gp.c, rowA, bA]))
    have hla : gs[i].at_.length ≤ 1073741823 := by omega
    have s43' : Spec1 Try.prog 110 [.im 3 (gs[i].at_.map V.c)] _ := s43 gs[i].at_ (by omega)
    refine ⟨.make 54 _ s43' rfl (by simp) rfl fun q o hq _ => ?_, .make 54 _ s43' rfl (by simp) rfl fun q o hq _ => ?_⟩
    all_goals obtain ⟨rfl, rfl⟩ := hq
    all_goals (simp -implicitDefEqProofs only [go_sem, V.c, iA, Gp.c, ro3, so, w1]; repeat (refine GO ?_; simp -implicitDefEqProofs only [go_sem, V.c, iA, Gp.c, ro3, so, w1]))
    all_goals refine ⟨hla, by omega, ?_⟩
    all_goals refine BACK.mk ⟨i + 1, by omega, fun j hj hji => if e : j = i then (by subst e; rw [hgv]; simp) else hv j hj (by omega)⟩ [(1000, some 60)] rfl rfl (by show gs.length - (i + 1) < gs.length - i; omega) ?_
    all_goals (simp -implicitDefEqProofs only [go_sem, gsA, iA, so, w1]; repeat (refine GO ?_; simp -implicitDefEqProofs only [go_sem, gsA, iA, so, w1]))
    all_goals
      refine ⟨id, ?_⟩
      rw [List.take_succ_eq_append_getElem h, List.map_append, List.map_append, List.map_cons, List.map_nil, List.map_cons, List.map_nil, List.take_of_length_le (l := List.map It.c (List.map (gItem kind col) (List.take i gs))) (by simp; omega)]
      refine Es_snoc (l := List.map It.c (List.map (gItem kind col) (List.take i gs))) (fun x hx a ha => so_leafy ((gs.take i).map (gItem kind col)) x hx a ha) ?_
      (simp -implicitDefEqProofs only [go_sem, It.c, gItem, hgv, rowA, iA]; repeat (refine GO ?_; simp -implicitDefEqProofs only [go_sem, It.c, gItem, hgv, rowA, iA]))
      exact ⟨by decide, ro3 (gs[i].at_ ++ [v]), by rw [ro3, List.map_append]; rfl, ro3_leafy _, rfl, List.take_of_length_le (by simp [ro3])⟩
  · have h : i = gs.length := by simp at h; omega
    subst h
    rw [List.take_length]
    simp -implicitDefEqProofs only [go_sem]
    refine FRZ 1000 (so (gs.map (gItem kind col))) rfl (so_leafy _) ?_
    have tk : List.take gs.length (List.map It.c (List.map (gItem kind col) gs)) = List.map It.c (List.map (gItem kind col) gs) := List.take_of_length_le (by simp)
    (simp -implicitDefEqProofs only [go_sem, so, tk]; repeat (refine GO ?_; simp -implicitDefEqProofs only [go_sem, so, tk]))
    have hgr : ∀ t ∈ gs.map (gItem kind col), t.row.length < 1073741824 := fun t ht => by
      obtain ⟨g, hgm, rfl⟩ := List.mem_map.1 ht
      have := hg.atlen g hgm
      simp [gItem]; omega
    refine .make 63 _ (show Spec1 Try.prog 76 [setA (gs.map (gItem kind col))] _ from s11 (gs.map (gItem kind col)) (by simp; omega) hgr) rfl (by simp) rfl fun q o hq _ => ?_
    obtain ⟨out, err, rfl, rfl, hm⟩ := hq
    (simp -implicitDefEqProofs only [go_sem, iA]; repeat (refine GO ?_; simp -implicitDefEqProofs only [go_sem, iA]))
    refine FINmk [(0, some 63)] [(8, .rf 0 0 out.length), (9, iA err)] [(0, so out)] [0] rfl ?_ ?_
    · (simp -implicitDefEqProofs only [go_sem, iA, so]; repeat (refine GO ?_; simp -implicitDefEqProofs only [go_sem, iA, so]))
      exact .same (so out) _ _ (so_leafy out) rfl
    · have hall : ∀ g ∈ gs, gval kind col g ≠ none := fun g hg' => by
        obtain ⟨j, hj, rfl⟩ := List.mem_iff_getElem.1 hg'
        exact hv j hj hj
      exact ⟨so out, ⟨⟨out, err, rfl, rfl, .inr ⟨hw, gs, hg, hgl, .inr ⟨hall, hm⟩⟩⟩, rfl⟩, so_leafy out, rfl⟩
end Yt
namespace Yt
open Go Go.Vc Go.Proofs
set_option maxRecDepth 10000
set_option maxHeartbeats 8000000
set_option linter.unusedSimpArgs false
set_option linter.unusedVariables false
end Yt
namespace Yt
open Go Go.Vc Go.Proofs
set_option maxRecDepth 10000
set_option maxHeartbeats 1000000
set_option linter.unusedSimpArgs false
set_option linter.unusedVariables false
structure Wd (z : List It) (n : Nat) (b : Int) : Prop where
  good : Good z
  len : z.length ≤ 40 * n
  tot : ∀ r, -(120 * (n : Int)) ≤ Yt.tot r z ∧ Yt.tot r z ≤ 120 * n
  two : ∀ t ∈ z, 2 ≤ t.row.length
  num : ∀ t ∈ z, ∀ v ∈ t.row, v.k = 3 → -b ≤ v.i ∧ v.i ≤ b
theorem Wd.made {z : List It} {n : Nat} {b : Int} (h : Wd z n b) : Made z := (good_made.1 h.good).1
theorem Wd.ok {z : List It} {n : Nat} {b : Int} (h : Wd z n b) {t : It} (ht : t ∈ z) : okR t.row = 0 := (good_made.1 h.good).2 t ht
theorem Wd.w {z : List It} {n : Nat} {b : Int} (h : Wd z n b) : ∀ t ∈ z, -(120 * (n : Int)) ≤ t.w ∧ t.w ≤ 120 * n := fun t ht => by
  rw [← tot_made h.made ht]; exact h.tot _
theorem okR_len {r : List V} (h : okR r = 0) : r.length ≤ 12 := by
  simp only [okR] at h
  split at h
  · cases h
  · omega
theorem okR_all {r : List V} : okR r = 0 ↔ r.length ≤ 12 ∧ ∀ v ∈ r, okV v = true := by
  simp only [okR]
  split
  · simp; omega
  · split
    · rename_i h1 h2; simp at h2; simp; exact ⟨by omega, h2⟩
    · rename_i h1 h2; simp at h2; simp; obtain ⟨v, hv, hv2⟩ := h2; exact fun _ => ⟨v, hv, hv2⟩
theorem Wd.r40 {z : List It} {n : Nat} {b : Int} (h : Wd z n b) : ∀ t ∈ z, t.row.length < 1073741824 := fun t ht => by have := okR_len (h.ok ht); omega
theorem Wd.sub {x z : List It} {n : Nat} {b : Int} (h : Wd z n b) (hs : x.Sublist z) : Wd x n b :=
  ⟨good_sub h.good hs, by have := hs.length_le; have := h.len; omega, made_tot (good_made.1 (good_sub h.good hs)).1 (by omega) fun t ht => h.w t (hs.subset ht), fun t ht => h.two t (hs.subset ht), fun t ht => h.num t (hs.subset ht)⟩
theorem Wd.nil (n : Nat) (b : Int) : Wd [] n b := ⟨good_made.2 ⟨⟨.nil, by simp⟩, by simp⟩, by simp, fun r => by simp [Yt.tot]; omega, by simp, by simp⟩
theorem Wd.add {x y out : List It} {i j : Nat} {b err : Int} (hx : Wd x i b) (hy : Wd y j b) (hij : i + j ≤ 100) (h : AddR x y out err) : err = 0 ∧ Wd out (i + j) b ∧ ∀ r, Yt.tot r out = Yt.tot r x + Yt.tot r y := by
  have hm : MakeR (x ++ y) out err := by
    rcases h with ⟨h, _⟩ | ⟨_, _, h⟩
    · exact absurd ⟨hx.good, hy.good⟩ h
    · exact h
  have hfine : ((x ++ y).any fun t => !okI t) = false := by
    rw [List.any_eq_false]; intro t ht
    rcases List.mem_append.1 ht with ht | ht
    · simp [okI, hx.ok ht, (hx.made.nz t ht).2]
    · simp [okI, hy.ok ht, (hy.made.nz t ht).2]
  have hb : ∀ r, -(120 * ((i + j : Nat) : Int)) ≤ Yt.tot r (x ++ y) ∧ Yt.tot r (x ++ y) ≤ 120 * ((i + j : Nat) : Int) := fun r => by
    have h1 := hx.tot r
    have h2 := hy.tot r
    rw [tot_append]; omega
  obtain ⟨h1, h2, h3, h4, h5⟩ := makeR_fine hm hfine fun r => by
    have := hb r
    simp only [okW, inB, Bool.and_eq_true, decide_eq_true_eq]; omega
  have hu : ∀ t ∈ out, ∃ u ∈ x ++ y, u.row = t.row := fun t ht => (h4 t ht).2
  refine ⟨h1, ⟨good_made.2 ⟨h2, fun t ht => (h4 t ht).1⟩, ?_, fun r => by rw [h3]; exact hb r, fun t ht => ?_, fun t ht => ?_⟩, fun r => by rw [h3, tot_append]⟩
  · have := hx.len; have := hy.len
    rw [List.length_append] at h5; omega
  · obtain ⟨u, hu, e⟩ := hu t ht
    rw [← e]
    rcases List.mem_append.1 hu with hu | hu
    · exact hx.two u hu
    · exact hy.two u hu
  · obtain ⟨u, hu, e⟩ := hu t ht
    rw [← e]
    rcases List.mem_append.1 hu with hu | hu
    · exact hx.num u hu
    · exact hy.num u hu
def keyL (gs : List Gp) : List It := gs.map fun g => ⟨g.at_, 1⟩
theorem keyL_made {cols : List Int} {y : List It} {gs : List Gp} (h : GpI cols y gs) : Made (keyL gs) :=
  ⟨by rw [keyL, List.pairwise_map]; exact h.up, fun t ht => by
    obtain ⟨g, _, rfl⟩ := List.mem_map.1 ht
    exact ⟨by simp, by simp [okW, inB]⟩⟩
theorem tot_one {o : List It} (h : Made o) (h1 : ∀ t ∈ o, t.w = 1) (r : List V) : (tot r o = 1 ∧ ∃ t ∈ o, t.row = r) ∨ (tot r o = 0 ∧ ¬ ∃ t ∈ o, t.row = r) := by
  by_cases e : ∃ t ∈ o, t.row = r
  · obtain ⟨t, ht, rfl⟩ := e
    exact .inl ⟨by rw [tot_made h ht, h1 t ht], t, ht, rfl⟩
  · refine .inr ⟨?_, e⟩
    have := tot_there h r
    by_cases e2 : tot r o = 0
    · exact e2
    · exact absurd (this.1 e2) e
theorem ones_eq {x y : List It} (hx : Made x) (hy : Made y) (h1 : ∀ t ∈ x, t.w = 1) (h2 : ∀ t ∈ y, t.w = 1) (h : ∀ r, (∃ t ∈ x, t.row = r) ↔ ∃ t ∈ y, t.row = r) : x = y :=
  made_eq hx hy fun r => by
    rcases tot_one hx h1 r with ⟨a, b⟩ | ⟨a, b⟩ <;> rcases tot_one hy h2 r with ⟨c, d⟩ | ⟨c, d⟩
    · rw [a, c]
    · exact absurd ((h r).1 b) d
    · exact absurd ((h r).2 d) b
    · rw [a, c]
theorem keyL_one {gs : List Gp} : ∀ t ∈ keyL gs, t.w = 1 := fun t ht => by
  obtain ⟨g, _, rfl⟩ := List.mem_map.1 ht; rfl
theorem GpI.has {cols : List Int} {y : List It} {gs : List Gp} (h : GpI cols y gs) (r : List V) : (∃ g ∈ gs, g.at_ = r) ↔ ∃ t ∈ y, ¬ t.w < 0 ∧ pickR t.row cols = r := by
  constructor
  · rintro ⟨g, hg, rfl⟩
    obtain ⟨t, ht⟩ := List.exists_mem_of_ne_nil _ (h.some g hg)
    rw [h.items g hg, List.mem_filter] at ht
    obtain ⟨h1, h2⟩ := ht
    simp at h2
    exact ⟨t, h1, by omega, lin_cmpR.eq _ _ h2.2⟩
  · rintro ⟨t, ht, hw, rfl⟩
    exact h.all t ht hw
theorem keyL_has {gs : List Gp} (r : List V) : (∃ t ∈ keyL gs, t.row = r) ↔ ∃ g ∈ gs, g.at_ = r := by
  constructor
  · rintro ⟨t, ht, e⟩
    obtain ⟨g, hg, rfl⟩ := List.mem_map.1 ht
    exact ⟨g, hg, e⟩
  · rintro ⟨g, hg, e⟩
    exact ⟨_, List.mem_map_of_mem hg, e⟩
def gOf (cols : List Int) (y : List It) (k : List V) : Gp := ⟨k, y.filter fun t => !decide (t.w < 0) && decide (cmpR (pickR t.row cols) k = 0)⟩
theorem GpI.canon {cols : List Int} {y : List It} {gs : List Gp} (h : GpI cols y gs) : gs = (keyL gs).map fun t => gOf cols y t.row := by
  rw [keyL, List.map_map]
  conv => lhs; rw [← List.map_id gs]
  refine List.map_congr_left fun g hg => ?_
  simp only [id, Function.comp, gOf]
  rw [← h.items g hg]
theorem GpI.same {cols : List Int} {y y' : List It} {gs gs' : List Gp} (h : GpI cols y gs) (h' : GpI cols y' gs') (hk : ∀ r, (∃ t ∈ y, ¬ t.w < 0 ∧ pickR t.row cols = r) ↔ ∃ t ∈ y', ¬ t.w < 0 ∧ pickR t.row cols = r)
    (hi : ∀ r, gOf cols y r = gOf cols y' r) : gs = gs' := by
  rw [h.canon, h'.canon]
  have : keyL gs = keyL gs' := ones_eq (keyL_made h) (keyL_made h') keyL_one keyL_one fun r => by rw [keyL_has, keyL_has, h.has, h'.has, hk]
  rw [this]
  exact List.map_congr_left fun t _ => hi _
def sumT (kind col : Int) (t : It) : Int := if kind = 2 then (if (getV t.row col).k = 3 then t.w * (getV t.row col).i else 0) else t.w
theorem sumF_some {kind col B : Int} (hB : 0 ≤ B) : ∀ (l : List It) (n : Int), (∀ t ∈ l, -B ≤ sumT kind col t ∧ sumT kind col t ≤ B) → -1152921504606846976 ≤ n - B * l.length → n + B * l.length ≤ 1152921504606846976 →
    sumF kind col l n = some (n + (l.map (sumT kind col)).sum)
  | [], n, _, _, _ => by simp [sumF]
  | t :: l, n, h, h1, h2 => by
    have ht := h t (by simp)
    have e : B * ((t :: l).length : Int) = B * l.length + B := by rw [List.length_cons, Int.natCast_add, Int.mul_add]; simp
    rw [e] at h1 h2
    have hp : 0 ≤ B * (l.length : Int) := Int.mul_nonneg hB (by omega)
    have ih := fun m h3 h4 => sumF_some (kind := kind) (col := col) hB l m (fun u hu => h u (by simp [hu])) h3 h4
    simp only [sumF]
    by_cases hk : kind = 2 ∧ (getV t.row col).k ≠ 3
    · rw [if_pos hk, ih n (by omega) (by omega)]
      have : sumT kind col t = 0 := by rw [sumT, if_pos hk.1, if_neg hk.2]
      simp [this]
    · rw [if_neg hk]
      have e2 : sumT kind col t = t.w * (if kind = 2 then (getV t.row col).i else 1) := by
        simp only [sumT]
        by_cases e3 : kind = 2
        · simp [e3] at hk ⊢
          exact fun h => absurd hk h
        · simp [e3]
      rw [← e2]
      have e4 : (inVal (sumT kind col t) && inVal (n + sumT kind col t)) = true := by
        simp only [inVal, inB, Bool.and_eq_true, decide_eq_true_eq]; omega
      rw [if_pos e4, ih _ (by omega) (by omega)]
      simp only [List.map_cons, List.sum_cons]
      congr 1; omega
theorem cmpR_app : ∀ (a b x y : List V), a.length = b.length → cmpR a b ≠ 0 → cmpR (a ++ x) (b ++ y) = cmpR a b
  | [], [], _, _, _, h => absurd rfl h
  | [], _ :: _, _, _, h, _ => by cases h
  | _ :: _, [], _, _, h, _ => by cases h
  | u :: a, v :: b, x, y, h, hn => by
    simp only [List.cons_append, cmpR] at hn ⊢
    split
    · rename_i e
      rw [if_pos e] at hn
      exact cmpR_app a b x y (by simpa using h) hn
    · rfl
theorem inC_of {col : Int} {n : Nat} (h : col = 0 ∨ col = 1) (hn : 2 ≤ n) : inC col n = true := by
  rcases h with rfl | rfl <;> simp [inC] <;> omega
theorem getV_mem {r : List V} {c : Int} (h : inC c r.length = true) : getV r c ∈ r := by
  simp only [inC, Bool.and_eq_true, decide_eq_true_eq] at h
  have : c.toNat < r.length := by omega
  simp only [getV, List.getElem?_eq_getElem this, Option.getD_some]
  exact List.getElem_mem this
theorem pickE_of {r : List V} {cols : List Int} (hc : ∀ c ∈ cols, c = 0 ∨ c = 1) (hl : cols.length ≤ 12) (hr : 2 ≤ r.length) : pickE r cols = 0 := by
  simp only [pickE]
  have : cols.any (outC r.length) = false := by
    rw [List.any_eq_false]; intro c hcm
    simp only [outC, Bool.or_eq_true, decide_eq_true_eq]; have := hc c hcm; omega
  rw [this, if_neg (by decide), if_neg (by omega)]
theorem bestF_mem (kind col : Int) : ∀ (l : List It) (o : V), bestF kind col l o = o ∨ ∃ t ∈ l, bestF kind col l o = getV t.row col
  | [], o => .inl rfl
  | t :: l, o => by
    simp only [bestF]
    have lift : ∀ o', (bestF kind col l o' = o' ∨ ∃ u ∈ l, bestF kind col l o' = getV u.row col) → o' = o ∨ o' = getV t.row col → bestF kind col l o' = o ∨ ∃ u ∈ t :: l, bestF kind col l o' = getV u.row col := by
      rintro o' (h | ⟨u, hu, h⟩) h2
      · rcases h2 with h2 | h2
        · exact .inl (h.trans h2)
        · exact .inr ⟨t, by simp, h.trans h2⟩
      · exact .inr ⟨u, by simp [hu], h⟩
    split
    · exact lift o (bestF_mem kind col l o) (.inl rfl)
    · split
      · exact lift _ (bestF_mem kind col l _) (.inr rfl)
      · exact lift o (bestF_mem kind col l o) (.inl rfl)
theorem sum_bound {f : It → Int} {B : Int} : ∀ (l : List It), (∀ t ∈ l, -B ≤ f t ∧ f t ≤ B) → -(B * l.length) ≤ (l.map f).sum ∧ (l.map f).sum ≤ B * l.length
  | [], _ => by simp
  | t :: l, h => by
    have ht := h t (by simp)
    have ih := sum_bound l fun u hu => h u (by simp [hu])
    have e : B * ((t :: l).length : Int) = B * l.length + B := by rw [List.length_cons, Int.natCast_add, Int.mul_add]; simp
    rw [e]
    simp only [List.map_cons, List.sum_cons]
    omega
structure Ask (cols : List Int) (kind col : Int) : Prop where
  k1 : 1 ≤ kind
  k2 : kind ≤ 4
  len : cols.length ≤ 1
  cs : ∀ c ∈ cols, c = 0 ∨ c = 1
  col : col = 0 ∨ col = 1
theorem Ask.term {cols : List Int} {kind col : Int} (a : Ask cols kind col) {z : List It} {n : Nat} {b : Int} (h : Wd z n b) (hn : n ≤ 20) (hb : 1 ≤ b ∧ b ≤ 10000000) : ∀ t ∈ z, -(2400 * b) ≤ sumT kind col t ∧ sumT kind col t ≤ 2400 * b := fun t ht => by
  have hw := h.w t ht
  simp only [sumT]
  split
  · split
    · rename_i h3
      have hm := h.num t ht _ (getV_mem (inC_of a.col (h.two t ht))) h3
      have := mul_small (x := t.w) (y := (getV t.row col).i) (i := 2400) (j := b) (by omega) hm
      omega
    · omega
  · omega
theorem Ask.sums {cols : List Int} {kind col : Int} (a : Ask cols kind col) {z : List It} {n : Nat} {b : Int} (h : Wd z n b) (hn : n ≤ 20) (hb : 1 ≤ b ∧ b ≤ 10000000) {l : List It} (hl : l.length ≤ z.length) (hm : ∀ t ∈ l, t ∈ z) :
    sumF kind col l 0 = some ((l.map (sumT kind col)).sum) ∧ -(1920000 * b) ≤ (l.map (sumT kind col)).sum ∧ (l.map (sumT kind col)).sum ≤ 1920000 * b := by
  have ht : ∀ t ∈ l, -(2400 * b) ≤ sumT kind col t ∧ sumT kind col t ≤ 2400 * b := fun t ht => a.term h hn hb t (hm t ht)
  have hz := h.len
  have h1 : 2400 * b * (l.length : Int) ≤ 2400 * b * 800 := Int.mul_le_mul_of_nonneg_left (by omega) (by omega)
  have h2 := sumF_some (kind := kind) (col := col) (B := 2400 * b) (by omega) l 0 ht (by omega) (by omega)
  have h3 := sum_bound (f := sumT kind col) l ht
  exact ⟨by rw [h2, Int.zero_add], by omega, by omega⟩
theorem Ask.group {cols : List Int} {kind col : Int} (a : Ask cols kind col) {z out : List It} {n : Nat} {b err : Int} (h : Wd z n b) (hn : n ≤ 20) (hb : 1 ≤ b ∧ b ≤ 10000000) (hg : GroupR z cols kind col out err) :
    err = 0 ∧ ∃ gs, GpI cols z gs ∧ out = gs.map (gItem kind col) ∧ (∀ g ∈ gs, gval kind col g ≠ none) ∧ Made out ∧ (∀ t ∈ out, okR t.row = 0) ∧ gs.length ≤ z.length := by
  have hw : Wr0 z cols kind col := ⟨h.good, a.k1, a.k2, by have := a.len; omega, fun t ht => ⟨pickE_of a.cs (by have := a.len; omega) (h.two t ht), fun _ => inC_of a.col (h.two t ht)⟩⟩
  rcases hg with ⟨hno, _⟩ | ⟨_, gs, hgs, hgl, hg⟩
  · exact absurd hw hno
  have hit : ∀ g ∈ gs, g.items.length ≤ z.length ∧ ∀ t ∈ g.items, t ∈ z := fun g hgm => by
    rw [hgs.items g hgm]
    exact ⟨List.length_filter_le _ _, fun t ht => (List.mem_filter.1 ht).1⟩
  have hval : ∀ g ∈ gs, ∃ v, gval kind col g = some v ∧ okV v = true := fun g hgm => by
    simp only [gval]
    split
    · obtain ⟨e1, e2, e3⟩ := a.sums h hn hb (hit g hgm).1 (hit g hgm).2
      rw [e1]
      refine ⟨_, rfl, ?_⟩
      simp only [okV, inB]
      simp
      exact ⟨by omega, rfl⟩
    · refine ⟨_, rfl, ?_⟩
      rcases bestF_mem kind col g.items V.nul with e | ⟨t, ht, e⟩
      · rw [e]; decide
      · rw [e]
        have htz := (hit g hgm).2 t ht
        exact (okR_all.1 (h.ok htz)).2 _ (getV_mem (inC_of a.col (h.two t htz)))
  have hnn : ∀ g ∈ gs, gval kind col g ≠ none := fun g hgm => by obtain ⟨v, e, _⟩ := hval g hgm; rw [e]; simp
  have hat : ∀ g ∈ gs, ∃ t ∈ z, g.at_ = pickR t.row cols := fun g hgm => by
    obtain ⟨t, ht, _, e⟩ := (hgs.has g.at_).1 ⟨g, hgm, rfl⟩
    exact ⟨t, ht, e.symm⟩
  have hrow : ∀ t ∈ gs.map (gItem kind col), okR t.row = 0 := fun t ht => by
    obtain ⟨g, hgm, rfl⟩ := List.mem_map.1 ht
    obtain ⟨v, hv, hv2⟩ := hval g hgm
    obtain ⟨u, hu, e⟩ := hat g hgm
    have h1 := pick_row (pickE_of a.cs (by have := a.len; omega) (h.two u hu)) (h.ok hu)
    rw [← e] at h1
    simp only [gItem, hv, Option.getD_some]
    have h2 : g.at_.length = cols.length := by rw [e]; simp [pickR]
    refine okR_all.2 ⟨by have := a.len; simp; omega, fun w hw => ?_⟩
    rcases List.mem_append.1 hw with hw | hw
    · exact (okR_all.1 h1.1).2 w hw
    · simp at hw; subst hw; exact hv2
  have hmade : Made (gs.map (gItem kind col)) := by
    refine ⟨?_, fun t ht => ?_⟩
    · rw [List.pairwise_map]
      refine List.Pairwise.imp_of_mem ?_ hgs.up
      intro x y hx hy hxy
      have e1 := hgs.atlen x hx
      have e2 := hgs.atlen y hy
      simp only [cI, gItem]
      rw [cmpR_app _ _ _ _ (by omega) (by omega)]; exact hxy
    · obtain ⟨g, _, rfl⟩ := List.mem_map.1 ht
      exact ⟨by simp [gItem], by simp [gItem]; decide⟩
  rcases hg with ⟨⟨g, hgm, hno⟩, _⟩ | ⟨_, hm⟩
  · exact absurd hno (hnn g hgm)
  · obtain ⟨h1, h2⟩ := makeR_ok hm (by
      rw [List.any_eq_false]; intro t ht
      simp [okI, hrow t ht, (hmade.nz t ht).2]) hmade fun _ => rfl
    exact ⟨h2, gs, hgs, h1, hnn, by rw [h1]; exact hmade, by rw [h1]; exact hrow, hgl⟩
end Yt
namespace Yt
open Go Go.Vc Go.Proofs
set_option maxRecDepth 10000
set_option maxHeartbeats 8000000
set_option linter.unusedSimpArgs false
set_option linter.unusedVariables false
def iV (n : Int) : V := ⟨3, n, ByteArray.empty⟩
def w2 (n m : Int) : List V := [iV n, iV m]
theorem iV_ok {n : Int} (h : -1152921504606846976 ≤ n ∧ n ≤ 1152921504606846976) : okV (iV n) = true := by
  simp [okV, inB, iV, h]; rfl
theorem w2_ok {n m : Int} (h : -1152921504606846976 ≤ n ∧ n ≤ 1152921504606846976) (h2 : -1152921504606846976 ≤ m ∧ m ≤ 1152921504606846976) : okR (w2 n m) = 0 :=
  okR_all.2 ⟨by simp [w2], fun v hv => by
    simp only [w2, List.mem_cons, List.not_mem_nil, or_false] at hv
    rcases hv with rfl | rfl
    · exact iV_ok h
    · exact iV_ok h2⟩
theorem c70 (n m : Int) : Spec0 Try.prog 70 [iA n, iA m] (· = rowA (w2 n m)) := by
  have h : Spec1 Try.prog 70 [iA n, iA m] (fun r o => ∃ (out : List V), r = .rf 0 0 out.length ∧ o = ro3 out ∧ out = w2 n m) := by
    refine spec1_of_vc tabOk elems ord70 Try.func70 rfl (rl := [.tmp 4]) rfl (by kernel_rfl) rfl ?_
    (simp -implicitDefEqProofs only [go_sem, iA]; repeat (refine GO ?_; simp -implicitDefEqProofs only [go_sem, iA]))
    refine FINmk [(0, some 9)] [(4, .rf 0 0 2)] [(0, ro3 (w2 n m))] [0] rfl ?_ ?_
    · (simp -implicitDefEqProofs only [go_sem, ro3, w2, iV]; repeat (refine GO ?_; simp -implicitDefEqProofs only [go_sem, ro3, w2, iV]))
      exact .same (ro3 (w2 n m)) _ _ (ro3_leafy (w2 n m)) rfl
    · exact ⟨ro3 _, ⟨⟨w2 n m, rfl, rfl, rfl⟩, rfl⟩, ro3_leafy _, rfl⟩
  refine (Spec1.row1 h).mono ?_
  rintro r O' ⟨⟨⟨out, rfl, rfl⟩, hn⟩, hO⟩
  exact ⟨⟨rfl, hn⟩, hO⟩
theorem cmpV_iV (a b : Int) : cmpV (iV a) (iV b) = cmpI a b := cmpV_i a b
theorem cmpR_w2 (a b c d : Int) : cmpR (w2 a b) (w2 c d) = if cmpI a c = 0 then cmpI b d else cmpI a c := by
  simp only [w2, cmpR, cmpV_iV]
  split
  · split
    · rename_i h; exact h.symm
    · rfl
  · rfl
def wgZ : List It := [⟨w2 1 5, 2⟩, ⟨w2 1 7, 1⟩, ⟨w2 2 9, 1⟩]
theorem wgZ_wd : Wd wgZ 1 1000 := by
  have hm : Made wgZ := ⟨by simp [wgZ, cI, cmpR_w2, cmpI], by simp [wgZ, okW, inB]⟩
  have h2 : ∀ t ∈ wgZ, ∃ a b : Int, t.row = w2 a b ∧ -1000 ≤ a ∧ a ≤ 1000 ∧ -1000 ≤ b ∧ b ≤ 1000 := fun t ht => by
    simp only [wgZ, List.mem_cons, List.not_mem_nil, or_false] at ht
    rcases ht with rfl | rfl | rfl
    · exact ⟨1, 5, rfl, by omega⟩
    · exact ⟨1, 7, rfl, by omega⟩
    · exact ⟨2, 9, rfl, by omega⟩
  refine ⟨good_made.2 ⟨hm, fun t ht => ?_⟩, by simp [wgZ], made_tot hm (by decide) (by simp [wgZ]), fun t ht => ?_, fun t ht v hv _ => ?_⟩
  · obtain ⟨a, b, e, _⟩ := h2 t ht
    rw [e]; exact w2_ok (by omega) (by omega)
  · obtain ⟨a, b, e, _⟩ := h2 t ht
    rw [e]; simp [w2]
  · obtain ⟨a, b, e, _⟩ := h2 t ht
    rw [e] at hv
    simp only [w2, List.mem_cons, List.not_mem_nil, or_false] at hv
    rcases hv with rfl | rfl <;> simp only [iV] <;> omega
theorem pick_w2 (a b : Int) : pickR (w2 a b) [0] = [iV a] := rfl
theorem cmpR_1 (a b : Int) : cmpR [iV a] [iV b] = cmpI a b := by
  simp only [cmpR, cmpV_iV]
  split
  · rename_i h; exact h.symm
  · rfl
theorem wg_gs : GpI [0] wgZ [⟨[iV 1], [⟨w2 1 5, 2⟩, ⟨w2 1 7, 1⟩]⟩, ⟨[iV 2], [⟨w2 2 9, 1⟩]⟩] :=
  { up := by simp [cmpR_1, cmpI]
    items := by simp [wgZ, pick_w2, cmpR_1, cmpI]
    some := by simp
    all := by simp [wgZ, pick_w2] }
theorem wg_gs0 : GpI [] wgZ [⟨[], wgZ⟩] :=
  { up := List.pairwise_singleton _ _
    items := by simp [wgZ, pickR, cmpR]
    some := by simp [wgZ]
    all := by simp [wgZ, pickR] }
theorem GpI.uniq {cols : List Int} {y : List It} {gs gs' : List Gp} (h : GpI cols y gs) (h' : GpI cols y gs') : gs = gs' := h.same h' (fun _ => Iff.rfl) fun _ => rfl
theorem wg_a {out : List It} {err : Int} (h : GroupR wgZ [0] 2 1 out err) : err = 0 ∧ out = [⟨[iV 1, iV 17], 1⟩, ⟨[iV 2, iV 9], 1⟩] := by
  obtain ⟨h1, gs, h2, h3, _⟩ := (show Ask [0] 2 1 from ⟨by decide, by decide, by decide, by simp, by simp⟩).group wgZ_wd (by decide) (by decide) h
  have e := h2.uniq wg_gs
  subst e
  refine ⟨h1, h3.trans ?_⟩
  simp [gItem, gval, sumF, getV, w2, iV, inVal, inB]
theorem wg_b {out : List It} {err : Int} (h : GroupR wgZ [] 4 1 out err) : err = 0 ∧ out = [⟨[iV 9], 1⟩] := by
  obtain ⟨h1, gs, h2, h3, _⟩ := (show Ask [] 4 1 from ⟨by decide, by decide, by decide, by simp, by simp⟩).group wgZ_wd (by decide) (by decide) h
  have e := h2.uniq wg_gs0
  subst e
  refine ⟨h1, h3.trans ?_⟩
  have e1 : ∀ a b, getV (w2 a b) 1 = iV b := fun _ _ => rfl
  have e2 : ∀ a, (iV a).k = 3 := fun _ => rfl
  simp [gItem, gval, bestF, wgZ, e1, e2, cmpV_iV, cmpI, V.nul]
theorem g67 (z : List It) (cols : List Int) (kind col : Int) (hl : z.length ≤ 1048576) (hr : ∀ t ∈ z, t.row.length < 1073741824) (hc : cols.length < 1073741824) :
    Spec0 Try.prog 67 [setA z, intsL cols, iA kind, iA col] (fun r => ∃ (out : List It) (err : Int), r = .tu [setA out, iA err] ∧ GroupR z cols kind col out err) := Spec1.setE (c67 z cols kind col hl hr hc)
theorem g67z (z : List It) (kind col : Int) (hl : z.length ≤ 1048576) (hr : ∀ t ∈ z, t.row.length < 1073741824) :
    Spec0 Try.prog 67 [setA z, .nl, iA kind, iA col] (fun r => ∃ (out : List It) (err : Int), r = .tu [setA out, iA err] ∧ GroupR z [] kind col out err) :=
  spec0_nls (g67 z [] kind col hl hr (by decide)) ⟨.inl rfl, .inr ⟨rfl, 1, rfl⟩, .inl rfl, .inl rfl, trivial⟩
@[go_sem] theorem la_cons {α : Type} (a : α) (l m : List α) : List.append (a :: l) m = a :: List.append l m := rfl
@[go_sem] theorem la_nil {α : Type} (m : List α) : List.append [] m = m := rfl
theorem EL_z (a : List AV) (l : List (List AV)) (K : List AV → Prop) : EL (a :: l) (Int.toNat 0) K = K a := EL_zero a l K
theorem EL_1 (a b : List AV) (l : List (List AV)) (K : List AV → Prop) : EL (a :: b :: l) (Int.toNat 1) K = K b := by rw [show Int.toNat 1 = 0 + 1 from rfl, EL_succ, EL_zero]
theorem c69 : Spec0 Try.prog 69 [] (· = bA true) := by
  refine spec0_of_vc tabOk elems ord69 Try.func69 rfl (rl := [.tmp 0]) rfl (by kernel_rfl) rfl ?_
  (simp -implicitDefEqProofs only [go_sem]; repeat (refine GO ?_; simp -implicitDefEqProofs only [go_sem]))
  refine .pure _ (c70 1 5) rfl fun r hq _ => ?_
  subst hq
  (simp -implicitDefEqProofs only [go_sem]; repeat (refine GO ?_; simp -implicitDefEqProofs only [go_sem]))
  refine .pure _ (c70 1 7) rfl fun r hq _ => ?_
  subst hq
  (simp -implicitDefEqProofs only [go_sem]; repeat (refine GO ?_; simp -implicitDefEqProofs only [go_sem]))
  refine .pure _ (c70 2 9) rfl fun r hq _ => ?_
  subst hq
  simp -implicitDefEqProofs only [go_sem]
  refine FRZG 12 (so wgZ) rfl (so_leafy wgZ) ?_
  simp -implicitDefEqProofs only [go_sem, so]
  refine FRZ 15 ⟨1, [[iA 0]]⟩ rfl (by simp [Ob.leafy, AV.leaf, iA]) ?_
  simp -implicitDefEqProofs only [go_sem, so]
  refine .pure _ (show Spec0 Try.prog 67 [setA wgZ, intsL [0], iA 2, iA 1] _ from g67 wgZ [0] 2 1 (by decide) wgZ_wd.r40 (by decide)) rfl fun r hq _ => ?_
  obtain ⟨out, err, rfl, hz⟩ := hq
  obtain ⟨rfl, rfl⟩ := wg_a hz
  (simp -implicitDefEqProofs only [go_sem, setA, iA]; repeat (refine GO ?_; simp -implicitDefEqProofs only [go_sem, setA, iA]))
  refine .pure _ (show Spec0 Try.prog 67 [setA wgZ, .nl, iA 4, iA 1] _ from g67z wgZ 4 1 (by decide) wgZ_wd.r40) rfl fun r hq _ => ?_
  obtain ⟨out, err, rfl, hz⟩ := hq
  obtain ⟨rfl, rfl⟩ := wg_b hz
  (simp -implicitDefEqProofs only [go_sem, setA, iA, It.c, V.c, rowA, iV]; repeat (refine GO ?_; simp -implicitDefEqProofs only [go_sem, setA, iA, It.c, V.c, rowA, iV]))
  repeat (first | (refine VIF.tt (by simp) ?_; (simp -implicitDefEqProofs only [go_sem, setA, iA, It.c, V.c, rowA, iV, List.map_cons, List.map_nil, EL_z, EL_1]; repeat (refine GO ?_; simp -implicitDefEqProofs only [go_sem, setA, iA, It.c, V.c, rowA, iV, List.map_cons, List.map_nil, EL_z, EL_1]))) | (refine ⟨by decide, ?_⟩; (simp -implicitDefEqProofs only [go_sem, setA, iA, It.c, V.c, rowA, iV, List.map_cons, List.map_nil, EL_z, EL_1]; repeat (refine GO ?_; simp -implicitDefEqProofs only [go_sem, setA, iA, It.c, V.c, rowA, iV, List.map_cons, List.map_nil, EL_z, EL_1]))))
  simp [bA]
end Yt
namespace Yt
open Go Go.Vc Go.Proofs
set_option maxRecDepth 10000
set_option maxHeartbeats 8000000
set_option linter.unusedSimpArgs false
set_option linter.unusedVariables false
theorem groupR_rows {z out : List It} {cols : List Int} {kind col err : Int} (h : GroupR z cols kind col out err) : out.length ≤ z.length ∧ ∀ t ∈ out, t.row.length ≤ 12 := by
  rcases h with ⟨_, rfl, _⟩ | ⟨hw, gs, hg, hl, ⟨_, rfl, _⟩ | ⟨_, hm⟩⟩
  · simp
  · simp
  · obtain ⟨h1, h2⟩ := makeR_rows hm
    refine ⟨by rw [List.length_map] at h1; omega, fun t ht => ?_⟩
    obtain ⟨u, hu, e⟩ := h2 t ht
    obtain ⟨g, hgm, rfl⟩ := List.mem_map.1 hu
    have h3 := hg.atlen g hgm
    have h4 := hw.2.2.2.1
    rw [← e]
    simp only [gItem, List.length_append, List.length_singleton]; omega
def GDel (z dz : List It) (cols : List Int) (kind col : Int) (out : List It) (err : Int) : Prop :=
  ∃ now e1, AddR z dz now e1 ∧ Thn out err e1 (∃ a e2, GroupR now cols kind col a e2 ∧ Thn out err e2 (∃ b e3, GroupR z cols kind col b e3 ∧ Thn out err e3 (MinR a b out err)))
theorem c72 (z dz : List It) (cols : List Int) (kind col : Int) (hl : z.length + dz.length ≤ 300000) (hz : ∀ t ∈ z, t.row.length < 1073741824) (hd : ∀ t ∈ dz, t.row.length < 1073741824) (hc : cols.length < 1073741824) :
    Spec0 Try.prog 72 [setA z, setA dz, intsL cols, iA kind, iA col] (fun r => ∃ (out : List It) (err : Int), r = .tu [setA out, iA err] ∧ GDel z dz cols kind col out err) := by
  refine spec0_of_vc tabOk elems ord72 Try.func72 rfl (rl := [.tmp 10, .tmp 11]) rfl (by kernel_rfl) rfl ?_
  have bad : ∀ (e : Int) (s : St), 0 ∉ s.used → s.regs 10 = .nl → s.regs 11 = .pr (.int .i64 e) → GDel z dz cols kind col [] e → GOES (fun st => hRes T st [.tmp 10, .tmp 11] fun v => v.noId = true ∧ ∃ (out : List It) (err : Int), v = .tu [setA out, iA err] ∧ GDel z dz cols kind col out err) s := by
    intro e s hu h8 h9 hj
    refine TO [] [(10, setA []), (11, iA e)] [] [] rfl ?_ ?_
    · (simp -implicitDefEqProofs only [go_sem, setA, iA, h8, h9]; repeat (refine GO ?_; simp -implicitDefEqProofs only [go_sem, setA, iA, h8, h9]))
      exact ⟨fun h => absurd h hu, rfl⟩
    (simp -implicitDefEqProofs only [go_sem]; repeat (refine GO ?_; simp -implicitDefEqProofs only [go_sem]))
    exact ⟨rfl, [], e, rfl, hj⟩
  (simp -implicitDefEqProofs only [go_sem, setA, intsL, iA]; repeat (refine GO ?_; simp -implicitDefEqProofs only [go_sem, setA, intsL, iA]))
  refine .pure _ (Spec1.setE (s23 z dz (by omega) hz hd)) rfl fun q hq _ => ?_
  obtain ⟨now, e1, rfl, h1⟩ := hq
  obtain ⟨nl, nr⟩ := addR_rows h1
  have nr := addR_small h1 hz hd
  (simp -implicitDefEqProofs only [go_sem, iA, setA]; repeat (refine GO ?_; simp -implicitDefEqProofs only [go_sem, iA, setA]))
  refine VIF.split (fun h => ?_) (fun h => ?_)
  · have h : e1 ≠ 0 := by simpa using h
    simp -implicitDefEqProofs only [go_sem]
    exact bad e1 _ (by simp) rfl rfl ⟨now, e1, h1, .inl ⟨h, rfl, rfl⟩⟩
  have h : e1 = 0 := by simpa using h
  subst h
  (simp -implicitDefEqProofs only [go_sem]; repeat (refine GO ?_; simp -implicitDefEqProofs only [go_sem]))
  refine .pure _ (show Spec0 Try.prog 67 [setA now, intsL cols, iA kind, iA col] _ from g67 now cols kind col (by omega) nr hc) rfl fun q hq _ => ?_
  obtain ⟨a, e2, rfl, h2⟩ := hq
  obtain ⟨al, ar⟩ := groupR_rows h2
  (simp -implicitDefEqProofs only [go_sem, iA, setA]; repeat (refine GO ?_; simp -implicitDefEqProofs only [go_sem, iA, setA]))
  refine VIF.split (fun h => ?_) (fun h => ?_)
  · have h : e2 ≠ 0 := by simpa using h
    simp -implicitDefEqProofs only [go_sem]
    exact bad e2 _ (by simp) rfl rfl ⟨now, 0, h1, .inr ⟨rfl, a, e2, h2, .inl ⟨h, rfl, rfl⟩⟩⟩
  have h : e2 = 0 := by simpa using h
  subst h
  (simp -implicitDefEqProofs only [go_sem]; repeat (refine GO ?_; simp -implicitDefEqProofs only [go_sem]))
  refine .pure _ (show Spec0 Try.prog 67 [setA z, intsL cols, iA kind, iA col] _ from g67 z cols kind col (by omega) hz hc) rfl fun q hq _ => ?_
  obtain ⟨b, e3, rfl, h3⟩ := hq
  obtain ⟨bl, br⟩ := groupR_rows h3
  (simp -implicitDefEqProofs only [go_sem, iA, setA]; repeat (refine GO ?_; simp -implicitDefEqProofs only [go_sem, iA, setA]))
  refine VIF.split (fun h => ?_) (fun h => ?_)
  · have h : e3 ≠ 0 := by simpa using h
    simp -implicitDefEqProofs only [go_sem]
    exact bad e3 _ (by simp) rfl rfl ⟨now, 0, h1, .inr ⟨rfl, a, 0, h2, .inr ⟨rfl, b, e3, h3, .inl ⟨h, rfl, rfl⟩⟩⟩⟩
  have h : e3 = 0 := by simpa using h
  subst h
  (simp -implicitDefEqProofs only [go_sem]; repeat (refine GO ?_; simp -implicitDefEqProofs only [go_sem]))
  refine .pure _ (Spec1.setE (c55 a b (by omega) (fun t ht => by have := ar t ht; omega) (fun t ht => by have := br t ht; omega))) rfl fun q hq _ => ?_
  obtain ⟨out, err, rfl, h5⟩ := hq
  (simp -implicitDefEqProofs only [go_sem, iA, setA]; repeat (refine GO ?_; simp -implicitDefEqProofs only [go_sem, iA, setA]))
  exact ⟨rfl, out, err, rfl, now, 0, h1, .inr ⟨rfl, a, 0, h2, .inr ⟨rfl, b, 0, h3, .inr ⟨rfl, h5⟩⟩⟩⟩
end Yt
namespace Yt
open Go Go.Vc Go.Proofs
set_option maxRecDepth 10000
set_option maxHeartbeats 8000000
set_option linter.unusedSimpArgs false
set_option linter.unusedVariables false
def posI (t : It) : Bool := decide (0 < t.w)
theorem so_snoc {st : St} {m : List (Nat × Option Nat)} {l l' : List It} {t : It} (h : l' = l ++ [t]) : Es st m (List.map It.c l ++ [t.c]) (List.map It.c l') := by
  subst h
  rw [List.map_append]
  exact .same (so (l ++ [t])) _ _ (fun x hx => so_leafy (l ++ [t]) x (by rw [so, List.map_append]; exact hx)) rfl
theorem GpI.pos {cols : List Int} {z : List It} {gs : List Gp} (h : GpI cols z gs) (hz : ∀ t ∈ z, t.w ≠ 0) : GpI cols (z.filter posI) gs :=
  { up := h.up
    items := fun g hg => by
      rw [h.items g hg, List.filter_filter]
      refine List.filter_congr fun t ht => ?_
      have := hz t ht
      by_cases e : 0 < t.w
      · simp [posI, e]
      · have e2 : t.w < 0 := by omega
        simp [posI, e, e2]
    some := h.some
    all := fun t ht hw => h.all t (List.mem_filter.1 ht).1 hw }
theorem GpI.neg {cols : List Int} {z : List It} {gs : List Gp} (h : GpI cols (z.filter fun t => !posI t) gs) (hz : ∀ t ∈ z, t.w ≠ 0) : gs = [] := by
  cases gs with
  | nil => rfl
  | cons g r =>
    obtain ⟨t, ht, hw, _⟩ := (h.has g.at_).1 ⟨g, by simp, rfl⟩
    obtain ⟨h1, h2⟩ := List.mem_filter.1 ht
    have := hz t h1
    simp [posI] at h2; omega
theorem Ask.of {k0 c0 v0 : Nat} (h : (k0 : Int) < 4) (h1 : (c0 : Int) < 2) (h2 : (v0 : Int) < 2) : Ask [(c0 : Int)] (1 + (k0 : Int)) v0 :=
  ⟨by omega, by omega, by simp, by simp; omega, by omega⟩
end Yt
namespace Yt
open Go Go.Vc Go.Proofs
set_option maxRecDepth 10000
set_option maxHeartbeats 8000000
set_option linter.unusedSimpArgs false
set_option linter.unusedVariables false
theorem len_one {α : Type} {l : List α} (h : l.length = 1) : ∃ a, l = [a] := by
  match l, h with
  | [a], _ => exact ⟨a, rfl⟩
end Yt
namespace Yt
open Go Go.Vc Go.Proofs
set_option maxRecDepth 10000
set_option maxHeartbeats 1000000
set_option linter.unusedSimpArgs false
set_option linter.unusedVariables false
def inK (Ks : List (List V)) (r : List V) : Bool := Ks.any fun k => decide (cmpR r k = 0)
theorem inK_mem {Ks : List (List V)} {r : List V} : inK Ks r = true ↔ r ∈ Ks := by
  simp only [inK, List.any_eq_true, decide_eq_true_eq]
  exact ⟨fun ⟨k, hk, e⟩ => by rw [lin_cmpR.eq _ _ e]; exact hk, fun h => ⟨r, h, cmpR_self r⟩⟩
theorem part_keys (key : It → List V) (f : It → Int) (L : List It) : ∀ (Ks : List (List V)), Ks.Nodup →
    (Ks.map fun k => ((L.filter fun t => decide (cmpR (key t) k = 0)).map f).sum).sum = ((L.filter fun t => inK Ks (key t)).map f).sum
  | [], _ => by
    have : L.filter (fun t => inK [] (key t)) = [] := by rw [List.filter_eq_nil_iff]; intro t _; simp [inK]
    rw [this]; rfl
  | k :: Ks, h => by
    obtain ⟨h1, h2⟩ := List.nodup_cons.1 h
    have ih := part_keys key f L Ks h2
    rw [List.map_cons, List.sum_cons, ih]
    clear ih
    induction L with
    | nil => simp
    | cons t L ihL =>
      have hc : inK (k :: Ks) (key t) = (decide (cmpR (key t) k = 0) || inK Ks (key t)) := by simp [inK]
      simp only [List.filter_cons, hc]
      by_cases e : cmpR (key t) k = 0
      · have e2 : key t = k := lin_cmpR.eq _ _ e
        have e3 : inK Ks (key t) = false := by
          cases h4 : inK Ks (key t) with
          | false => rfl
          | true => exact absurd (inK_mem.1 h4) (e2 ▸ h1)
        simp only [e, e3, decide_true, Bool.or_false, if_true, Bool.false_eq_true, if_false, List.map_cons, List.sum_cons]
        omega
      · cases e3 : inK Ks (key t) with
        | true =>
          simp only [e, decide_false, Bool.or_true, if_true, Bool.false_eq_true, if_false, List.map_cons, List.sum_cons]
          omega
        | false =>
          simp only [e, decide_false, Bool.or_false, Bool.false_eq_true, if_false]
          exact ihL
theorem GpI.nodup {cols : List Int} {y : List It} {gs : List Gp} (h : GpI cols y gs) : (gs.map Gp.at_).Nodup := by
  rw [List.Nodup, List.pairwise_map]
  exact h.up.imp fun {a b} hab e => by rw [e, cmpR_self] at hab; omega
theorem GpI.part {cols : List Int} {z : List It} {gs : List Gp} (h : GpI cols z gs) (hz : ∀ t ∈ z, t.w ≠ 0) (f : It → Int) : (gs.map fun g => (g.items.map f).sum).sum = ((z.filter posI).map f).sum := by
  have h1 := part_keys (fun t => pickR t.row cols) f (z.filter posI) (gs.map Gp.at_) h.nodup
  rw [List.map_map] at h1
  have e1 : ((z.filter posI).filter fun t => inK (gs.map Gp.at_) (pickR t.row cols)) = z.filter posI := by
    rw [List.filter_eq_self]
    intro t ht
    obtain ⟨h2, h3⟩ := List.mem_filter.1 ht
    simp only [posI, decide_eq_true_eq] at h3
    obtain ⟨g, hg, e⟩ := h.all t h2 (by omega)
    rw [inK_mem, ← e]
    exact List.mem_map_of_mem hg
  rw [e1] at h1
  rw [← h1]
  congr 1
  refine List.map_congr_left fun g hg => ?_
  simp only [Function.comp]
  rw [(h.pos hz).items g hg]
  congr 2
  refine List.filter_congr fun t ht => ?_
  have h3 := (List.mem_filter.1 ht).2
  simp only [posI, decide_eq_true_eq] at h3
  have : ¬ t.w < 0 := by omega
  simp [this]
def allG (z : List It) : List Gp := if z.filter posI = [] then [] else [⟨[], z.filter posI⟩]
def leB (kind : Int) (o v : V) : Prop := if kind = 3 then cmpV o v ≤ 0 else 0 ≤ cmpV o v
def Best (kind : Int) (vals : List V) (o : V) : Prop := ((∀ v ∈ vals, v.k = 1) ∧ o = V.nul) ∨ (o ∈ vals ∧ o.k ≠ 1 ∧ ∀ v ∈ vals, v.k ≠ 1 → leB kind o v)
theorem cmpV_le {a b c : V} (h : cmpV a b ≤ 0) (h2 : cmpV b c ≤ 0) : cmpV a c ≤ 0 := by
  by_cases e : cmpV a b = 0
  · rw [lin_cmpV.eq _ _ e]; exact h2
  · by_cases e2 : cmpV b c = 0
    · rw [← lin_cmpV.eq _ _ e2]; exact h
    · have := lin_cmpV.trans a b c (by omega) (by omega); omega
theorem leB_trans {kind : Int} {a b c : V} (h : leB kind a b) (h2 : leB kind b c) : leB kind a c := by
  simp only [leB] at *
  split
  · rename_i e; rw [if_pos e] at h h2; exact cmpV_le h h2
  · rename_i e
    rw [if_neg e] at h h2
    have h3 := lin_cmpV.neg a b
    have h4 := lin_cmpV.neg b c
    have h5 := lin_cmpV.neg a c
    have := cmpV_le (a := c) (b := b) (c := a) (by omega) (by omega)
    omega
theorem leB_anti {kind : Int} {a b : V} (h : leB kind a b) (h2 : leB kind b a) : a = b := by
  simp only [leB] at *
  have h3 := lin_cmpV.neg a b
  split at h
  · rename_i e; rw [if_pos e] at h2; exact lin_cmpV.eq _ _ (by omega)
  · rename_i e; rw [if_neg e] at h2; exact lin_cmpV.eq _ _ (by omega)
theorem leB_self {kind : Int} (a : V) : leB kind a a := by
  have := lin_cmpV.self a
  simp only [leB]; split <;> omega
theorem bestF_acc {kind col : Int} (hk : kind = 3 ∨ kind = 4) : ∀ (l : List It) (pre : List V) (o : V), Best kind pre o → Best kind (pre ++ l.map fun t => getV t.row col) (bestF kind col l o)
  | [], pre, o, h => by simpa [bestF] using h
  | t :: l, pre, o, h => by
    have e : pre ++ (t :: l).map (fun t => getV t.row col) = (pre ++ [getV t.row col]) ++ l.map fun t => getV t.row col := by simp
    rw [e]
    simp only [bestF]
    split
    · rename_i h1
      refine bestF_acc hk l _ o ?_
      rcases h with ⟨h2, h3⟩ | ⟨h2, h3, h4⟩
      · refine .inl ⟨fun v hv => ?_, h3⟩
        rcases List.mem_append.1 hv with hv | hv
        · exact h2 v hv
        · simp at hv; rw [hv]; exact h1
      · refine .inr ⟨List.mem_append_left _ h2, h3, fun v hv hv1 => ?_⟩
        rcases List.mem_append.1 hv with hv | hv
        · exact h4 v hv hv1
        · simp at hv; rw [hv] at hv1; exact absurd h1 hv1
    · rename_i h1
      split
      · rename_i h5
        refine bestF_acc hk l _ _ (.inr ⟨by simp, h1, fun v hv hv1 => ?_⟩)
        rcases List.mem_append.1 hv with hv | hv
        · rcases h with ⟨h2, _⟩ | ⟨h2, h3, h4⟩
          · exact absurd (h2 v hv) hv1
          · refine leB_trans ?_ (h4 v hv hv1)
            simp only [leB]
            rcases h5 with h5 | ⟨h5, h6⟩ | ⟨h5, h6⟩
            · exact absurd h5 h3
            · rw [if_pos h5]; omega
            · rw [if_neg (by omega)]; omega
        · simp at hv; rw [hv]; exact leB_self _
      · rename_i h5
        refine bestF_acc hk l _ o ?_
        rcases h with ⟨h2, h3⟩ | ⟨h2, h3, h4⟩
        · exact absurd (.inl (by rw [h3]; rfl)) h5
        · refine .inr ⟨List.mem_append_left _ h2, h3, fun v hv hv1 => ?_⟩
          rcases List.mem_append.1 hv with hv | hv
          · exact h4 v hv hv1
          · simp at hv; rw [hv]
            have h6 := lin_cmpV.neg (getV t.row col) o
            simp only [leB]
            rcases hk with hk | hk
            · rw [if_pos hk]
              have : ¬ cmpV (getV t.row col) o < 0 := fun h => h5 (.inr (.inl ⟨hk, h⟩))
              omega
            · rw [if_neg (by omega)]
              have : ¬ 0 < cmpV (getV t.row col) o := fun h => h5 (.inr (.inr ⟨hk, h⟩))
              omega
theorem bestF_best {kind col : Int} (hk : kind = 3 ∨ kind = 4) (l : List It) : Best kind (l.map fun t => getV t.row col) (bestF kind col l V.nul) := by
  have := bestF_acc (col := col) hk l [] V.nul (.inl ⟨by simp, rfl⟩)
  simpa using this
theorem Best.uniq {kind : Int} {vals vals' : List V} {o o' : V} (h : Best kind vals o) (h' : Best kind vals' o') (hv : ∀ v, v.k ≠ 1 → (v ∈ vals ↔ v ∈ vals')) : o = o' := by
  rcases h with ⟨h1, h2⟩ | ⟨h1, h2, h3⟩ <;> rcases h' with ⟨h4, h5⟩ | ⟨h4, h5, h6⟩
  · rw [h2, h5]
  · exact absurd (h1 o' ((hv o' h5).2 h4)) h5
  · exact absurd (h4 o ((hv o h2).1 h1)) h2
  · exact leB_anti (h3 o' ((hv o' h5).2 h4) h5) (h6 o ((hv o h2).1 h1) h2)
theorem Best.join {α : Type} {kind : Int} {gs : List α} {vals : α → List V} {best : α → V} {o : V} (hg : ∀ g ∈ gs, Best kind (vals g) (best g)) (h : Best kind (gs.map best) o) : Best kind (gs.flatMap vals) o := by
  rcases h with ⟨h1, h2⟩ | ⟨h1, h2, h3⟩
  · refine .inl ⟨fun v hv => ?_, h2⟩
    obtain ⟨g, hgm, hvg⟩ := List.mem_flatMap.1 hv
    have h4 := h1 _ (List.mem_map_of_mem hgm)
    rcases hg g hgm with ⟨h5, _⟩ | ⟨_, h5, _⟩
    · exact h5 v hvg
    · exact absurd h4 h5
  · obtain ⟨g, hgm, rfl⟩ := List.mem_map.1 h1
    rcases hg g hgm with ⟨_, h5⟩ | ⟨h4, h5, h6⟩
    · rw [h5] at h2; exact absurd rfl h2
    · refine .inr ⟨List.mem_flatMap.2 ⟨g, hgm, h4⟩, h2, fun v hv hv1 => ?_⟩
      obtain ⟨g', hgm', hvg⟩ := List.mem_flatMap.1 hv
      rcases hg g' hgm' with ⟨h7, _⟩ | ⟨h7, h8, h9⟩
      · exact absurd (h7 v hvg) hv1
      · exact leB_trans (h3 _ (List.mem_map_of_mem hgm') h8) (h9 v hvg hv1)
end Yt
namespace Yt
open Go Go.Vc Go.Proofs
set_option maxRecDepth 10000
set_option maxHeartbeats 8000000
set_option linter.unusedSimpArgs false
set_option linter.unusedVariables false
theorem Ask.sums1 {cols : List Int} {kind col : Int} (a : Ask cols kind col) {z : List It} (h : Wd z 1 1000) {l : List It} (hl : l.length ≤ z.length) (hm : ∀ t ∈ l, t ∈ z) :
    sumF kind col l 0 = some ((l.map (sumT kind col)).sum) ∧ -4800000 ≤ (l.map (sumT kind col)).sum ∧ (l.map (sumT kind col)).sum ≤ 4800000 := by
  have hz := h.len
  have ht : ∀ t ∈ l, -120000 ≤ sumT kind col t ∧ sumT kind col t ≤ 120000 := fun t ht => by
    have hw := h.w t (hm t ht)
    simp only [sumT]
    split
    · split
      · rename_i h3
        have hn := h.num t (hm t ht) _ (getV_mem (inC_of a.col (h.two t (hm t ht)))) h3
        have := mul_small (x := t.w) (y := (getV t.row col).i) (i := 120) (j := 1000) (by omega) hn
        omega
      · omega
    · omega
  have h2 := sumF_some (kind := kind) (col := col) (B := 120000) (by omega) l 0 ht (by omega) (by omega)
  have h3 := sum_bound (f := sumT kind col) l ht
  exact ⟨by rw [h2, Int.zero_add], by omega, by omega⟩
theorem Ask.wd {c kind col : Int} (a : Ask [c] kind col) {z out : List It} {gs : List Gp} (h : Wd z 1 1000) (hgs : GpI [c] z gs) (hl : gs.length ≤ z.length) (ho : out = gs.map (gItem kind col)) (hm : Made out) (hok : ∀ t ∈ out, okR t.row = 0) : Wd out 1 4800000 := by
  have hll := h.len
  refine ⟨good_made.2 ⟨hm, hok⟩, by rw [ho, List.length_map]; omega, made_tot hm (by decide) fun t ht => ?_, fun t ht => ?_, fun t ht v hv h3 => ?_⟩
  · rw [ho] at ht
    obtain ⟨g, _, rfl⟩ := List.mem_map.1 ht
    simp [gItem]
  · rw [ho] at ht
    obtain ⟨g, hg, rfl⟩ := List.mem_map.1 ht
    have := hgs.atlen g hg
    simp [gItem] at this ⊢; omega
  · rw [ho] at ht
    obtain ⟨g, hg, rfl⟩ := List.mem_map.1 ht
    have hit : ∀ t ∈ g.items, t ∈ z := fun t ht => by rw [hgs.items g hg] at ht; exact (List.mem_filter.1 ht).1
    have hil : g.items.length ≤ z.length := by rw [hgs.items g hg]; exact List.length_filter_le _ _
    simp only [gItem] at hv
    have big : ∀ t ∈ z, ∀ v ∈ t.row, v.k = 3 → -4800000 ≤ v.i ∧ v.i ≤ 4800000 := fun t ht v hv h3 => by have := h.num t ht v hv h3; omega
    rcases List.mem_append.1 hv with hv | hv
    · obtain ⟨t, ht, _, e⟩ := (hgs.has g.at_).1 ⟨g, hg, rfl⟩
      rw [← e] at hv
      simp only [pickR, List.map_cons, List.map_nil, List.mem_singleton] at hv
      subst hv
      exact big t ht _ (getV_mem (inC_of (a.cs c (by simp)) (h.two t ht))) h3
    · simp only [List.mem_singleton] at hv
      subst hv
      simp only [gval] at h3 ⊢
      split
      · obtain ⟨e1, e2, e3⟩ := a.sums1 h hil hit
        rw [e1]; exact ⟨e2, e3⟩
      · rename_i hk
        rw [if_neg hk] at h3
        rcases bestF_mem kind col g.items V.nul with e | ⟨t, ht, e⟩
        · rw [e]; decide
        · simp only [Option.getD_some, e] at h3 ⊢
          exact big t (hit t ht) _ (getV_mem (inC_of a.col (h.two t (hit t ht)))) h3
theorem total {c kind col up : Int} (a : Ask [c] kind col) (hu : up = if kind = 1 then 2 else kind) {z : List It} {gs : List Gp} (h : Wd z 1 1000) (hgs : GpI [c] z gs) (hl : gs.length ≤ z.length) :
    (allG z).map (gItem kind col) = (allG (gs.map (gItem kind col))).map (gItem up 1) := by
  have hnz : ∀ t ∈ z, t.w ≠ 0 := fun t ht => (h.made.nz t ht).1
  have hpos : (gs.map (gItem kind col)).filter posI = gs.map (gItem kind col) := by
    rw [List.filter_eq_self]
    intro t ht
    obtain ⟨g, _, rfl⟩ := List.mem_map.1 ht
    rfl
  have hit : ∀ g ∈ gs, ∀ t ∈ g.items, t ∈ z := fun g hg t ht => by rw [hgs.items g hg] at ht; exact (List.mem_filter.1 ht).1
  have hil : ∀ g ∈ gs, g.items.length ≤ z.length := fun g hg => by rw [hgs.items g hg]; exact List.length_filter_le _ _
  have hval : ∀ g ∈ gs, getV (gItem kind col g).row 1 = (gval kind col g).getD V.zero := fun g hg => by
    obtain ⟨x, hx⟩ := len_one (hgs.atlen g hg)
    rw [gItem, hx]; rfl
  by_cases hemp : z.filter posI = []
  · have : gs = [] := by
      cases gs with
      | nil => rfl
      | cons g r =>
        obtain ⟨t, ht, hw, _⟩ := (hgs.has g.at_).1 ⟨g, by simp, rfl⟩
        have := hnz t ht
        have h2 : t ∈ z.filter posI := List.mem_filter.2 ⟨ht, by simp [posI]; omega⟩
        rw [hemp] at h2; cases h2
    subst this
    simp [allG, hemp]
  · have hne : gs ≠ [] := fun e => by
      obtain ⟨t, ht⟩ := List.exists_mem_of_ne_nil _ hemp
      obtain ⟨h1, h2⟩ := List.mem_filter.1 ht
      simp only [posI, decide_eq_true_eq] at h2
      obtain ⟨g, hg, _⟩ := hgs.all t h1 (by omega)
      rw [e] at hg; cases hg
    have hne2 : gs.map (gItem kind col) ≠ [] := fun e => hne (List.map_eq_nil_iff.1 e)
    simp only [allG, hemp, hpos, hne2, if_false, List.map_cons, List.map_nil]
    have key : gval kind col ⟨[], z.filter posI⟩ = gval up 1 ⟨[], gs.map (gItem kind col)⟩ := by
      by_cases hk : kind = 1 ∨ kind = 2
      · have hu2 : up = 2 := by rcases hk with hk | hk <;> simp [hu, hk]
        obtain ⟨e1, e2, e3⟩ := a.sums1 h (l := z.filter posI) (List.length_filter_le _ _) fun t ht => (List.mem_filter.1 ht).1
        have hs : ∀ g ∈ gs, sumT 2 1 (gItem kind col g) = (g.items.map (sumT kind col)).sum := fun g hg => by
          obtain ⟨f1, _⟩ := a.sums1 h (hil g hg) (hit g hg)
          have hv := hval g hg
          rw [gval, if_pos hk, f1] at hv
          simp only [sumT, hv]
          simp [gItem]
        have hb : ∀ t ∈ gs.map (gItem kind col), -4800000 ≤ sumT 2 1 t ∧ sumT 2 1 t ≤ 4800000 := fun t ht => by
          obtain ⟨g, hg, rfl⟩ := List.mem_map.1 ht
          rw [hs g hg]
          exact (a.sums1 h (hil g hg) (hit g hg)).2
        have hgl : gs.length ≤ 40 := by have := h.len; omega
        have h2 := sumF_some (kind := 2) (col := 1) (B := 4800000) (by omega) (gs.map (gItem kind col)) 0 hb (by rw [List.length_map]; omega) (by rw [List.length_map]; omega)
        simp only [gval, hk, hu2, if_true, or_true]
        rw [e1, h2, Int.zero_add, ← hgs.part hnz, List.map_map]
        have e5 : gs.map (sumT 2 1 ∘ gItem kind col) = gs.map fun g => (g.items.map (sumT kind col)).sum := List.map_congr_left hs
        rw [e5]
      · have hk2 : kind = 3 ∨ kind = 4 := by have := a.k1; have := a.k2; omega
        have hu2 : up = kind := by rw [hu, if_neg (by omega)]
        have hn : ¬ (up = 1 ∨ up = 2) := by rw [hu2]; exact hk
        simp only [gval, hk, hn, if_false, Option.some.injEq]
        have b1 := bestF_best (col := col) hk2 (z.filter posI)
        have b2 := bestF_best (kind := up) (col := 1) (by rw [hu2]; exact hk2) (gs.map (gItem kind col))
        rw [List.map_map, hu2] at b2
        have e5 : gs.map ((fun t => getV t.row 1) ∘ gItem kind col) = gs.map fun g => bestF kind col g.items V.nul := List.map_congr_left fun g hg => by
          simp only [Function.comp]
          rw [hval g hg, gval, if_neg hk]; rfl
        rw [e5] at b2
        have b3 := Best.join (vals := fun g : Gp => g.items.map fun t => getV t.row col) (fun g _ => bestF_best (col := col) hk2 g.items) b2
        rw [hu2]
        refine b1.uniq b3 fun v _ => ?_
        simp only [List.mem_flatMap, List.mem_map]
        constructor
        · rintro ⟨t, ht, e⟩
          obtain ⟨h1, h2⟩ := List.mem_filter.1 ht
          simp only [posI, decide_eq_true_eq] at h2
          obtain ⟨g, hg, e2⟩ := hgs.all t h1 (by omega)
          refine ⟨g, hg, t, ?_, e⟩
          rw [hgs.items g hg]
          refine List.mem_filter.2 ⟨h1, ?_⟩
          have : ¬ t.w < 0 := by omega
          simp [this, e2, cmpR_self]
        · rintro ⟨g, hg, t, ht, e⟩
          have := hit g hg t ht
          rw [hgs.items g hg] at ht
          have h2 := (List.mem_filter.1 ht).2
          simp at h2
          have h3 := hnz t this
          exact ⟨t, List.mem_filter.2 ⟨this, by simp [posI]; omega⟩, e⟩
    simp only [gItem, key]
end Yt
namespace Yt
open Go Go.Vc Go.Proofs
set_option maxRecDepth 10000
set_option maxHeartbeats 8000000
set_option linter.unusedSimpArgs false
set_option linter.unusedVariables false
theorem tk3 (v : V) : List.take 3 v.c = v.c := rfl
theorem c_len (v : V) : v.c.length = 3 := rfl
theorem leaf_box (v : V) : (⟨3, [v.c]⟩ : Ob).leafy := fun x hx => leafV v x hx
end Yt
namespace Yt
open Go Go.Vc Go.Proofs
set_option maxRecDepth 10000
set_option maxHeartbeats 1000000
set_option linter.unusedSimpArgs false
set_option linter.unusedVariables false
theorem gOf_mem {cols : List Int} {y : List It} {gs : List Gp} (h : GpI cols y gs) {g : Gp} (hg : g ∈ gs) : g = gOf cols y g.at_ := by
  have h2 := h.items g hg
  cases g; simp only [gOf] at *; rw [← h2]
structure Ch (cols : List Int) (kind col : Int) (z dz s d : List It) (gs gs' : List Gp) : Prop where
  was : GpI cols z gs
  now : GpI cols s gs'
  madeA : Made (gs'.map (gItem kind col))
  madeB : Made (gs.map (gItem kind col))
  made : Made d
  tot : ∀ r, Yt.tot r d = Yt.tot r (gs'.map (gItem kind col)) - Yt.tot r (gs.map (gItem kind col))
  tots : ∀ r, Yt.tot r s = Yt.tot r z + Yt.tot r dz
  ms : Made s
  mz : Made z
theorem gmap_one {kind col : Int} {gs : List Gp} : ∀ t ∈ gs.map (gItem kind col), t.w = 1 := fun t ht => by
  obtain ⟨g, _, rfl⟩ := List.mem_map.1 ht; rfl
theorem Ch.row {cols : List Int} {kind col : Int} {z dz s d : List It} {gs gs' : List Gp} (h : Ch cols kind col z dz s d gs gs') {t : It} (ht : t ∈ d) :
    (t.w = 1 ∧ ∃ g ∈ gs', t.row = (gItem kind col g).row ∧ ¬ ∃ g ∈ gs, t.row = (gItem kind col g).row) ∨ (t.w = -1 ∧ ∃ g ∈ gs, t.row = (gItem kind col g).row ∧ ¬ ∃ g ∈ gs', t.row = (gItem kind col g).row) := by
  have h1 := h.tot t.row
  rw [tot_made h.made ht] at h1
  have h0 := (h.made.nz t ht).1
  have mem : ∀ {gs : List Gp}, (∃ u ∈ gs.map (gItem kind col), u.row = t.row) ↔ ∃ g ∈ gs, t.row = (gItem kind col g).row := fun {gs} => by
    constructor
    · rintro ⟨u, hu, e⟩
      obtain ⟨g, hg, rfl⟩ := List.mem_map.1 hu
      exact ⟨g, hg, e.symm⟩
    · rintro ⟨g, hg, e⟩
      exact ⟨_, List.mem_map_of_mem hg, e.symm⟩
  rcases tot_one h.madeA gmap_one t.row with ⟨a, b⟩ | ⟨a, b⟩ <;> rcases tot_one h.madeB gmap_one t.row with ⟨c, e⟩ | ⟨c, e⟩
  · omega
  · rw [mem] at b e
    obtain ⟨g, hg, e2⟩ := b
    exact .inl ⟨by omega, g, hg, e2, e⟩
  · rw [mem] at b e
    obtain ⟨g, hg, e2⟩ := e
    exact .inr ⟨by omega, g, hg, e2, b⟩
  · omega
theorem Ch.len {cols : List Int} {kind col : Int} {z dz s d : List It} {gs gs' : List Gp} (h : Ch cols kind col z dz s d gs gs') {t : It} (ht : t ∈ d) : (t.w = 1 ∨ t.w = -1) ∧ t.row.length = cols.length + 1 := by
  rcases h.row ht with ⟨h1, g, hg, e, _⟩ | ⟨h1, g, hg, e, _⟩
  · exact ⟨.inl h1, by rw [e]; have := h.now.atlen g hg; simp [gItem]; omega⟩
  · exact ⟨.inr h1, by rw [e]; have := h.was.atlen g hg; simp [gItem]; omega⟩
theorem gItem_key {cols : List Int} {kind col : Int} {y : List It} {gs : List Gp} (h : GpI cols y gs) {g : Gp} (hg : g ∈ gs) : (gItem kind col g).row.take cols.length = g.at_ := by
  rw [← h.atlen g hg, gItem, List.take_left']; rfl
theorem one_of {d : List It} (hd : d.Pairwise fun a b => a.row ≠ b.row) {p : It → Bool} {t : It} (ht : t ∈ d) (hp : p t = true) (h : ∀ u ∈ d, p u = true → u.row = t.row) : (d.filter p).length = 1 := by
  have h1 : t ∈ d.filter p := List.mem_filter.2 ⟨ht, hp⟩
  have h2 := List.length_pos_of_mem h1
  rcases Nat.lt_or_ge 1 (d.filter p).length with h3 | h3
  · have h4 := List.pairwise_iff_getElem.1 (hd.filter p) 0 1 (by omega) h3 (by decide)
    have q : ∀ i (hi : i < (d.filter p).length), (d.filter p)[i].row = t.row := fun i hi => by
      obtain ⟨a, b⟩ := List.mem_filter.1 (List.getElem_mem hi)
      exact h _ a b
    exact absurd ((q 0 (by omega)).trans (q 1 h3).symm) h4
  · omega
def alike (n : Nat) (t u : It) : Bool := decide (cmpR (u.row.take n) (t.row.take n) = 0) && decide (u.w = t.w)
theorem Ch.same {cols : List Int} {kind col : Int} {z dz s d : List It} {gs gs' : List Gp} (h : Ch cols kind col z dz s d gs gs') {t : It} (ht : t ∈ d) : (d.filter (alike cols.length t)).length = 1 := by
  refine one_of (made_rows h.made) ht (by simp [alike, cmpR_self]) fun u hu hp => ?_
  simp only [alike, Bool.and_eq_true, decide_eq_true_eq] at hp
  have hk := lin_cmpR.eq _ _ hp.1
  rcases h.row ht with ⟨h1, g, hg, e, _⟩ | ⟨h1, g, hg, e, _⟩ <;> rcases h.row hu with ⟨h2, g2, hg2, e2, _⟩ | ⟨h2, g2, hg2, e2, _⟩
  · rw [e, e2, gItem_key h.now hg, gItem_key h.now hg2] at hk
    rw [e, e2, gOf_mem h.now hg, gOf_mem h.now hg2, hk]
  · omega
  · omega
  · rw [e, e2, gItem_key h.was hg, gItem_key h.was hg2] at hk
    rw [e, e2, gOf_mem h.was hg, gOf_mem h.was hg2, hk]
theorem minR_fine {a b out : List It} {err : Int} (ha : Good a) (hb : Good b) (h1 : ∀ t ∈ a, t.w = 1) (h2 : ∀ t ∈ b, t.w = 1) (h : MinR a b out err) :
    err = 0 ∧ Made out ∧ (∀ r, tot r out = tot r a - tot r b) ∧ (∀ t ∈ out, okR t.row = 0) ∧ out.length ≤ a.length + b.length := by
  have hm : MakeR (a ++ b.map negI) out err := by
    rcases h with ⟨h, _⟩ | ⟨_, _, h⟩
    · exact absurd ⟨ha, hb⟩ h
    · exact h
  have ma := good_made.1 ha
  have mb := good_made.1 hb
  obtain ⟨g1, g2, g3, g4, g5⟩ := makeR_fine hm (by
    rw [List.any_eq_false]; intro t ht
    rcases List.mem_append.1 ht with ht | ht
    · have := (ma.1.nz t ht).2
      simp [okI, this, ma.2 t ht]
    · obtain ⟨u, hu, rfl⟩ := List.mem_map.1 ht
      have := okW_neg (mb.1.nz u hu).2
      simp [okI, negI, this, mb.2 u hu]) fun r => by
    rw [tot_append, tot_neg]
    rcases tot_one ma.1 h1 r with ⟨e, _⟩ | ⟨e, _⟩ <;> rcases tot_one mb.1 h2 r with ⟨f, _⟩ | ⟨f, _⟩ <;> (rw [e, f]; decide)
  refine ⟨g1, g2, fun r => by rw [g3, tot_append, tot_neg]; omega, fun t ht => (g4 t ht).1, by simpa using g5⟩
end Yt
namespace Yt
open Go Go.Vc Go.Proofs
set_option maxRecDepth 10000
set_option maxHeartbeats 8000000
set_option linter.unusedSimpArgs false
set_option linter.unusedVariables false
theorem good_r {z : List It} (h : Good z) : ∀ t ∈ z, t.row.length ≤ 12 := fun t ht => okR_len ((good_made.1 h).2 t ht)
end Yt
namespace Yt
open Go Go.Vc Go.Proofs
set_option maxRecDepth 10000
set_option maxHeartbeats 4000000
set_option linter.unusedSimpArgs false
set_option linter.unusedVariables false
def rowIs (r : List V) (t : It) : Bool := decide (cmpR t.row r = 0)
def Stb (z y : List It) : Prop := ∀ r, y.filter (rowIs r) = z.filter (rowIs r)
theorem stb_right {x y : It} {o a b : List It} (h : ¬ cI x y ≤ 0) (hs : Srt (x :: a)) (r : List V) : ((o ++ [y]) ++ x :: a ++ b).filter (rowIs r) = (o ++ x :: a ++ y :: b).filter (rowIs r) := by
  have hxa : ∀ u ∈ x :: a, ¬ cI u y ≤ 0 := fun u hu => by
    rcases List.mem_cons.1 hu with rfl | hu
    · exact h
    · intro h2
      exact h (cI_le_trans ((List.pairwise_cons.1 hs).1 u hu) h2)
  generalize hL : x :: a = L at *
  by_cases e : rowIs r y = true
  · have e2 : L.filter (rowIs r) = [] := by
      rw [List.filter_eq_nil_iff]
      intro u hu h2
      simp only [rowIs, decide_eq_true_eq] at e h2
      have : u.row = y.row := (lin_cmpR.eq _ _ h2).trans (lin_cmpR.eq _ _ e).symm
      exact hxa u hu (by rw [cI_eq.2 this]; exact Int.le_refl 0)
    simp [List.filter_append, e2, List.filter_cons, e]
  · simp [List.filter_append, List.filter_cons, e]
theorem st54 : ∀ (n : Nat) (z : List It), z.length ≤ n → z.length ≤ 1048576 → (∀ t ∈ z, t.row.length < 4611686018427387904) → Spec0 Try.prog 112 [setA z] (fun r => ∃ y, r = setA y ∧ y.Perm z ∧ Srt y ∧ Stb z y) := by
  intro n
  induction n with
  | zero =>
    intro z hz hl hr
    have : z = [] := List.eq_nil_of_length_eq_zero (by omega)
    subst this
    refine spec0_of_vc tabOk elems ord112 Try.func112 rfl (rl := [.tmp 2]) rfl (by kernel_rfl) rfl ?_
    (simp -implicitDefEqProofs only [go_sem, setA]; repeat (refine GO ?_; simp -implicitDefEqProofs only [go_sem, setA]))
    refine VIF.split (fun _ => ?_) (fun h => absurd h (by decide))
    (simp -implicitDefEqProofs only [go_sem, setA]; repeat (refine GO ?_; simp -implicitDefEqProofs only [go_sem, setA]))
    exact ⟨[], rfl, .refl _, .nil, fun _ => rfl⟩
  | succ n ih =>
    intro z hz hl hr
    refine spec0_of_vc tabOk elems ord112 Try.func112 rfl (rl := [.tmp 2]) rfl (by kernel_rfl) rfl ?_
    (simp -implicitDefEqProofs only [go_sem, setA]; repeat (refine GO ?_; simp -implicitDefEqProofs only [go_sem, setA]))
    refine VIF.split (fun h => ?_) (fun h => ?_)
    · have h : z.length < 2 := by simp at h; omega
      (simp -implicitDefEqProofs only [go_sem, setA]; repeat (refine GO ?_; simp -implicitDefEqProofs only [go_sem, setA]))
      refine ⟨z, rfl, .refl _, ?_, fun _ => rfl⟩
      match z, h with
      | [], _ => exact .nil
      | [x], _ => exact List.pairwise_singleton _ _
    · have h : 2 ≤ z.length := by simp at h; omega
      have w1 : (z.length : Int).tdiv 2 = ((z.length / 2 : Nat) : Int) := by
        rw [Int.tdiv_eq_ediv_of_nonneg (by omega)]; rfl
      have w2 : IntKind.i64.wrap ((z.length / 2 : Nat) : Int) = ((z.length / 2 : Nat) : Int) := by rw [wrap_i64] <;> omega
      have i0 : Int.toNat 0 = 0 := rfl
      have m1 : (z.map It.c).take (z.length / 2) = (z.take (z.length / 2)).map It.c := List.map_take.symm
      have m2 : ((z.map It.c).take z.length).drop (z.length / 2) = (z.drop (z.length / 2)).map It.c := by
        rw [List.take_of_length_le (by simp), List.map_drop]
      have m3 : (z.map It.c).drop (z.length / 2) = (z.drop (z.length / 2)).map It.c := List.map_drop.symm
      (simp -implicitDefEqProofs only [go_sem, w1, w2, i0, m1, m2, m3]; repeat (refine GO ?_; simp -implicitDefEqProofs only [go_sem, w1, w2, i0, m1, m2, m3]))
      refine ⟨by decide, by omega, by decide, by omega, ?_⟩
      refine .pure _ (ih (z.take (z.length / 2)) (by rw [List.length_take]; omega) (by rw [List.length_take]; omega) (fun t ht => hr t (List.mem_of_mem_take ht))) rfl fun q hq _ => ?_
      obtain ⟨a, rfl, pa, sa, sta⟩ := hq
      (simp -implicitDefEqProofs only [go_sem, w1, w2, i0, m1, m2, m3]; repeat (refine GO ?_; simp -implicitDefEqProofs only [go_sem, w1, w2, i0, m1, m2, m3]))
      refine .pure _ (ih (z.drop (z.length / 2)) (by rw [List.length_drop]; omega) (by rw [List.length_drop]; omega) (fun t ht => hr t (List.mem_of_mem_drop ht))) rfl fun q hq _ => ?_
      obtain ⟨b, rfl, pb, sb, stb⟩ := hq
      have start : Mg z [] a b := ⟨by
        rw [List.nil_append]
        exact (pa.append pb).trans (by rw [List.take_append_drop]), .nil, sa, sb, by simp, by simp⟩
      have start2 : Stb z ([] ++ a ++ b) := fun r => by
        rw [List.nil_append, List.filter_append, sta r, stb r, ← List.filter_append, List.take_append_drop]
      (simp -implicitDefEqProofs only [go_sem]; repeat (refine GO ?_; simp -implicitDefEqProofs only [go_sem]))
      refine LOOP.join (ι := { p : List It × List It × List It // (Mg z p.1 p.2.1 p.2.2 ∧ Stb z (p.1 ++ p.2.1 ++ p.2.2)) ∧ (p.2.1 = [] ∨ p.2.2 = []) }) (fun p => mkS [(3, setA p.1.2.1), (4, setA p.1.2.2), (5, .rf 1000 0 p.1.1.length)] [(1000, so p.1.1)] [1000]) ?_ (fun p => ?_)
      · refine LOOP.mk (ι := { p : List It × List It × List It // Mg z p.1 p.2.1 p.2.2 ∧ Stb z (p.1 ++ p.2.1 ++ p.2.2) }) (fun p => mkS [(3, setA p.1.2.1), (4, setA p.1.2.2), (5, .rf 1000 0 p.1.1.length)] [(1000, so p.1.1)] [1000])
          (fun p => p.1.2.1.length + p.1.2.2.length) ⟨([], a, b), start, start2⟩ [(1000, none)] rfl rfl ?_ (fun p => ?_)
        · (simp -implicitDefEqProofs only [go_sem, so, setA]; repeat (refine GO ?_; simp -implicitDefEqProofs only [go_sem, so, setA]))
          exact ⟨id, rfl⟩
        · obtain ⟨⟨o, a, b⟩, mg, ms⟩ := p
          simp only at mg ms
          have hlen : o.length + a.length + b.length = z.length := by have := mg.perm.length_eq; simp only [List.length_append] at this; exact this
          have hra : ∀ t ∈ a, t.row.length < 4611686018427387904 := fun t ht => hr t (mg.perm.mem_iff.1 (by simp [ht]))
          have hrb : ∀ t ∈ b, t.row.length < 4611686018427387904 := fun t ht => hr t (mg.perm.mem_iff.1 (by simp [ht]))
          (simp -implicitDefEqProofs only [go_sem, so, setA]; repeat (refine GO ?_; simp -implicitDefEqProofs only [go_sem, so, setA]))
          refine VIF.split (fun h1 => ?_) (fun h1 => ?_)
          · (simp -implicitDefEqProofs only [go_sem]; repeat (refine GO ?_; simp -implicitDefEqProofs only [go_sem]))
            refine VIF.split (fun h2 => ?_) (fun h2 => ?_)
            · match a, b, mg, ms, hra, hrb, hlen, h1, h2 with
              | [], _, _, _, _, _, _, h1, _ => simp at h1
              | _ :: _, [], _, _, _, _, _, _, h2 => simp at h2
              | x :: a, y :: b, mg, ms, hra, hrb, hlen, _, _ =>
                simp only [List.length_cons] at hlen
                (simp -implicitDefEqProofs only [go_sem]; repeat (refine GO ?_; simp -implicitDefEqProofs only [go_sem]))
                refine ⟨by omega, EL.map (show Int.toNat 0 < (x :: a).length by simp) ?_⟩
                (simp -implicitDefEqProofs only [go_sem, It.c]; repeat (refine GO ?_; simp -implicitDefEqProofs only [go_sem, It.c]))
                refine ⟨by omega, EL.map (show Int.toNat 0 < (y :: b).length by simp) ?_⟩
                (simp -implicitDefEqProofs only [go_sem, It.c]; repeat (refine GO ?_; simp -implicitDefEqProofs only [go_sem, It.c]))
                refine .pure _ (s55 x.row y.row (hra x (by simp)) (hrb y (by simp))) rfl fun q hq _ => ?_
                subst hq
                (simp -implicitDefEqProofs only [go_sem, iA]; repeat (refine GO ?_; simp -implicitDefEqProofs only [go_sem, iA]))
                refine VIF.split (fun h3 => ?_) (fun h3 => ?_)
                · have h3 : cI x y ≤ 0 := by simpa [cI] using h3
                  have mg2 := mg.left fun v hv => by
                    rcases List.mem_cons.1 hv with rfl | hv
                    · exact h3
                    · exact cI_le_trans h3 ((List.pairwise_cons.1 mg.sb).1 v hv)
                  (simp -implicitDefEqProofs only [go_sem]; repeat (refine GO ?_; simp -implicitDefEqProofs only [go_sem]))
                  refine ⟨by omega, EL.map (show Int.toNat 0 < (x :: a).length by simp) ?_⟩
                  (simp -implicitDefEqProofs only [go_sem, It.c]; repeat (refine GO ?_; simp -implicitDefEqProofs only [go_sem, It.c]))
                  refine ⟨by omega, by omega, ?_⟩
                  have e1 : (List.map It.c o).take o.length ++ [It.c x] = List.map It.c (o ++ [x]) := by
                    rw [List.take_of_length_le (by simp), List.map_append]; rfl
                  have e2 : List.drop 1 (List.take (a.length + 1) (List.map It.c (x :: a))) = List.map It.c a := by
                    rw [List.take_of_length_le (by simp)]; rfl
                  refine BACK.mk ⟨(o ++ [x], a, y :: b), mg2, fun r => by have := ms r; simpa using this⟩ [(1000, some 45)] rfl rfl (by show a.length + (y :: b).length < (x :: a).length + (y :: b).length; simp) ?_
                  (simp -implicitDefEqProofs only [go_sem, so, setA]; repeat (refine GO ?_; simp -implicitDefEqProofs only [go_sem, so, setA]))
                  exact ⟨id, ⟨e2, by simp⟩, so_snoc (t := x) rfl⟩
                · have h3 : ¬ cI x y ≤ 0 := by simp at h3; simp only [cI]; omega
                  have h3n := h3
                  have h3 := cI_tot h3
                  have mg2 := (mg.swap.left fun v hv => by
                    rcases List.mem_cons.1 hv with rfl | hv
                    · exact h3
                    · exact cI_le_trans h3 ((List.pairwise_cons.1 mg.sa).1 v hv)).swap
                  (simp -implicitDefEqProofs only [go_sem]; repeat (refine GO ?_; simp -implicitDefEqProofs only [go_sem]))
                  refine ⟨by omega, EL.map (show Int.toNat 0 < (y :: b).length by simp) ?_⟩
                  (simp -implicitDefEqProofs only [go_sem, It.c]; repeat (refine GO ?_; simp -implicitDefEqProofs only [go_sem, It.c]))
                  refine ⟨by omega, by omega, ?_⟩
                  have e1 : (List.map It.c o).take o.length ++ [It.c y] = List.map It.c (o ++ [y]) := by
                    rw [List.take_of_length_le (by simp), List.map_append]; rfl
                  have e2 : List.drop 1 (List.take (b.length + 1) (List.map It.c (y :: b))) = List.map It.c b := by
                    rw [List.take_of_length_le (by simp)]; rfl
                  refine BACK.mk ⟨(o ++ [y], x :: a, b), mg2, fun r => (stb_right h3n mg.sa r).trans (ms r)⟩ [(1000, some 53)] rfl rfl (by show (x :: a).length + b.length < (x :: a).length + (y :: b).length; simp) ?_
                  (simp -implicitDefEqProofs only [go_sem, so, setA]; repeat (refine GO ?_; simp -implicitDefEqProofs only [go_sem, so, setA]))
                  exact ⟨id, ⟨e2, by simp⟩, so_snoc (t := y) rfl⟩
            · have h2 : b = [] := by simpa using h2
              subst h2
              (simp -implicitDefEqProofs only [go_sem]; repeat (refine GO ?_; simp -implicitDefEqProofs only [go_sem]))
              refine JB.mk ⟨(o, a, []), ⟨mg, ms⟩, .inr rfl⟩ [(1000, some 1000)] rfl rfl ?_
              (simp -implicitDefEqProofs only [go_sem, so, setA]; repeat (refine GO ?_; simp -implicitDefEqProofs only [go_sem, so, setA]))
              exact ⟨id, .same (so o) _ _ (so_leafy o) rfl⟩
          · have h1 : a = [] := by simpa using h1
            subst h1
            (simp -implicitDefEqProofs only [go_sem]; repeat (refine GO ?_; simp -implicitDefEqProofs only [go_sem]))
            refine JB.mk ⟨(o, [], b), ⟨mg, ms⟩, .inl rfl⟩ [(1000, some 1000)] rfl rfl ?_
            (simp -implicitDefEqProofs only [go_sem, so, setA]; repeat (refine GO ?_; simp -implicitDefEqProofs only [go_sem, so, setA]))
            exact ⟨id, .same (so o) _ _ (so_leafy o) rfl⟩
      · obtain ⟨⟨o, a, b⟩, ⟨mg, ms⟩, hn⟩ := p
        simp only at mg ms hn
        have hlen : o.length + a.length + b.length = z.length := by have := mg.perm.length_eq; simp only [List.length_append] at this; exact this
        obtain ⟨hp, hs⟩ := mg.done hn
        simp -implicitDefEqProofs only [go_sem, so, setA]
        refine GO ?_
        simp -implicitDefEqProofs only [go_sem, so, setA]
        refine ⟨by omega, by omega, ?_⟩
        have e1 : List.take (o.length + a.length) (List.map It.c o ++ List.map It.c a) ++ List.map It.c b = List.map It.c (o ++ a ++ b) := by
          rw [← List.map_append, List.take_of_length_le (by simp), ← List.map_append]
        refine TO [] [(2, setA (o ++ a ++ b))] [] [] rfl ?_ ?_
        · (simp -implicitDefEqProofs only [go_sem, setA]; repeat (refine GO ?_; simp -implicitDefEqProofs only [go_sem, setA]))
          refine ⟨id, by decide, _, rfl, ?_, rfl, ?_⟩
          · rw [e1]; exact so_leafy (o ++ a ++ b)
          · rw [e1]; exact List.take_of_length_le (by simp; omega)
        (simp -implicitDefEqProofs only [go_sem, setA]; repeat (refine GO ?_; simp -implicitDefEqProofs only [go_sem, setA]))
        exact ⟨o ++ a ++ b, rfl, hp, hs, ms⟩
end Yt
namespace Yt
open Go Go.Vc Go.Proofs
set_option maxRecDepth 10000
set_option maxHeartbeats 16000000
set_option linter.unusedSimpArgs false
set_option linter.unusedVariables false
theorem c124 (n : Int) (h : -9223372036854775807 ≤ n ∧ n ≤ 9223372036854775807) : Spec0 Try.prog 124 [iA n] (· = iA n.natAbs) := by
  refine spec0_of_vc tabOk elems ord124 Try.func124 rfl (rl := [.tmp 2]) rfl (by kernel_rfl) rfl ?_
  have w1 : IntKind.i64.wrap (0 - n) = -n := by rw [wrap_i64] <;> omega
  (simp -implicitDefEqProofs only [go_sem, iA, w1]; repeat (refine GO ?_; simp -implicitDefEqProofs only [go_sem, iA, w1]))
  have e : max n (-n) = n.natAbs := by omega
  rw [e]
def prodOk (a b k : Int) : Bool := inB (a * b) (-k) k
theorem c78 (a b k : Int) (ha : -4611686018427387904 ≤ a ∧ a ≤ 4611686018427387904) (hb : -4611686018427387904 ≤ b ∧ b ≤ 4611686018427387904) (hk : 0 ≤ k ∧ k ≤ 4611686018427387904) :
    Spec0 Try.prog 78 [iA a, iA b, iA k] (· = .tu [iA (if prodOk a b k = true then a * b else 0), bA (prodOk a b k)]) := by
  have z : ∀ c d : Int, c = 0 ∨ d = 0 → AV.tu [.pr (.int .i64 0), .pr (.bool true)] = .tu [iA (if prodOk c d k = true then c * d else 0), bA (prodOk c d k)] := fun c d h => by
    have h0 : c * d = 0 := by rcases h with rfl | rfl <;> simp
    have : prodOk c d k = true := by simp [prodOk, inB, h0]; omega
    rw [this, h0]; rfl
  refine spec0_of_vc tabOk elems ord78 Try.func78 rfl (rl := [.tmp 6, .tmp 7]) rfl (by kernel_rfl) rfl ?_
  (simp -implicitDefEqProofs only [go_sem, iA]; repeat (refine GO ?_; simp -implicitDefEqProofs only [go_sem, iA]))
  refine VIF.split (fun h => ?_) (fun h => ?_)
  · (simp -implicitDefEqProofs only [go_sem]; repeat (refine GO ?_; simp -implicitDefEqProofs only [go_sem]))
    exact ⟨rfl, z a b (.inl (by simpa using h))⟩
  have h1 : a ≠ 0 := by simpa using h
  (simp -implicitDefEqProofs only [go_sem]; repeat (refine GO ?_; simp -implicitDefEqProofs only [go_sem]))
  refine VIF.split (fun h => ?_) (fun h => ?_)
  · (simp -implicitDefEqProofs only [go_sem]; repeat (refine GO ?_; simp -implicitDefEqProofs only [go_sem]))
    exact ⟨rfl, z a b (.inr (by simpa using h))⟩
  have h2 : b ≠ 0 := by simpa using h
  (simp -implicitDefEqProofs only [go_sem]; repeat (refine GO ?_; simp -implicitDefEqProofs only [go_sem]))
  refine .pure _ (c124 a (by omega)) rfl fun r hq _ => ?_
  subst hq
  (simp -implicitDefEqProofs only [go_sem, iA]; repeat (refine GO ?_; simp -implicitDefEqProofs only [go_sem, iA]))
  refine .pure _ (c124 b (by omega)) rfl fun r hq _ => ?_
  subst hq
  have hb0 : 0 < (b.natAbs : Int) := by omega
  have ed : k.tdiv (b.natAbs : Int) = k / b.natAbs := Int.tdiv_eq_ediv_of_nonneg hk.1
  have wq : IntKind.i64.wrap (k / (b.natAbs : Int)) = k / b.natAbs := by
    have h3 := Int.ediv_nonneg hk.1 (Int.le_of_lt hb0)
    have h4 := Int.ediv_le_self (b.natAbs : Int) hk.1
    rw [wrap_i64] <;> omega
  have key : (k / (b.natAbs : Int) < (a.natAbs : Int)) ↔ prodOk a b k = false := by
    have h3 := Int.le_ediv_iff_mul_le (a := (a.natAbs : Int)) (b := k) hb0
    have h4 := natAbs_mul_le a b k.toNat
    have h5 : ((k.toNat : Nat) : Int) = k := by omega
    rw [h5] at h4
    simp only [prodOk, inB, ← Bool.decide_and, decide_eq_false_iff_not]
    rw [← h4, ← h3]; omega
  (simp -implicitDefEqProofs only [go_sem, iA, ed, wq]; repeat (refine GO ?_; simp -implicitDefEqProofs only [go_sem, iA, ed, wq]))
  refine ⟨by omega, ?_⟩
  (simp -implicitDefEqProofs only [go_sem, iA, ed, wq]; repeat (refine GO ?_; simp -implicitDefEqProofs only [go_sem, iA, ed, wq]))
  refine VIF.split (fun h => ?_) (fun h => ?_)
  · have h : prodOk a b k = false := key.1 (by simpa using h)
    (simp -implicitDefEqProofs only [go_sem]; repeat (refine GO ?_; simp -implicitDefEqProofs only [go_sem]))
    rw [h]; exact ⟨rfl, rfl⟩
  · have h : prodOk a b k = true := by
      cases hp : prodOk a b k with
      | true => rfl
      | false => exact absurd (key.2 hp) (by simpa using h)
    have hw : IntKind.i64.wrap (a * b) = a * b := by
      simp [prodOk, inB] at h; rw [wrap_i64] <;> omega
    (simp -implicitDefEqProofs only [go_sem, hw]; repeat (refine GO ?_; simp -implicitDefEqProofs only [go_sem, hw]))
    rw [h]; exact ⟨rfl, rfl⟩
end Yt
namespace Yt
open Go Go.Vc Go.Proofs
set_option maxRecDepth 10000
set_option maxHeartbeats 8000000
set_option linter.unusedSimpArgs false
set_option linter.unusedVariables false
theorem ro3_snoc {st : St} {m : List (Nat × Option Nat)} {l l' : List V} {t : V} (h : l' = l ++ [t]) : Es st m (List.map V.c l ++ [t.c]) (List.map V.c l') := by
  subst h
  rw [List.map_append]
  exact .same (ro3 (l ++ [t])) _ _ (fun x hx => ro3_leafy (l ++ [t]) x (by rw [ro3, List.map_append]; exact hx)) rfl
theorem c97 (r : List V) (cols : List Int) (hr : r.length < 1073741824) (hc : cols.length < 1073741824) :
    Spec0 Try.prog 97 [rowA r, intsL cols] (fun v => ∃ (out : List V) (err : Int), v = .tu [rowA out, iA err] ∧ err = pickE r cols ∧ (err = 0 → out = pickR r cols) ∧ (err ≠ 0 → out = [])) := by
  refine spec0_of_vc tabOk elems ord97 Try.func97 rfl (rl := [.tmp 4, .tmp 5]) rfl (by kernel_rfl) rfl ?_
  have bad : ∀ (e : Int) (s : St), 0 ∉ s.used → s.regs 4 = .nl → s.regs 5 = .pr (.int .i64 e) → e = pickE r cols → e ≠ 0 → GOES (fun st => hRes T st [.tmp 4, .tmp 5] fun v => v.noId = true ∧ ∃ (out : List V) (err : Int), v = .tu [rowA out, iA err] ∧ err = pickE r cols ∧ (err = 0 → out = pickR r cols) ∧ (err ≠ 0 → out = [])) s := by
    intro e s hu h8 h9 he hne
    refine TO [] [(4, rowA []), (5, iA e)] [] [] rfl ?_ ?_
    · (simp -implicitDefEqProofs only [go_sem, rowA, iA, h8, h9]; repeat (refine GO ?_; simp -implicitDefEqProofs only [go_sem, rowA, iA, h8, h9]))
      exact ⟨fun h => absurd h hu, rfl⟩
    (simp -implicitDefEqProofs only [go_sem]; repeat (refine GO ?_; simp -implicitDefEqProofs only [go_sem]))
    exact ⟨rfl, [], e, rfl, he, fun h => absurd h hne, fun _ => rfl⟩
  (simp -implicitDefEqProofs only [go_sem, rowA, intsL]; repeat (refine GO ?_; simp -implicitDefEqProofs only [go_sem, rowA, intsL]))
  refine LOOP.mk (ι := { i : Nat // i ≤ cols.length ∧ ∀ j (h : j < cols.length), j < i → outC r.length cols[j] = false }) (fun p => mkS [(0, rowA r), (1, intsL cols), (6, iA p.1)] [] [])
    (fun p => cols.length - p.1) ⟨0, Nat.zero_le _, fun j _ h => absurd h (Nat.not_lt_zero _)⟩ [] rfl rfl ?_ (fun p => ?_)
  · (simp -implicitDefEqProofs only [go_sem, rowA, intsL, iA]; repeat (refine GO ?_; simp -implicitDefEqProofs only [go_sem, rowA, intsL, iA]))
    exact ⟨id, rfl⟩
  obtain ⟨i, hi, hz⟩ := p
  (simp -implicitDefEqProofs only [go_sem, rowA, intsL, iA]; repeat (refine GO ?_; simp -implicitDefEqProofs only [go_sem, rowA, intsL, iA]))
  refine VIF.split (fun h => ?_) (fun h => ?_)
  · have h : i < cols.length := by simpa using h
    have w1 := wrap_add1 (show i < 4611686018427387904 by omega)
    have w2 : IntKind.i64.wrap ((r.length : Int) - 1) = (r.length : Int) - 1 := by rw [wrap_i64] <;> omega
    (simp -implicitDefEqProofs only [go_sem]; repeat (refine GO ?_; simp -implicitDefEqProofs only [go_sem]))
    refine EL.map h ?_
    (simp -implicitDefEqProofs only [go_sem, iA, w2]; repeat (refine GO ?_; simp -implicitDefEqProofs only [go_sem, iA, w2]))
    refine .pure _ (s64 cols[i] 0 ((r.length : Int) - 1)) rfl fun q hq _ => ?_
    subst hq
    (simp -implicitDefEqProofs only [go_sem, bA]; repeat (refine GO ?_; simp -implicitDefEqProofs only [go_sem, bA]))
    refine VIF.split (fun h2 => ?_) (fun h2 => ?_)
    · have ho : outC r.length cols[i] = true := by simp [inB] at h2; simp [outC]; omega
      have he : pickE r cols = 1 := by
        rw [pickE, if_pos (List.any_eq_true.2 ⟨_, List.getElem_mem h, ho⟩)]
      simp -implicitDefEqProofs only [go_sem]
      exact bad 1 _ (by simp) rfl rfl he.symm (by decide)
    · have ho : outC r.length cols[i] = false := by simp [inB] at h2; simp [outC]; omega
      (simp -implicitDefEqProofs only [go_sem, w1]; repeat (refine GO ?_; simp -implicitDefEqProofs only [go_sem, w1]))
      refine BACK.mk ⟨i + 1, by omega, fun j hj hji => if e : j = i then (by subst e; exact ho) else hz j hj (by omega)⟩ [] rfl rfl (by show cols.length - (i + 1) < cols.length - i; omega) ?_
      (simp -implicitDefEqProofs only [go_sem, rowA, intsL, iA, w1]; repeat (refine GO ?_; simp -implicitDefEqProofs only [go_sem, rowA, intsL, iA, w1]))
      exact id
  · have h : i = cols.length := by simp at h; omega
    subst h
    have hany : cols.any (outC r.length) = false := by
      rw [List.any_eq_false]; intro c hc2
      obtain ⟨j, hj, rfl⟩ := List.mem_iff_getElem.1 hc2
      simp [hz j hj hj]
    (simp -implicitDefEqProofs only [go_sem]; repeat (refine GO ?_; simp -implicitDefEqProofs only [go_sem]))
    refine VIF.split (fun h2 => ?_) (fun h2 => ?_)
    · have h2 : 12 < cols.length := by simp at h2; omega
      have he : pickE r cols = 2 := by rw [pickE, hany, if_neg (by decide), if_pos h2]
      simp -implicitDefEqProofs only [go_sem]
      exact bad 2 _ (by simp) rfl rfl he.symm (by decide)
    have h2 : ¬ 12 < cols.length := by simp at h2; omega
    have he : pickE r cols = 0 := by rw [pickE, hany, if_neg (by decide), if_neg h2]
    (simp -implicitDefEqProofs only [go_sem]; repeat (refine GO ?_; simp -implicitDefEqProofs only [go_sem]))
    refine LOOP.mk (ι := { i : Nat // i ≤ cols.length }) (fun p => mkS [(0, rowA r), (1, intsL cols), (7, .rf 1000 0 (pickR r (cols.take p.1)).length), (8, iA p.1)] [(1000, ro3 (pickR r (cols.take p.1)))] [1000])
      (fun p => cols.length - p.1) ⟨0, Nat.zero_le _⟩ [(1000, none)] rfl rfl ?_ (fun p => ?_)
    · (simp -implicitDefEqProofs only [go_sem, rowA, intsL, iA, ro3]; repeat (refine GO ?_; simp -implicitDefEqProofs only [go_sem, rowA, intsL, iA, ro3]))
      exact ⟨id, ⟨rfl, rfl⟩, rfl⟩
    obtain ⟨i, hi⟩ := p
    have hlp : (pickR r (cols.take i)).length = i := by simp [pickR]; omega
    (simp -implicitDefEqProofs only [go_sem, rowA, intsL, iA, ro3]; repeat (refine GO ?_; simp -implicitDefEqProofs only [go_sem, rowA, intsL, iA, ro3]))
    refine VIF.split (fun h3 => ?_) (fun h3 => ?_)
    · have h3 : i < cols.length := by simpa using h3
      have w1 := wrap_add1 (show i < 4611686018427387904 by omega)
      have hin := hz i h3 h3
      have hin : 0 ≤ cols[i] ∧ cols[i].toNat < r.length := by simp [outC] at hin; omega
      have hgv : getV r cols[i] = r[cols[i].toNat] := by simp [getV, hin.2]
      (simp -implicitDefEqProofs only [go_sem]; repeat (refine GO ?_; simp -implicitDefEqProofs only [go_sem]))
      refine EL.map h3 ?_
      (simp -implicitDefEqProofs only [go_sem, iA]; repeat (refine GO ?_; simp -implicitDefEqProofs only [go_sem, iA]))
      refine ⟨hin.1, EL.map hin.2 ?_⟩
      (simp -implicitDefEqProofs only [go_sem, tk3, c_len, w1]; repeat (refine GO ?_; simp -implicitDefEqProofs only [go_sem, tk3, c_len, w1]))
      refine ⟨by omega, ?_⟩
      (simp -implicitDefEqProofs only [go_sem, tk3, c_len, w1]; repeat (refine GO ?_; simp -implicitDefEqProofs only [go_sem, tk3, c_len, w1]))
      refine BACK.mk ⟨i + 1, by omega⟩ [(1000, some 42)] rfl rfl (by show cols.length - (i + 1) < cols.length - i; omega) ?_
      have hs : pickR r (cols.take (i + 1)) = pickR r (cols.take i) ++ [r[cols[i].toNat]] := by
        rw [List.take_succ_eq_append_getElem h3, pickR, List.map_append, ← hgv]; rfl
      (simp -implicitDefEqProofs only [go_sem, rowA, intsL, iA, ro3, w1, hs]; repeat (refine GO ?_; simp -implicitDefEqProofs only [go_sem, rowA, intsL, iA, ro3, w1, hs]))
      exact ⟨id, by simp, ro3_snoc rfl⟩
    · have h3 : i = cols.length := by simp at h3; omega
      subst h3
      rw [List.take_length]
      simp -implicitDefEqProofs only [go_sem]
      refine FRZ 1000 (ro3 (pickR r cols)) rfl (ro3_leafy _) ?_
      (simp -implicitDefEqProofs only [go_sem, ro3]; repeat (refine GO ?_; simp -implicitDefEqProofs only [go_sem, ro3]))
      exact ⟨rfl, pickR r cols, 0, rfl, he.symm, fun _ => rfl, fun h => absurd rfl h⟩
theorem c113 (l : List It) (kind col : Int) (hk : 1 ≤ kind ∧ kind ≤ 4) (hl : l.length < 4611686018427387904)
    (hw : ∀ t ∈ l, -72057594037927936 ≤ t.w ∧ t.w ≤ 72057594037927936) (hv : ∀ t ∈ l, ∀ v ∈ t.row, -4611686018427387904 ≤ v.i ∧ v.i ≤ 4611686018427387904) (hc : kind ≠ 1 → ∀ t ∈ l, inC col t.row.length = true) (k : List V) :
    Spec0 Try.prog 113 [setA l, iA kind, iA col] (· = .tu [.ag ((gval kind col ⟨k, l⟩).getD V.zero).c, bA (gval kind col ⟨k, l⟩).isSome]) := by
  refine spec0_of_vc tabOk elems ord113 Try.func113 rfl (rl := [.cell 6 25, .tmp 7]) rfl (by kernel_rfl) rfl ?_
  (simp -implicitDefEqProofs only [go_sem, setA, iA]; repeat (refine GO ?_; simp -implicitDefEqProofs only [go_sem, setA, iA]))
  refine LOOP.mk (ι := { p : Nat × Int × V // p.1 ≤ l.length ∧ (kind = 1 ∨ kind = 2 → sumF kind col l 0 = sumF kind col (l.drop p.1) p.2.1) ∧ (kind = 3 ∨ kind = 4 → bestF kind col l V.nul = bestF kind col (l.drop p.1) p.2.2) ∧ inVal p.2.1 = true })
    (fun p => mkS [(0, setA l), (1, iA kind), (2, iA col), (6, .pt 1001 0 0), (8, iA p.1.2.1), (9, .pt 1000 0 0), (10, iA p.1.1)] [(1000, ⟨3, [p.1.2.2.c]⟩), (1001, ⟨3, [V.zero.c]⟩)] [1000, 1001])
    (fun p => l.length - p.1.1) ⟨(0, 0, V.nul), Nat.zero_le _, fun _ => rfl, fun _ => rfl, by decide⟩ [(1000, some 9), (1001, some 6)] rfl rfl ?_ (fun p => ?_)
  · (simp -implicitDefEqProofs only [go_sem, setA, iA, V.c, V.zero, V.nul]; repeat (refine GO ?_; simp -implicitDefEqProofs only [go_sem, setA, iA, V.c, V.zero, V.nul]))
    exact ⟨id, rfl, .same ⟨3, [V.nul.c]⟩ _ _ (leafV V.nul) rfl, .same ⟨3, [V.zero.c]⟩ _ _ leaf1 rfl⟩
  obtain ⟨⟨i, n, o⟩, hi, hs, hb, hn⟩ := p
  simp only at hi hs hb hn
  (simp -implicitDefEqProofs only [go_sem, setA, iA, V.c, V.zero]; repeat (refine GO ?_; simp -implicitDefEqProofs only [go_sem, setA, iA, V.c, V.zero]))
  refine VIF.split (fun h => ?_) (fun h => ?_)
  · have h : i < l.length := by simpa using h
    have hm := List.getElem_mem h
    have w1 := wrap_add1 (show i < 4611686018427387904 by omega)
    (simp -implicitDefEqProofs only [go_sem]; repeat (refine GO ?_; simp -implicitDefEqProofs only [go_sem]))
    refine EL.map h ?_
    (simp -implicitDefEqProofs only [go_sem, It.c, iA]; repeat (refine GO ?_; simp -implicitDefEqProofs only [go_sem, It.c, iA]))
    refine VIF.split (fun h1 => ?_) (fun h1 => ?_)
    · have h1 : kind ≠ 1 := by simpa using h1
      have hin := hc h1 _ hm
      have hin' : 0 ≤ col ∧ col.toNat < l[i].row.length := by simp [inC] at hin; omega
      have hgv : getV l[i].row col = l[i].row[col.toNat] := by simp [getV, hin'.2]
      (simp -implicitDefEqProofs only [go_sem]; repeat (refine GO ?_; simp -implicitDefEqProofs only [go_sem]))
      refine EL.map h ?_
      (simp -implicitDefEqProofs only [go_sem, It.c, iA, rowA]; repeat (refine GO ?_; simp -implicitDefEqProofs only [go_sem, It.c, iA, rowA]))
      refine ⟨hin'.1, EL.map hin'.2 ?_⟩
      (simp -implicitDefEqProofs only [go_sem, V.c]; repeat (refine GO ?_; simp -implicitDefEqProofs only [go_sem, V.c]))
      obtain ⟨x, hx⟩ : ∃ x, x = l[i].row[col.toNat] := ⟨_, rfl⟩
      rw [← hx] at hgv ⊢
      have hvx : -4611686018427387904 ≤ x.i ∧ x.i ≤ 4611686018427387904 := by rw [hx]; exact hv _ hm _ (List.getElem_mem hin'.2)
      have hwx := hw _ hm
      have hst : bestF kind col (l.drop i) o = if x.k = 1 then bestF kind col (l.drop (i + 1)) o else
        if o.k = 1 ∨ (kind = 3 ∧ cmpV x o < 0) ∨ (kind = 4 ∧ 0 < cmpV x o) then bestF kind col (l.drop (i + 1)) x else bestF kind col (l.drop (i + 1)) o := by
        rw [List.drop_eq_getElem_cons h, ← hgv]; rfl
      have hss : sumF kind col (l.drop i) n = if kind = 2 ∧ x.k ≠ 3 then sumF kind col (l.drop (i + 1)) n else
          if (inVal (l[i].w * (if kind = 2 then x.i else 1)) && inVal (n + l[i].w * (if kind = 2 then x.i else 1))) = true then sumF kind col (l.drop (i + 1)) (n + l[i].w * (if kind = 2 then x.i else 1)) else none := by
        rw [List.drop_eq_getElem_cons h, ← hgv]; rfl
      rcases (show kind = 2 ∨ kind = 3 ∨ kind = 4 by omega) with hk2 | hk2 | hk2
      · subst hk2
        have zer : sumF 2 col l 0 = none → gval 2 col ⟨k, l⟩ = none := fun hn => by
          rw [gval, if_pos (.inr rfl)]; show (sumF 2 col l 0).map _ = none; rw [hn]; rfl
        have none_of : prodOk l[i].w x.i 1152921504606846976 = false → x.k = 3 → sumF 2 col l 0 = none := fun g1 h3 => by
          rw [hs (.inr rfl), hss, if_neg (fun h => h.2 h3), if_pos rfl, show inVal (l[i].w * x.i) = false from g1]; rfl
        have none_of2 : prodOk l[i].w x.i 1152921504606846976 = true → inVal (n + l[i].w * x.i) = false → x.k = 3 → sumF 2 col l 0 = none := fun g1 g3 h3 => by
          rw [hs (.inr rfl), hss, if_neg (fun h => h.2 h3), if_pos rfl, g3, Bool.and_false]; rfl
        have some_of : prodOk l[i].w x.i 1152921504606846976 = true → inVal (n + l[i].w * x.i) = true → x.k = 3 → sumF 2 col l 0 = sumF 2 col (l.drop (i + 1)) (n + l[i].w * x.i) := fun g1 g3 h3 => by
          rw [hs (.inr rfl), hss, if_neg (fun h => h.2 h3), if_pos rfl, g3, show inVal (l[i].w * x.i) = true from g1, Bool.and_true, if_pos rfl]
        have skip_of : x.k ≠ 3 → sumF 2 col l 0 = sumF 2 col (l.drop (i + 1)) n := fun h3 => by
          rw [hs (.inr rfl), hss, if_pos ⟨rfl, h3⟩]
        have hn2 : -1152921504606846976 ≤ n ∧ n ≤ 1152921504606846976 := by simpa [inVal, inB] using hn
        refine VIF.split (fun q1 => ?_) (fun q1 => ?_)
        · have q1 : x.k ≠ 1 := by simpa using q1
          (simp -implicitDefEqProofs only [go_sem, V.c]; repeat (refine GO ?_; simp -implicitDefEqProofs only [go_sem, V.c]))
          refine VIF.split (fun q2 => ?_) (fun q2 => ?_)
          · have q2 : o.k = 1 := by simpa using q2
            (simp -implicitDefEqProofs only [go_sem, V.c]; repeat (refine GO ?_; simp -implicitDefEqProofs only [go_sem, V.c]))
            refine VIF.ff (by decide) ?_
            (simp -implicitDefEqProofs only [go_sem, V.c]; repeat (refine GO ?_; simp -implicitDefEqProofs only [go_sem, V.c]))
            refine VIF.split (fun q4 => ?_) (fun q4 => ?_)
            · have q4 : x.k ≠ 3 := by simpa using q4
              (simp -implicitDefEqProofs only [go_sem, w1]; repeat (refine GO ?_; simp -implicitDefEqProofs only [go_sem, w1]))
              refine BACK.mk ⟨(i + 1, n, x), by simp only; omega, fun _ => skip_of q4, fun h => by omega, hn⟩ [(1000, some 1000), (1001, some 1001)] rfl rfl (by show l.length - (i + 1) < l.length - i; omega) ?_
              (simp -implicitDefEqProofs only [go_sem, setA, iA, w1, V.c, V.zero]; repeat (refine GO ?_; simp -implicitDefEqProofs only [go_sem, setA, iA, w1, V.c, V.zero]))
              exact ⟨id, .same ⟨3, [x.c]⟩ _ _ (leafV x) rfl, .same ⟨3, [V.zero.c]⟩ _ _ leaf1 rfl⟩
            · have q4 : x.k = 3 := by simpa using q4
              (simp -implicitDefEqProofs only [go_sem]; repeat (refine GO ?_; simp -implicitDefEqProofs only [go_sem]))
              refine .pure _ (show Spec0 Try.prog 78 [iA l[i].w, iA x.i, iA 1152921504606846976] _ from c78 l[i].w x.i 1152921504606846976 (by omega) hvx (by decide)) rfl fun q hq _ => ?_
              subst hq
              (simp -implicitDefEqProofs only [go_sem, iA, bA]; repeat (refine GO ?_; simp -implicitDefEqProofs only [go_sem, iA, bA]))
              refine VIF.split (fun g1 => ?_) (fun g1 => ?_)
              · have g1 : prodOk l[i].w x.i 1152921504606846976 = false := by simpa using g1
                (simp -implicitDefEqProofs only [go_sem, V.c, V.zero]; repeat (refine GO ?_; simp -implicitDefEqProofs only [go_sem, V.c, V.zero]))
                rw [zer (none_of g1 q4)]
                exact ⟨rfl, rfl⟩
              have g1 : prodOk l[i].w x.i 1152921504606846976 = true := by simpa using g1
              have g2 : -1152921504606846976 ≤ l[i].w * x.i ∧ l[i].w * x.i ≤ 1152921504606846976 := by simpa [prodOk, inB] using g1
              have w3 : IntKind.i64.wrap (n + l[i].w * x.i) = n + l[i].w * x.i := by rw [wrap_i64] <;> omega
              rw [if_pos g1]
              (simp -implicitDefEqProofs only [go_sem, w3]; repeat (refine GO ?_; simp -implicitDefEqProofs only [go_sem, w3]))
              refine .pure _ (show Spec0 Try.prog 87 [iA (n + l[i].w * x.i), iA (-1152921504606846976), iA 1152921504606846976] _ from s53 (n + l[i].w * x.i) (-1152921504606846976) 1152921504606846976) rfl fun q hq _ => ?_
              subst hq
              (simp -implicitDefEqProofs only [go_sem, bA]; repeat (refine GO ?_; simp -implicitDefEqProofs only [go_sem, bA]))
              refine VIF.split (fun g3 => ?_) (fun g3 => ?_)
              · have g3 : inVal (n + l[i].w * x.i) = false := by simpa [inVal] using g3
                (simp -implicitDefEqProofs only [go_sem, V.c, V.zero]; repeat (refine GO ?_; simp -implicitDefEqProofs only [go_sem, V.c, V.zero]))
                rw [zer (none_of2 g1 g3 q4)]
                exact ⟨rfl, rfl⟩
              have g3 : inVal (n + l[i].w * x.i) = true := by simpa [inVal] using g3
              (simp -implicitDefEqProofs only [go_sem, w1]; repeat (refine GO ?_; simp -implicitDefEqProofs only [go_sem, w1]))
              refine BACK.mk ⟨(i + 1, n + l[i].w * x.i, x), by simp only; omega, fun _ => some_of g1 g3 q4, fun h => by omega, g3⟩ [(1000, some 1000), (1001, some 1001)] rfl rfl (by show l.length - (i + 1) < l.length - i; omega) ?_
              (simp -implicitDefEqProofs only [go_sem, setA, iA, w1, V.c, V.zero]; repeat (refine GO ?_; simp -implicitDefEqProofs only [go_sem, setA, iA, w1, V.c, V.zero]))
              exact ⟨id, .same ⟨3, [x.c]⟩ _ _ (leafV x) rfl, .same ⟨3, [V.zero.c]⟩ _ _ leaf1 rfl⟩
          · have q2 : o.k ≠ 1 := by simpa using q2
            (simp -implicitDefEqProofs only [go_sem, V.c]; repeat (refine GO ?_; simp -implicitDefEqProofs only [go_sem, V.c]))
            refine VIF.ff (by decide) ?_
            (simp -implicitDefEqProofs only [go_sem, V.c]; repeat (refine GO ?_; simp -implicitDefEqProofs only [go_sem, V.c]))
            refine VIF.ff (by decide) ?_
            (simp -implicitDefEqProofs only [go_sem, V.c]; repeat (refine GO ?_; simp -implicitDefEqProofs only [go_sem, V.c]))
            refine VIF.ff (by decide) ?_
            (simp -implicitDefEqProofs only [go_sem, V.c]; repeat (refine GO ?_; simp -implicitDefEqProofs only [go_sem, V.c]))
            refine VIF.split (fun q4 => ?_) (fun q4 => ?_)
            · have q4 : x.k ≠ 3 := by simpa using q4
              (simp -implicitDefEqProofs only [go_sem, w1]; repeat (refine GO ?_; simp -implicitDefEqProofs only [go_sem, w1]))
              refine BACK.mk ⟨(i + 1, n, o), by simp only; omega, fun _ => skip_of q4, fun h => by omega, hn⟩ [(1000, some 1000), (1001, some 1001)] rfl rfl (by show l.length - (i + 1) < l.length - i; omega) ?_
              (simp -implicitDefEqProofs only [go_sem, setA, iA, w1, V.c, V.zero]; repeat (refine GO ?_; simp -implicitDefEqProofs only [go_sem, setA, iA, w1, V.c, V.zero]))
              exact ⟨id, .same ⟨3, [o.c]⟩ _ _ (leafV o) rfl, .same ⟨3, [V.zero.c]⟩ _ _ leaf1 rfl⟩
            · have q4 : x.k = 3 := by simpa using q4
              (simp -implicitDefEqProofs only [go_sem]; repeat (refine GO ?_; simp -implicitDefEqProofs only [go_sem]))
              refine .pure _ (show Spec0 Try.prog 78 [iA l[i].w, iA x.i, iA 1152921504606846976] _ from c78 l[i].w x.i 1152921504606846976 (by omega) hvx (by decide)) rfl fun q hq _ => ?_
              subst hq
              (simp -implicitDefEqProofs only [go_sem, iA, bA]; repeat (refine GO ?_; simp -implicitDefEqProofs only [go_sem, iA, bA]))
              refine VIF.split (fun g1 => ?_) (fun g1 => ?_)
              · have g1 : prodOk l[i].w x.i 1152921504606846976 = false := by simpa using g1
                (simp -implicitDefEqProofs only [go_sem, V.c, V.zero]; repeat (refine GO ?_; simp -implicitDefEqProofs only [go_sem, V.c, V.zero]))
                rw [zer (none_of g1 q4)]
                exact ⟨rfl, rfl⟩
              have g1 : prodOk l[i].w x.i 1152921504606846976 = true := by simpa using g1
              have g2 : -1152921504606846976 ≤ l[i].w * x.i ∧ l[i].w * x.i ≤ 1152921504606846976 := by simpa [prodOk, inB] using g1
              have w3 : IntKind.i64.wrap (n + l[i].w * x.i) = n + l[i].w * x.i := by rw [wrap_i64] <;> omega
              rw [if_pos g1]
              (simp -implicitDefEqProofs only [go_sem, w3]; repeat (refine GO ?_; simp -implicitDefEqProofs only [go_sem, w3]))
              refine .pure _ (show Spec0 Try.prog 87 [iA (n + l[i].w * x.i), iA (-1152921504606846976), iA 1152921504606846976] _ from s53 (n + l[i].w * x.i) (-1152921504606846976) 1152921504606846976) rfl fun q hq _ => ?_
              subst hq
              (simp -implicitDefEqProofs only [go_sem, bA]; repeat (refine GO ?_; simp -implicitDefEqProofs only [go_sem, bA]))
              refine VIF.split (fun g3 => ?_) (fun g3 => ?_)
              · have g3 : inVal (n + l[i].w * x.i) = false := by simpa [inVal] using g3
                (simp -implicitDefEqProofs only [go_sem, V.c, V.zero]; repeat (refine GO ?_; simp -implicitDefEqProofs only [go_sem, V.c, V.zero]))
                rw [zer (none_of2 g1 g3 q4)]
                exact ⟨rfl, rfl⟩
              have g3 : inVal (n + l[i].w * x.i) = true := by simpa [inVal] using g3
              (simp -implicitDefEqProofs only [go_sem, w1]; repeat (refine GO ?_; simp -implicitDefEqProofs only [go_sem, w1]))
              refine BACK.mk ⟨(i + 1, n + l[i].w * x.i, o), by simp only; omega, fun _ => some_of g1 g3 q4, fun h => by omega, g3⟩ [(1000, some 1000), (1001, some 1001)] rfl rfl (by show l.length - (i + 1) < l.length - i; omega) ?_
              (simp -implicitDefEqProofs only [go_sem, setA, iA, w1, V.c, V.zero]; repeat (refine GO ?_; simp -implicitDefEqProofs only [go_sem, setA, iA, w1, V.c, V.zero]))
              exact ⟨id, .same ⟨3, [o.c]⟩ _ _ (leafV o) rfl, .same ⟨3, [V.zero.c]⟩ _ _ leaf1 rfl⟩
        · have q1 : x.k = 1 := by simpa using q1
          (simp -implicitDefEqProofs only [go_sem, V.c]; repeat (refine GO ?_; simp -implicitDefEqProofs only [go_sem, V.c]))
          refine VIF.ff (by decide) ?_
          (simp -implicitDefEqProofs only [go_sem, V.c]; repeat (refine GO ?_; simp -implicitDefEqProofs only [go_sem, V.c]))
          refine VIF.tt (by simp [q1]) ?_
          (simp -implicitDefEqProofs only [go_sem, w1]; repeat (refine GO ?_; simp -implicitDefEqProofs only [go_sem, w1]))
          refine BACK.mk ⟨(i + 1, n, o), by simp only; omega, fun _ => skip_of (by omega), fun h => by omega, hn⟩ [(1000, some 1000), (1001, some 1001)] rfl rfl (by show l.length - (i + 1) < l.length - i; omega) ?_
          (simp -implicitDefEqProofs only [go_sem, setA, iA, w1, V.c, V.zero]; repeat (refine GO ?_; simp -implicitDefEqProofs only [go_sem, setA, iA, w1, V.c, V.zero]))
          exact ⟨id, .same ⟨3, [o.c]⟩ _ _ (leafV o) rfl, .same ⟨3, [V.zero.c]⟩ _ _ leaf1 rfl⟩
      · subst hk2
        refine VIF.split (fun q1 => ?_) (fun q1 => ?_)
        · have q1 : x.k ≠ 1 := by simpa using q1
          rw [if_neg q1] at hst
          (simp -implicitDefEqProofs only [go_sem, V.c]; repeat (refine GO ?_; simp -implicitDefEqProofs only [go_sem, V.c]))
          refine VIF.split (fun q2 => ?_) (fun q2 => ?_)
          · have q2 : o.k = 1 := by simpa using q2
            (simp -implicitDefEqProofs only [go_sem, V.c]; repeat (refine GO ?_; simp -implicitDefEqProofs only [go_sem, V.c]))
            refine VIF.tt (by decide) ?_
            (simp -implicitDefEqProofs only [go_sem, w1]; repeat (refine GO ?_; simp -implicitDefEqProofs only [go_sem, w1]))
            refine BACK.mk ⟨(i + 1, n, x), by simp only; omega, fun h => by omega, fun _ => (hb (by decide)).trans (hst.trans (if_pos (.inl q2))), hn⟩ [(1000, some 1000), (1001, some 1001)] rfl rfl (by show l.length - (i + 1) < l.length - i; omega) ?_
            (simp -implicitDefEqProofs only [go_sem, setA, iA, w1, V.c, V.zero]; repeat (refine GO ?_; simp -implicitDefEqProofs only [go_sem, setA, iA, w1, V.c, V.zero]))
            exact ⟨id, .same ⟨3, [x.c]⟩ _ _ (leafV x) rfl, .same ⟨3, [V.zero.c]⟩ _ _ leaf1 rfl⟩
          · have q2 : o.k ≠ 1 := by simpa using q2
            (simp -implicitDefEqProofs only [go_sem, V.c]; repeat (refine GO ?_; simp -implicitDefEqProofs only [go_sem, V.c]))
            refine VIF.tt rfl ?_
            (simp -implicitDefEqProofs only [go_sem, V.c]; repeat (refine GO ?_; simp -implicitDefEqProofs only [go_sem, V.c]))
            refine .pure _ (show Spec0 Try.prog 68 [.ag x.c, .ag o.c] _ from s66 x o) rfl fun q hq _ => ?_
            subst hq
            (simp -implicitDefEqProofs only [go_sem, V.c, iA]; repeat (refine GO ?_; simp -implicitDefEqProofs only [go_sem, V.c, iA]))
            refine VIF.split (fun q3 => ?_) (fun q3 => ?_)
            · have q3 : cmpV x o < 0 := by simpa using q3
              (simp -implicitDefEqProofs only [go_sem, V.c]; repeat (refine GO ?_; simp -implicitDefEqProofs only [go_sem, V.c]))
              refine VIF.tt (by decide) ?_
              (simp -implicitDefEqProofs only [go_sem, w1]; repeat (refine GO ?_; simp -implicitDefEqProofs only [go_sem, w1]))
              refine BACK.mk ⟨(i + 1, n, x), by simp only; omega, fun h => by omega, fun _ => (hb (by decide)).trans (hst.trans (if_pos (.inr (.inl ⟨rfl, q3⟩)))), hn⟩ [(1000, some 1000), (1001, some 1001)] rfl rfl (by show l.length - (i + 1) < l.length - i; omega) ?_
              (simp -implicitDefEqProofs only [go_sem, setA, iA, w1, V.c, V.zero]; repeat (refine GO ?_; simp -implicitDefEqProofs only [go_sem, setA, iA, w1, V.c, V.zero]))
              exact ⟨id, .same ⟨3, [x.c]⟩ _ _ (leafV x) rfl, .same ⟨3, [V.zero.c]⟩ _ _ leaf1 rfl⟩
            · have q3 : ¬ cmpV x o < 0 := by simpa using q3
              have nb : ¬ (o.k = 1 ∨ (3 = (3 : Int) ∧ cmpV x o < 0) ∨ (3 = (4 : Int) ∧ 0 < cmpV x o)) := by omega
              (simp -implicitDefEqProofs only [go_sem, V.c]; repeat (refine GO ?_; simp -implicitDefEqProofs only [go_sem, V.c]))
              refine VIF.ff (by decide) ?_
              (simp -implicitDefEqProofs only [go_sem, V.c]; repeat (refine GO ?_; simp -implicitDefEqProofs only [go_sem, V.c]))
              refine VIF.tt (by decide) ?_
              (simp -implicitDefEqProofs only [go_sem, w1]; repeat (refine GO ?_; simp -implicitDefEqProofs only [go_sem, w1]))
              refine BACK.mk ⟨(i + 1, n, o), by simp only; omega, fun h => by omega, fun _ => (hb (by decide)).trans (hst.trans (if_neg (fun h => nb h))), hn⟩ [(1000, some 1000), (1001, some 1001)] rfl rfl (by show l.length - (i + 1) < l.length - i; omega) ?_
              (simp -implicitDefEqProofs only [go_sem, setA, iA, w1, V.c, V.zero]; repeat (refine GO ?_; simp -implicitDefEqProofs only [go_sem, setA, iA, w1, V.c, V.zero]))
              exact ⟨id, .same ⟨3, [o.c]⟩ _ _ (leafV o) rfl, .same ⟨3, [V.zero.c]⟩ _ _ leaf1 rfl⟩
        · have q1 : x.k = 1 := by simpa using q1
          rw [if_pos q1] at hst
          (simp -implicitDefEqProofs only [go_sem, V.c]; repeat (refine GO ?_; simp -implicitDefEqProofs only [go_sem, V.c]))
          refine VIF.tt (by decide) ?_
          (simp -implicitDefEqProofs only [go_sem, w1]; repeat (refine GO ?_; simp -implicitDefEqProofs only [go_sem, w1]))
          refine BACK.mk ⟨(i + 1, n, o), by simp only; omega, fun h => by omega, fun _ => (hb (by decide)).trans hst, hn⟩ [(1000, some 1000), (1001, some 1001)] rfl rfl (by show l.length - (i + 1) < l.length - i; omega) ?_
          (simp -implicitDefEqProofs only [go_sem, setA, iA, w1, V.c, V.zero]; repeat (refine GO ?_; simp -implicitDefEqProofs only [go_sem, setA, iA, w1, V.c, V.zero]))
          exact ⟨id, .same ⟨3, [o.c]⟩ _ _ (leafV o) rfl, .same ⟨3, [V.zero.c]⟩ _ _ leaf1 rfl⟩
      · subst hk2
        refine VIF.split (fun q1 => ?_) (fun q1 => ?_)
        · have q1 : x.k ≠ 1 := by simpa using q1
          rw [if_neg q1] at hst
          (simp -implicitDefEqProofs only [go_sem, V.c]; repeat (refine GO ?_; simp -implicitDefEqProofs only [go_sem, V.c]))
          refine VIF.split (fun q2 => ?_) (fun q2 => ?_)
          · have q2 : o.k = 1 := by simpa using q2
            (simp -implicitDefEqProofs only [go_sem, V.c]; repeat (refine GO ?_; simp -implicitDefEqProofs only [go_sem, V.c]))
            refine VIF.tt (by decide) ?_
            (simp -implicitDefEqProofs only [go_sem, w1]; repeat (refine GO ?_; simp -implicitDefEqProofs only [go_sem, w1]))
            refine BACK.mk ⟨(i + 1, n, x), by simp only; omega, fun h => by omega, fun _ => (hb (by decide)).trans (hst.trans (if_pos (.inl q2))), hn⟩ [(1000, some 1000), (1001, some 1001)] rfl rfl (by show l.length - (i + 1) < l.length - i; omega) ?_
            (simp -implicitDefEqProofs only [go_sem, setA, iA, w1, V.c, V.zero]; repeat (refine GO ?_; simp -implicitDefEqProofs only [go_sem, setA, iA, w1, V.c, V.zero]))
            exact ⟨id, .same ⟨3, [x.c]⟩ _ _ (leafV x) rfl, .same ⟨3, [V.zero.c]⟩ _ _ leaf1 rfl⟩
          · have q2 : o.k ≠ 1 := by simpa using q2
            (simp -implicitDefEqProofs only [go_sem, V.c]; repeat (refine GO ?_; simp -implicitDefEqProofs only [go_sem, V.c]))
            refine VIF.ff (by decide) ?_
            (simp -implicitDefEqProofs only [go_sem, V.c]; repeat (refine GO ?_; simp -implicitDefEqProofs only [go_sem, V.c]))
            refine VIF.tt rfl ?_
            (simp -implicitDefEqProofs only [go_sem, V.c]; repeat (refine GO ?_; simp -implicitDefEqProofs only [go_sem, V.c]))
            refine .pure _ (show Spec0 Try.prog 68 [.ag x.c, .ag o.c] _ from s66 x o) rfl fun q hq _ => ?_
            subst hq
            (simp -implicitDefEqProofs only [go_sem, V.c, iA]; repeat (refine GO ?_; simp -implicitDefEqProofs only [go_sem, V.c, iA]))
            refine VIF.split (fun q3 => ?_) (fun q3 => ?_)
            · have q3 : 0 < cmpV x o := by simpa using q3
              (simp -implicitDefEqProofs only [go_sem, V.c]; repeat (refine GO ?_; simp -implicitDefEqProofs only [go_sem, V.c]))
              refine VIF.tt (by decide) ?_
              (simp -implicitDefEqProofs only [go_sem, w1]; repeat (refine GO ?_; simp -implicitDefEqProofs only [go_sem, w1]))
              refine BACK.mk ⟨(i + 1, n, x), by simp only; omega, fun h => by omega, fun _ => (hb (by decide)).trans (hst.trans (if_pos (.inr (.inr ⟨rfl, q3⟩)))), hn⟩ [(1000, some 1000), (1001, some 1001)] rfl rfl (by show l.length - (i + 1) < l.length - i; omega) ?_
              (simp -implicitDefEqProofs only [go_sem, setA, iA, w1, V.c, V.zero]; repeat (refine GO ?_; simp -implicitDefEqProofs only [go_sem, setA, iA, w1, V.c, V.zero]))
              exact ⟨id, .same ⟨3, [x.c]⟩ _ _ (leafV x) rfl, .same ⟨3, [V.zero.c]⟩ _ _ leaf1 rfl⟩
            · have q3 : ¬ 0 < cmpV x o := by simpa using q3
              have nb : ¬ (o.k = 1 ∨ (4 = (3 : Int) ∧ cmpV x o < 0) ∨ (4 = (4 : Int) ∧ 0 < cmpV x o)) := by omega
              (simp -implicitDefEqProofs only [go_sem, V.c]; repeat (refine GO ?_; simp -implicitDefEqProofs only [go_sem, V.c]))
              refine VIF.tt (by decide) ?_
              (simp -implicitDefEqProofs only [go_sem, w1]; repeat (refine GO ?_; simp -implicitDefEqProofs only [go_sem, w1]))
              refine BACK.mk ⟨(i + 1, n, o), by simp only; omega, fun h => by omega, fun _ => (hb (by decide)).trans (hst.trans (if_neg (fun h => nb h))), hn⟩ [(1000, some 1000), (1001, some 1001)] rfl rfl (by show l.length - (i + 1) < l.length - i; omega) ?_
              (simp -implicitDefEqProofs only [go_sem, setA, iA, w1, V.c, V.zero]; repeat (refine GO ?_; simp -implicitDefEqProofs only [go_sem, setA, iA, w1, V.c, V.zero]))
              exact ⟨id, .same ⟨3, [o.c]⟩ _ _ (leafV o) rfl, .same ⟨3, [V.zero.c]⟩ _ _ leaf1 rfl⟩
        · have q1 : x.k = 1 := by simpa using q1
          rw [if_pos q1] at hst
          (simp -implicitDefEqProofs only [go_sem, V.c]; repeat (refine GO ?_; simp -implicitDefEqProofs only [go_sem, V.c]))
          refine VIF.tt (by decide) ?_
          (simp -implicitDefEqProofs only [go_sem, w1]; repeat (refine GO ?_; simp -implicitDefEqProofs only [go_sem, w1]))
          refine BACK.mk ⟨(i + 1, n, o), by simp only; omega, fun h => by omega, fun _ => (hb (by decide)).trans hst, hn⟩ [(1000, some 1000), (1001, some 1001)] rfl rfl (by show l.length - (i + 1) < l.length - i; omega) ?_
          (simp -implicitDefEqProofs only [go_sem, setA, iA, w1, V.c, V.zero]; repeat (refine GO ?_; simp -implicitDefEqProofs only [go_sem, setA, iA, w1, V.c, V.zero]))
          exact ⟨id, .same ⟨3, [o.c]⟩ _ _ (leafV o) rfl, .same ⟨3, [V.zero.c]⟩ _ _ leaf1 rfl⟩
    · have h1 : kind = 1 := by simpa using h1
      subst h1
      have hwx := hw _ hm
      have hn2 : -1152921504606846976 ≤ n ∧ n ≤ 1152921504606846976 := by simpa [inVal, inB] using hn
      have w3 : IntKind.i64.wrap (n + l[i].w) = n + l[i].w := by rw [wrap_i64] <;> omega
      have g1 : inVal l[i].w = true := by simp only [inVal, inB, Bool.and_eq_true, decide_eq_true_eq]; omega
      have hss : sumF 1 col (l.drop i) n = if (inVal (l[i].w * 1) && inVal (n + l[i].w * 1)) = true then sumF 1 col (l.drop (i + 1)) (n + l[i].w * 1) else none := by
        rw [List.drop_eq_getElem_cons h]; rfl
      rw [Int.mul_one, g1, Bool.true_and] at hss
      (simp -implicitDefEqProofs only [go_sem, w3]; repeat (refine GO ?_; simp -implicitDefEqProofs only [go_sem, w3]))
      refine .pure _ (show Spec0 Try.prog 87 [iA (n + l[i].w), iA (-1152921504606846976), iA 1152921504606846976] _ from s53 (n + l[i].w) (-1152921504606846976) 1152921504606846976) rfl fun q hq _ => ?_
      subst hq
      (simp -implicitDefEqProofs only [go_sem, bA]; repeat (refine GO ?_; simp -implicitDefEqProofs only [go_sem, bA]))
      refine VIF.split (fun g3 => ?_) (fun g3 => ?_)
      · have g3 : inVal (n + l[i].w) = false := by simpa [inVal] using g3
        rw [if_neg (by rw [g3]; decide)] at hss
        have e : gval 1 col ⟨k, l⟩ = none := by rw [gval, if_pos (.inl rfl)]; show (sumF 1 col l 0).map _ = none; rw [hs (.inl rfl), hss]; rfl
        (simp -implicitDefEqProofs only [go_sem, V.c, V.zero]; repeat (refine GO ?_; simp -implicitDefEqProofs only [go_sem, V.c, V.zero]))
        rw [e]
        exact ⟨rfl, rfl⟩
      have g3 : inVal (n + l[i].w) = true := by simpa [inVal] using g3
      rw [if_pos g3] at hss
      (simp -implicitDefEqProofs only [go_sem, w1]; repeat (refine GO ?_; simp -implicitDefEqProofs only [go_sem, w1]))
      refine BACK.mk ⟨(i + 1, n + l[i].w, o), by simp only; omega, fun _ => (hs (.inl rfl)).trans hss, fun h => by omega, g3⟩ [(1000, some 1000), (1001, some 1001)] rfl rfl (by show l.length - (i + 1) < l.length - i; omega) ?_
      (simp -implicitDefEqProofs only [go_sem, setA, iA, w1, V.c, V.zero]; repeat (refine GO ?_; simp -implicitDefEqProofs only [go_sem, setA, iA, w1, V.c, V.zero]))
      exact ⟨id, .same ⟨3, [o.c]⟩ _ _ (leafV o) rfl, .same ⟨3, [V.zero.c]⟩ _ _ leaf1 rfl⟩
  · have h : i = l.length := by simp at h; omega
    subst h
    rw [List.drop_length] at hs hb
    (simp -implicitDefEqProofs only [go_sem]; repeat (refine GO ?_; simp -implicitDefEqProofs only [go_sem]))
    refine VIF.split (fun q1 => ?_) (fun q1 => ?_)
    · have q1 : kind = 3 := by simpa using q1
      have e : gval kind col ⟨k, l⟩ = some o := by rw [gval, if_neg (by omega)]; show some (bestF kind col l V.nul) = _; rw [hb (by omega)]; rfl
      (simp -implicitDefEqProofs only [go_sem, V.c, V.zero]; repeat (refine GO ?_; simp -implicitDefEqProofs only [go_sem, V.c, V.zero]))
      rw [e]
      exact ⟨rfl, rfl⟩
    have q1 : kind ≠ 3 := by simpa using q1
    (simp -implicitDefEqProofs only [go_sem]; repeat (refine GO ?_; simp -implicitDefEqProofs only [go_sem]))
    refine VIF.split (fun q2 => ?_) (fun q2 => ?_)
    · have q2 : kind = 4 := by simpa using q2
      have e : gval kind col ⟨k, l⟩ = some o := by rw [gval, if_neg (by omega)]; show some (bestF kind col l V.nul) = _; rw [hb (by omega)]; rfl
      (simp -implicitDefEqProofs only [go_sem, V.c, V.zero]; repeat (refine GO ?_; simp -implicitDefEqProofs only [go_sem, V.c, V.zero]))
      rw [e]
      exact ⟨rfl, rfl⟩
    · have q2 : kind ≠ 4 := by simpa using q2
      have e : gval kind col ⟨k, l⟩ = some ⟨3, n, ByteArray.empty⟩ := by rw [gval, if_pos (by omega)]; show (sumF kind col l 0).map _ = _; rw [hs (by omega)]; rfl
      (simp -implicitDefEqProofs only [go_sem, V.c, V.zero]; repeat (refine GO ?_; simp -implicitDefEqProofs only [go_sem, V.c, V.zero]))
      rw [e]
      exact ⟨rfl, rfl⟩
end Yt
