/- Contracts of the program's functions over abstract values and states, plain facts on which these lean, and the framework of these values over the model: Plain facts of what is projected. From the statement's arguments to those of the walks. The conditions stand in each theorem. -/
import Derived.Test.YtbnbngkbngmndaaBd
import Derived.Test.YtbnbngkbngmndaaBb
import Derived.JoinedCond
import Derived.WalkKit
import Derived.ProofKit
import Derived.Test.YtbnbngkbngmndaaRows
set_option linter.all false
namespace Yt
open Go Go.Vc Go.Proofs
set_option maxRecDepth 10000
set_option maxHeartbeats 8000000
set_option linter.unusedSimpArgs false
set_option linter.unusedVariables false
theorem pick_in {r : List V} {cols : List Int} (h : pickE r cols = 0) : cols.length ≤ 12 ∧ ∀ c ∈ cols, 0 ≤ c ∧ c < r.length := by
  simp only [pickE] at h
  split at h
  · cases h
  · rename_i h1
    split at h
    · cases h
    · refine ⟨by omega, fun c hc => ?_⟩
      have h1 : cols.any (outC r.length) = false := by simpa using h1
      rw [List.any_eq_false] at h1
      have := h1 c hc
      simp [outC] at this
      omega
theorem pick_row {r : List V} {cols : List Int} (h : pickE r cols = 0) (hr : okR r = 0) : okR (pickR r cols) = 0 ∧ (pickR r cols).length ≤ 12 := by
  obtain ⟨h1, h2⟩ := pick_in h
  have hl : (pickR r cols).length = cols.length := by simp [pickR]
  have ha : (pickR r cols).all okV = true := by
    rw [List.all_eq_true]
    intro v hv
    obtain ⟨c, hc, rfl⟩ := List.mem_map.1 hv
    obtain ⟨g1, g2⟩ := h2 c hc
    have hlt : c.toNat < r.length := by omega
    have e : getV r c = r[c.toNat] := by simp [getV, hlt]
    rw [e]
    simp only [okR] at hr
    split at hr
    · cases hr
    · split at hr
      · rename_i h3
        exact List.all_eq_true.1 h3 _ (List.getElem_mem _)
      · cases hr
  refine ⟨?_, by omega⟩
  rw [okR, if_neg (by omega), if_pos ha]
theorem tot_proj (cols : List Int) (z : List It) (r : List V) : tot r (z.map (projI cols)) = sumW (z.filter fun t => decide (cmpR (pickR t.row cols) r = 0)) := by
  induction z with
  | nil => simp [tot, sumW]
  | cons t z ih =>
    simp only [List.map_cons, tot, ih]
    have e : (projI cols t).row = pickR t.row cols := rfl
    have e2 : (projI cols t).w = t.w := rfl
    rw [e, e2]
    by_cases h : cmpR (pickR t.row cols) r = 0
    · rw [List.filter_cons_of_pos (by simpa using h)]
      simp [sumW, h]
    · rw [List.filter_cons_of_neg (by simpa using h)]
      simp [h]
theorem proj_tot {x y : List It} (h : ∀ r, tot r x = tot r y) (cols : List Int) (r : List V) : tot r (x.map (projI cols)) = tot r (y.map (projI cols)) := by
  rw [tot_proj, tot_proj]
  exact sum_tot _ _ _ (Nat.le_refl _) fun q => by
    rw [tot_filter (fun q => decide (cmpR (pickR q cols) r = 0)), tot_filter (fun q => decide (cmpR (pickR q cols) r = 0)), h]
theorem ProjR.ok {z out : List It} {k j : Nat} {cols : List Int} {err : Int} (h : Sm z k) (hb : ∀ r, -(356400 * (j : Int)) ≤ Yt.tot r (z.map (projI cols)) ∧ Yt.tot r (z.map (projI cols)) ≤ 356400 * j) (hk : k ≤ j) (hj : j ≤ 1000)
    (hp : ProjR z cols out err) : (err = 0 ∧ (∀ t ∈ z, pickE t.row cols = 0) ∧ Sm out j ∧ ∀ r, Yt.tot r out = Yt.tot r (z.map (projI cols))) ∨ (err ≠ 0 ∧ out = [] ∧ ∃ t ∈ z, pickE t.row cols = err) := by
  rcases hp with ⟨hn, _⟩ | ⟨_, ht, he, ho⟩ | ⟨_, ht, hm⟩
  · exact absurd h.good hn
  · exact .inr ⟨he, ho, ht⟩
  · refine .inl ?_
    obtain ⟨h1, h2, h3, h4, h5⟩ := makeR_fine hm (by
      rw [List.any_eq_false]; intro t hv
      obtain ⟨u, hu, rfl⟩ := List.mem_map.1 hv
      have e1 := (pick_row (ht u hu) (h.rows u hu).1).1
      have e2 := (h.made.nz u hu).2
      simp [okI, projI, e1, e2]) fun r => by
        have := hb r
        simp only [okW, inB, Bool.and_eq_true, decide_eq_true_eq]; omega
    refine ⟨h1, ht, ⟨h2, fun t hu => ?_, ?_, fun r => by rw [h3]; exact hb r⟩, h3⟩
    · obtain ⟨g1, u, hu, e⟩ := h4 t hu
      obtain ⟨v, hv, rfl⟩ := List.mem_map.1 hu
      refine ⟨g1, ?_⟩
      rw [← e]
      have := (pick_row (ht v hv) (h.rows v hv).1).2
      have e3 : (projI cols v).row = pickR v.row cols := rfl
      rw [e3]; omega
    · have := h.len
      rw [List.length_map] at h5; omega
theorem proj_bound {z : List It} {j k : Nat} (h : ∀ t ∈ z, -(5940 * (j : Int)) ≤ t.w ∧ t.w ≤ 5940 * j) (hl : z.length ≤ 60 * k) (cols : List Int) (r : List V) :
    -(356400 * ((j * k : Nat) : Int)) ≤ tot r (z.map (projI cols)) ∧ tot r (z.map (projI cols)) ≤ 356400 * ((j * k : Nat) : Int) := by
  have h1 := tot_bound (z := z.map (projI cols)) (k := 5940 * (j : Int)) (by omega) (fun t ht => by obtain ⟨u, hu, rfl⟩ := List.mem_map.1 ht; exact h u hu) r
  rw [List.length_map] at h1
  have h2 : 5940 * (j : Int) * (z.length : Int) ≤ 5940 * (j : Int) * ((60 * k : Nat) : Int) := Int.mul_le_mul_of_nonneg_left (by omega) (by omega)
  have e : 5940 * (j : Int) * ((60 * k : Nat) : Int) = 356400 * ((j * k : Nat) : Int) := by
    rw [Int.natCast_mul, Int.natCast_mul, Int.mul_assoc, Int.mul_left_comm (j : Int), ← Int.mul_assoc]; rfl
  rw [e] at h2
  omega
theorem u64_nat {n : Nat} (h : n < 4611686018427387904) : IntKind.u64.wrap (n : Int) = n := by simp [IntKind.wrap, IntKind.signed, IntKind.bits]; omega
theorem u64_rem (x k : Int) (hk : 0 < k) (hk' : k ≤ 4611686018427387904) : ∃ o : Nat, (IntKind.u64.wrap x).tmod k = o ∧ (o : Int) < k ∧ IntKind.i64.wrap (o : Int) = o := by
  have h0 : 0 ≤ IntKind.u64.wrap x := by simp [IntKind.wrap, IntKind.signed, IntKind.bits]; omega
  have h5 := Int.tmod_eq_emod_of_nonneg (b := k) h0
  have h6 := Int.emod_nonneg (IntKind.u64.wrap x) (show k ≠ 0 by omega)
  have h7 := Int.emod_lt_of_pos (IntKind.u64.wrap x) hk
  refine ⟨((IntKind.u64.wrap x).tmod k).toNat, by omega, by omega, by rw [wrap_i64] <;> omega⟩
/-- What of the first k leads to r. -/
def sumP (cols : List Int) (r : List V) (a : List It) (k : Nat) : Int := sumW ((a.take k).filter fun t => decide (cmpR (pickR t.row cols) r = 0))
theorem sumP_in {cols : List Int} {r : List V} {a : List It} {k : Nat} (h : k < a.length) (e : pickR a[k].row cols = r) : sumP cols r a (k + 1) = sumP cols r a k + a[k].w := by
  simp only [sumP]
  rw [List.take_succ_eq_append_getElem h, List.filter_append, sumW_append]
  congr 1
  rw [List.filter_cons_of_pos (by simp [e, lin_cmpR.self])]
  simp [sumW]
theorem sumP_out {cols : List Int} {r : List V} {a : List It} {k : Nat} (h : k < a.length) (e : pickR a[k].row cols ≠ r) : sumP cols r a (k + 1) = sumP cols r a k := by
  simp only [sumP]
  rw [List.take_succ_eq_append_getElem h, List.filter_append]
  have e2 : ¬ cmpR (pickR a[k].row cols) r = 0 := fun h => e (lin_cmpR.eq _ _ h)
  rw [List.filter_cons_of_neg (by simp [e2])]
  simp
theorem sumP_bound {cols : List Int} {r : List V} {a : List It} {k : Nat} (h : ∀ t ∈ a, -5940 ≤ t.w ∧ t.w ≤ 5940) (hl : a.length ≤ 60) : -356400 ≤ sumP cols r a k ∧ sumP cols r a k ≤ 356400 := by
  have h1 := sumW_bound (k := 5940) (by decide) (z := (a.take k).filter fun t => decide (cmpR (pickR t.row cols) r = 0)) fun t ht => h t (List.mem_of_mem_take (List.mem_filter.1 ht).1)
  have h2 : ((a.take k).filter fun t => decide (cmpR (pickR t.row cols) r = 0)).length ≤ 60 := Nat.le_trans (List.length_filter_le _ _) (by simp; omega)
  simp only [sumP]
  omega
theorem sumP_all (cols : List Int) (r : List V) (a : List It) : sumP cols r a a.length = tot r (a.map (projI cols)) := by
  rw [sumP, List.take_length, tot_proj]
theorem ProjR.len {z out : List It} {cols : List Int} {err : Int} (h : ProjR z cols out err) : out.length ≤ z.length := by
  rcases h with ⟨_, rfl, _⟩ | ⟨_, _, _, rfl⟩ | ⟨_, _, h⟩
  · simp
  · simp
  · rcases h with ⟨_, rfl, _⟩ | ⟨_, rfl, _⟩ | ⟨_, _, _, _, _, h⟩
    · simp
    · simp
    · simpa using h
theorem sumW_proj (cols : List Int) (z : List It) : sumW (z.map (projI cols)) = sumW z := by
  induction z with
  | nil => rfl
  | cons t z ih => simp only [List.map_cons, sumW, ih]; rfl
end Yt
namespace Yt
open Go Go.Vc Go.Proofs Go.Proofs.Ytbnbngkbngmndaa
set_option linter.unusedSimpArgs false
set_option linter.unusedVariables false
mutual
theorem bulk_le {H : Type} {B : Nat} : ∀ d : DataW H, Rows.uptoBulk d ≤ B → bulkLe B d
  | .lit l, h => by
    cases l with
    | string bs => simp only [Rows.uptoBulk] at h; simp only [bulkLe]; omega
    | _ => simp only [bulkLe]
  | .nil, _ => by simp only [bulkLe]
  | .ptr d, _ => by simp only [bulkLe]
  | .slice elems spare, h => by
    simp only [Rows.uptoBulk] at h
    have h2 := bulks_len elems
    simp only [bulkLe]
    exact ⟨by omega, bulks_le elems (by omega)⟩
  | .agg ds, h => by
    simp only [Rows.uptoBulk] at h
    simp only [bulkLe]
    exact bulks_le ds (by omega)
  | .iface _ _, _ => by simp only [bulkLe]
  | .map _, _ => by simp only [bulkLe]
  | .held _, _ => by simp only [bulkLe]
theorem bulks_le {H : Type} {B : Nat} : ∀ ds : List (DataW H), Rows.uptoBulkAll ds ≤ B → bulkLe.bulkLes B ds
  | [], _ => trivial
  | d :: r, h => by
    simp only [Rows.uptoBulkAll] at h
    exact ⟨bulk_le d (by omega), bulks_le r (by omega)⟩
theorem bulk_pos {H : Type} : ∀ d : DataW H, 1 ≤ Rows.uptoBulk d
  | .lit l => by cases l <;> simp [Rows.uptoBulk]
  | .nil => by simp [Rows.uptoBulk]
  | .ptr d => by simp [Rows.uptoBulk]
  | .slice elems spare => by simp [Rows.uptoBulk]
  | .agg ds => by simp [Rows.uptoBulk]
  | .iface _ _ => by simp [Rows.uptoBulk]
  | .map _ => by simp [Rows.uptoBulk]
  | .held _ => by simp [Rows.uptoBulk]
theorem bulks_len {H : Type} : ∀ ds : List (DataW H), ds.length ≤ Rows.uptoBulkAll ds
  | [] => by simp
  | d :: r => by
    have := bulk_pos d
    have := bulks_len r
    simp only [Rows.uptoBulkAll, List.length_cons]; omega
end
theorem bound {H : Type} {l : List (DataW H)} (hk : Rows.uptoSmall H l = true) : bulkLe.bulkLes 1048576 l := bulks_le l (of_decide_eq_true hk)
theorem kids : Kids Try.prog (· < Try.prog.types.size) := kids_rows (by kernel_rfl) (by kernel_rfl)
def szOk (P : Program) : Bool := (List.range P.types.size).all fun t => match P.underlying t with | some (.slice e) => decide (0 < P.cellsOf e) | _ => true
theorem szOk_to {P : Program} (h : szOk P = true) {t e : TypeId} (ht : t < P.types.size) (hu : P.underlying t = some (.slice e)) : 0 < P.cellsOf e := by
  have := List.all_eq_true.1 h t (by simpa using ht)
  rw [hu] at this
  simpa using this
theorem sizes {t e : TypeId} (ht : t < Try.prog.types.size) (hu : Try.prog.underlying t = some (.slice e)) : 0 < Try.prog.cellsOf e := szOk_to (by kernel_rfl) ht hu
def i64 (n : Int) : Prop := -9223372036854775808 ≤ n ∧ n ≤ 9223372036854775807
theorem i64_of {n : Int} (h : (Lit.int .i64 n).wf = true) : i64 n := by
  simp [Lit.wf, IntKind.min, IntKind.max, IntKind.signed, IntKind.bits] at h
  exact h
def V.fit (v : V) : Prop := i64 v.k ∧ i64 v.i ∧ v.s.size ≤ 1048576
def It.fit (t : It) : Prop := t.row.length ≤ 1048576 ∧ i64 t.w
theorem cellsV : Try.prog.cellsOf 25 = 3 := by kernel_rfl
theorem cellsI : Try.prog.cellsOf 27 = 2 := by kernel_rfl
theorem cells1 : Try.prog.cellsOf 3 = 1 := by kernel_rfl
theorem cellsR : Try.prog.cellsOf 23 = 1 := by kernel_rfl
theorem cellsZ : Try.prog.cellsOf 28 = 1 := by kernel_rfl
theorem shVal {avs : List AV} (h : Sh Try.prog 1048576 25 avs) : ∃ v : V, avs = v.c ∧ v.fit := by
  obtain ⟨xs, rfl, hl, hf⟩ := sh_struct Try.underlying25 h
  match xs, hl with
  | [a, b, c], _ =>
    obtain ⟨k, rfl, hk⟩ := sh_int Try.underlying3 (hf 0 _ a rfl rfl)
    obtain ⟨i, rfl, hi⟩ := sh_int Try.underlying3 (hf 1 _ b rfl rfl)
    obtain ⟨s, rfl, hs⟩ := sh_str Try.underlying9 (hf 2 _ c rfl rfl)
    exact ⟨⟨k, i, s⟩, rfl, i64_of hk, i64_of hi, hs⟩
theorem shRow {avs : List AV} (h : Sh Try.prog 1048576 23 avs) : ∃ r : List V, avs = [rowA r] ∧ r.length ≤ 1048576 := by
  obtain ⟨es, rfl, hl, he⟩ := sh_slice Try.underlying23 h
  obtain ⟨l, rfl, _⟩ := map_choose fun x hx => shVal (he x hx)
  rw [cellsV]
  exact ⟨l, rfl, by simpa using hl⟩
theorem shItem {avs : List AV} (h : Sh Try.prog 1048576 27 avs) : ∃ t : It, avs = t.c ∧ t.fit := by
  obtain ⟨xs, rfl, hl, hf⟩ := sh_struct Try.underlying27 h
  match xs, hl with
  | [a, b], _ =>
    obtain ⟨r, rfl, hr⟩ := shRow (hf 0 _ a rfl rfl)
    obtain ⟨w, rfl, hw⟩ := sh_int Try.underlying3 (hf 1 _ b rfl rfl)
    exact ⟨⟨r, w⟩, rfl, hr, i64_of hw⟩
theorem shSet {avs : List AV} (h : Sh Try.prog 1048576 28 avs) : ∃ l : List It, avs = [setA l] ∧ l.length ≤ 1048576 ∧ ∀ t ∈ l, t.fit := by
  obtain ⟨es, rfl, hl, he⟩ := sh_slice Try.underlying28 h
  obtain ⟨l, rfl, h2⟩ := map_choose fun x hx => shItem (he x hx)
  rw [cellsI]
  exact ⟨l, rfl, by simpa using hl, h2⟩
theorem shSets {avs : List AV} (h : Sh Try.prog 1048576 50 avs) : ∃ l : List (List It), avs = [setsA l] ∧ l.length ≤ 1048576 ∧ ∀ z ∈ l, z.length ≤ 1048576 ∧ ∀ t ∈ z, t.fit := by
  obtain ⟨es, rfl, hl, he⟩ := sh_slice Try.underlying50 h
  obtain ⟨l, rfl, h2⟩ := map_choose (f := fun r => [setA r]) fun x hx => shSet (he x hx)
  rw [cellsZ]
  exact ⟨l, rfl, by simpa using hl, h2⟩
theorem shInts {avs : List AV} (h : Sh Try.prog 1048576 32 avs) : ∃ l : List Int, avs = [intsL l] ∧ l.length ≤ 1048576 ∧ ∀ x ∈ l, i64 x := by
  obtain ⟨es, rfl, hl, he⟩ := sh_slice Try.underlying32 h
  obtain ⟨l, rfl, h2⟩ := map_choose (f := fun n => [iA n]) (p := i64) fun x hx => by
    obtain ⟨n, rfl, hn⟩ := sh_int Try.underlying3 (he x hx)
    exact ⟨n, rfl, i64_of hn⟩
  rw [cells1]
  exact ⟨l, rfl, by simpa using hl, h2⟩
theorem shPred {avs : List AV} (h : Sh Try.prog 1048576 55 avs) : ∃ p : Pr, avs = p.c ∧ p.val.fit ∧ i64 p.kind ∧ i64 p.col ∧ i64 p.other := by
  obtain ⟨xs, rfl, hl, hf⟩ := sh_struct Try.underlying55 h
  match xs, hl with
  | [a, b, c, d], _ =>
    obtain ⟨k, rfl, hk⟩ := sh_int Try.underlying3 (hf 0 _ a rfl rfl)
    obtain ⟨i, rfl, hi⟩ := sh_int Try.underlying3 (hf 1 _ b rfl rfl)
    obtain ⟨o, rfl, ho⟩ := sh_int Try.underlying3 (hf 2 _ c rfl rfl)
    obtain ⟨v, rfl, hv⟩ := shVal (hf 3 _ d rfl rfl)
    exact ⟨⟨k, i, o, v⟩, rfl, hv, i64_of hk, i64_of hi, i64_of ho⟩
theorem own : ownKnob Try.prog.godebug = none := by kernel_rfl
def signs : List Char := [Char.ofNat 104, Char.ofNat 97, Char.ofNat 114, Char.ofNat 110, Char.ofNat 101, Char.ofNat 115, Char.ofNat 115, Char.ofNat 32, Char.ofNat 55, Char.ofNat 97, Char.ofNat 99, Char.ofNat 53, Char.ofNat 53, Char.ofNat 101, Char.ofNat 99, Char.ofNat 99, Char.ofNat 52, Char.ofNat 56, Char.ofNat 55, Char.ofNat 54, Char.ofNat 48, Char.ofNat 52, Char.ofNat 56, Char.ofNat 56, Char.ofNat 97, Char.ofNat 54, Char.ofNat 55, Char.ofNat 57, Char.ofNat 100, Char.ofNat 49, Char.ofNat 99, Char.ofNat 56, Char.ofNat 101, Char.ofNat 97, Char.ofNat 56, Char.ofNat 55, Char.ofNat 56, Char.ofNat 54, Char.ofNat 98, Char.ofNat 101, Char.ofNat 100, Char.ofNat 52, Char.ofNat 56, Char.ofNat 56, Char.ofNat 100, Char.ofNat 100, Char.ofNat 48, Char.ofNat 100, Char.ofNat 54, Char.ofNat 51, Char.ofNat 99, Char.ofNat 51, Char.ofNat 53, Char.ofNat 48, Char.ofNat 57, Char.ofNat 102, Char.ofNat 54, Char.ofNat 55, Char.ofNat 48, Char.ofNat 51, Char.ofNat 102, Char.ofNat 55, Char.ofNat 101, Char.ofNat 55, Char.ofNat 98, Char.ofNat 53, Char.ofNat 102, Char.ofNat 52, Char.ofNat 53, Char.ofNat 99, Char.ofNat 100, Char.ofNat 100, Char.ofNat 32, Char.ofNat 99, Char.ofNat 117, Char.ofNat 116, Char.ofNat 32, Char.ofNat 97, Char.ofNat 116, Char.ofNat 32, Char.ofNat 114, Char.ofNat 97, Char.ofNat 100, Char.ofNat 100, Char.ofNat 108, Char.ofNat 101, Char.ofNat 47, Char.ofNat 114, Char.ofNat 97, Char.ofNat 100, Char.ofNat 100, Char.ofNat 108, Char.ofNat 101, Char.ofNat 108, Char.ofNat 97, Char.ofNat 119, Char.ofNat 49, Char.ofNat 55, Char.ofNat 46, Char.ofNat 74, Char.ofNat 111, Char.ofNat 105, Char.ofNat 110, Char.ofNat 87, Char.ofNat 105, Char.ofNat 100, Char.ofNat 101, Char.ofNat 32, Char.ofNat 114, Char.ofNat 97, Char.ofNat 100, Char.ofNat 100, Char.ofNat 108, Char.ofNat 101, Char.ofNat 47, Char.ofNat 114, Char.ofNat 97, Char.ofNat 100, Char.ofNat 100, Char.ofNat 108, Char.ofNat 101, Char.ofNat 108, Char.ofNat 97, Char.ofNat 119, Char.ofNat 49, Char.ofNat 56, Char.ofNat 46, Char.ofNat 68, Char.ofNat 105, Char.ofNat 115, Char.ofNat 116, Char.ofNat 69, Char.ofNat 120, Char.ofNat 97, Char.ofNat 99, Char.ofNat 116, Char.ofNat 32, Char.ofNat 114, Char.ofNat 97, Char.ofNat 100, Char.ofNat 100, Char.ofNat 108, Char.ofNat 101, Char.ofNat 47, Char.ofNat 114, Char.ofNat 97, Char.ofNat 100, Char.ofNat 100, Char.ofNat 108, Char.ofNat 101, Char.ofNat 108, Char.ofNat 97, Char.ofNat 119, Char.ofNat 49, Char.ofNat 56, Char.ofNat 46, Char.ofNat 68, Char.ofNat 105, Char.ofNat 115, Char.ofNat 116, Char.ofNat 83, Char.ofNat 116, Char.ofNat 101, Char.ofNat 112, Char.ofNat 115, Char.ofNat 32, Char.ofNat 114, Char.ofNat 97, Char.ofNat 100, Char.ofNat 100, Char.ofNat 108, Char.ofNat 101, Char.ofNat 47, Char.ofNat 114, Char.ofNat 97, Char.ofNat 100, Char.ofNat 100, Char.ofNat 108, Char.ofNat 101, Char.ofNat 108, Char.ofNat 97, Char.ofNat 119, Char.ofNat 49, Char.ofNat 55, Char.ofNat 46, Char.ofNat 74, Char.ofNat 111, Char.ofNat 105, Char.ofNat 110, Char.ofNat 82, Char.ofNat 111, Char.ofNat 119, Char.ofNat 115, Char.ofNat 32, Char.ofNat 114, Char.ofNat 97, Char.ofNat 100, Char.ofNat 100, Char.ofNat 108, Char.ofNat 101, Char.ofNat 47, Char.ofNat 114, Char.ofNat 97, Char.ofNat 100, Char.ofNat 100, Char.ofNat 108, Char.ofNat 101, Char.ofNat 108, Char.ofNat 97, Char.ofNat 119, Char.ofNat 49, Char.ofNat 56, Char.ofNat 46, Char.ofNat 68, Char.ofNat 105, Char.ofNat 115, Char.ofNat 116, Char.ofNat 65, Char.ofNat 100, Char.ofNat 100, Char.ofNat 115, Char.ofNat 32, Char.ofNat 114, Char.ofNat 97, Char.ofNat 100, Char.ofNat 100, Char.ofNat 108, Char.ofNat 101, Char.ofNat 47, Char.ofNat 114, Char.ofNat 97, Char.ofNat 100, Char.ofNat 100, Char.ofNat 108, Char.ofNat 101, Char.ofNat 108, Char.ofNat 97, Char.ofNat 119, Char.ofNat 49, Char.ofNat 55, Char.ofNat 46, Char.ofNat 74, Char.ofNat 111, Char.ofNat 105, Char.ofNat 110, Char.ofNat 83, Char.ofNat 119, Char.ofNat 97, Char.ofNat 112, Char.ofNat 115, Char.ofNat 32, Char.ofNat 114, Char.ofNat 97, Char.ofNat 100, Char.ofNat 100, Char.ofNat 108, Char.ofNat 101, Char.ofNat 47, Char.ofNat 114, Char.ofNat 97, Char.ofNat 100, Char.ofNat 100, Char.ofNat 108, Char.ofNat 101, Char.ofNat 108, Char.ofNat 97, Char.ofNat 119, Char.ofNat 49, Char.ofNat 56, Char.ofNat 46, Char.ofNat 68, Char.ofNat 105, Char.ofNat 115, Char.ofNat 116, Char.ofNat 70, Char.ofNat 105, Char.ofNat 108, Char.ofNat 116, Char.ofNat 101, Char.ofNat 114, Char.ofNat 115, Char.ofNat 32, Char.ofNat 114, Char.ofNat 97, Char.ofNat 100, Char.ofNat 100, Char.ofNat 108, Char.ofNat 101, Char.ofNat 47, Char.ofNat 114, Char.ofNat 97, Char.ofNat 100, Char.ofNat 100, Char.ofNat 108, Char.ofNat 101, Char.ofNat 108, Char.ofNat 97, Char.ofNat 119, Char.ofNat 49, Char.ofNat 54, Char.ofNat 46, Char.ofNat 76, Char.ofNat 105, Char.ofNat 110, Char.ofNat 84, Char.ofNat 119, Char.ofNat 105, Char.ofNat 99, Char.ofNat 101, Char.ofNat 32, Char.ofNat 114, Char.ofNat 97, Char.ofNat 100, Char.ofNat 100, Char.ofNat 108, Char.ofNat 101, Char.ofNat 47, Char.ofNat 114, Char.ofNat 97, Char.ofNat 100, Char.ofNat 100, Char.ofNat 108, Char.ofNat 101, Char.ofNat 108, Char.ofNat 97, Char.ofNat 119, Char.ofNat 49, Char.ofNat 54, Char.ofNat 46, Char.ofNat 76, Char.ofNat 105, Char.ofNat 110, Char.ofNat 87, Char.ofNat 114, Char.ofNat 97, Char.ofNat 112, Char.ofNat 115, Char.ofNat 32, Char.ofNat 114, Char.ofNat 97, Char.ofNat 100, Char.ofNat 100, Char.ofNat 108, Char.ofNat 101, Char.ofNat 47, Char.ofNat 114, Char.ofNat 97, Char.ofNat 100, Char.ofNat 100, Char.ofNat 108, Char.ofNat 101, Char.ofNat 108, Char.ofNat 97, Char.ofNat 119, Char.ofNat 49, Char.ofNat 54, Char.ofNat 46, Char.ofNat 76, Char.ofNat 105, Char.ofNat 110, Char.ofNat 69, Char.ofNat 120, Char.ofNat 97, Char.ofNat 99, Char.ofNat 116, Char.ofNat 32, Char.ofNat 114, Char.ofNat 97, Char.ofNat 100, Char.ofNat 100, Char.ofNat 108, Char.ofNat 101, Char.ofNat 47, Char.ofNat 114, Char.ofNat 97, Char.ofNat 100, Char.ofNat 100, Char.ofNat 108, Char.ofNat 101, Char.ofNat 108, Char.ofNat 97, Char.ofNat 119, Char.ofNat 49, Char.ofNat 54, Char.ofNat 46, Char.ofNat 76, Char.ofNat 105, Char.ofNat 110, Char.ofNat 83, Char.ofNat 117, Char.ofNat 109, Char.ofNat 115, Char.ofNat 32, Char.ofNat 114, Char.ofNat 97, Char.ofNat 100, Char.ofNat 100, Char.ofNat 108, Char.ofNat 101, Char.ofNat 47, Char.ofNat 114, Char.ofNat 97, Char.ofNat 100, Char.ofNat 100, Char.ofNat 108, Char.ofNat 101, Char.ofNat 108, Char.ofNat 97, Char.ofNat 119, Char.ofNat 49, Char.ofNat 54, Char.ofNat 46, Char.ofNat 76, Char.ofNat 105, Char.ofNat 110, Char.ofNat 79, Char.ofNat 102, Char.ofNat 102, Char.ofNat 32, Char.ofNat 114, Char.ofNat 97, Char.ofNat 100, Char.ofNat 100, Char.ofNat 108, Char.ofNat 101, Char.ofNat 47, Char.ofNat 114, Char.ofNat 97, Char.ofNat 100, Char.ofNat 100, Char.ofNat 108, Char.ofNat 101, Char.ofNat 108, Char.ofNat 97, Char.ofNat 119, Char.ofNat 49, Char.ofNat 54, Char.ofNat 46, Char.ofNat 76, Char.ofNat 105, Char.ofNat 110, Char.ofNat 82, Char.ofNat 111, Char.ofNat 119, Char.ofNat 115, Char.ofNat 32, Char.ofNat 114, Char.ofNat 97, Char.ofNat 100, Char.ofNat 100, Char.ofNat 108, Char.ofNat 101, Char.ofNat 47, Char.ofNat 114, Char.ofNat 97, Char.ofNat 100, Char.ofNat 100, Char.ofNat 108, Char.ofNat 101, Char.ofNat 108, Char.ofNat 97, Char.ofNat 119, Char.ofNat 49, Char.ofNat 55, Char.ofNat 46, Char.ofNat 74, Char.ofNat 111, Char.ofNat 105, Char.ofNat 110, Char.ofNat 70, Char.ofNat 105, Char.ofNat 108, Char.ofNat 116, Char.ofNat 101, Char.ofNat 114, Char.ofNat 115, Char.ofNat 32, Char.ofNat 114, Char.ofNat 97, Char.ofNat 100, Char.ofNat 100, Char.ofNat 108, Char.ofNat 101, Char.ofNat 47, Char.ofNat 114, Char.ofNat 97, Char.ofNat 100, Char.ofNat 100, Char.ofNat 108, Char.ofNat 101, Char.ofNat 108, Char.ofNat 97, Char.ofNat 119, Char.ofNat 49, Char.ofNat 55, Char.ofNat 46, Char.ofNat 74, Char.ofNat 111, Char.ofNat 105, Char.ofNat 110, Char.ofNat 69, Char.ofNat 120, Char.ofNat 97, Char.ofNat 99, Char.ofNat 116, Char.ofNat 32, Char.ofNat 114, Char.ofNat 97, Char.ofNat 100, Char.ofNat 100, Char.ofNat 108, Char.ofNat 101, Char.ofNat 47, Char.ofNat 114, Char.ofNat 97, Char.ofNat 100, Char.ofNat 100, Char.ofNat 108, Char.ofNat 101, Char.ofNat 108, Char.ofNat 97, Char.ofNat 119, Char.ofNat 49, Char.ofNat 55, Char.ofNat 46, Char.ofNat 74, Char.ofNat 111, Char.ofNat 105, Char.ofNat 110, Char.ofNat 80, Char.ofNat 97, Char.ofNat 114, Char.ofNat 116, Char.ofNat 115, Char.ofNat 32, Char.ofNat 114, Char.ofNat 97, Char.ofNat 100, Char.ofNat 100, Char.ofNat 108, Char.ofNat 101, Char.ofNat 47, Char.ofNat 114, Char.ofNat 97, Char.ofNat 100, Char.ofNat 100, Char.ofNat 108, Char.ofNat 101, Char.ofNat 108, Char.ofNat 97, Char.ofNat 119, Char.ofNat 49, Char.ofNat 57, Char.ofNat 46, Char.ofNat 65, Char.ofNat 103, Char.ofNat 103, Char.ofNat 84, Char.ofNat 101, Char.ofNat 108, Char.ofNat 108, Char.ofNat 115, Char.ofNat 32, Char.ofNat 114, Char.ofNat 97, Char.ofNat 100, Char.ofNat 100, Char.ofNat 108, Char.ofNat 101, Char.ofNat 47, Char.ofNat 114, Char.ofNat 97, Char.ofNat 100, Char.ofNat 100, Char.ofNat 108, Char.ofNat 101, Char.ofNat 108, Char.ofNat 97, Char.ofNat 119, Char.ofNat 49, Char.ofNat 57, Char.ofNat 46, Char.ofNat 65, Char.ofNat 103, Char.ofNat 103, Char.ofNat 84, Char.ofNat 111, Char.ofNat 116, Char.ofNat 97, Char.ofNat 108, Char.ofNat 32, Char.ofNat 114, Char.ofNat 97, Char.ofNat 100, Char.ofNat 100, Char.ofNat 108, Char.ofNat 101, Char.ofNat 47, Char.ofNat 114, Char.ofNat 97, Char.ofNat 100, Char.ofNat 100, Char.ofNat 108, Char.ofNat 101, Char.ofNat 108, Char.ofNat 97, Char.ofNat 119, Char.ofNat 49, Char.ofNat 57, Char.ofNat 46, Char.ofNat 65, Char.ofNat 103, Char.ofNat 103, Char.ofNat 79, Char.ofNat 118, Char.ofNat 101, Char.ofNat 114, Char.ofNat 32, Char.ofNat 114, Char.ofNat 97, Char.ofNat 100, Char.ofNat 100, Char.ofNat 108, Char.ofNat 101, Char.ofNat 47, Char.ofNat 114, Char.ofNat 97, Char.ofNat 100, Char.ofNat 100, Char.ofNat 108, Char.ofNat 101, Char.ofNat 108, Char.ofNat 97, Char.ofNat 119, Char.ofNat 49, Char.ofNat 57, Char.ofNat 46, Char.ofNat 65, Char.ofNat 103, Char.ofNat 103, Char.ofNat 83, Char.ofNat 111, Char.ofNat 109, Char.ofNat 101, Char.ofNat 32, Char.ofNat 114, Char.ofNat 97, Char.ofNat 100, Char.ofNat 100, Char.ofNat 108, Char.ofNat 101, Char.ofNat 47, Char.ofNat 114, Char.ofNat 97, Char.ofNat 100, Char.ofNat 100, Char.ofNat 108, Char.ofNat 101, Char.ofNat 108, Char.ofNat 97, Char.ofNat 119, Char.ofNat 49, Char.ofNat 57, Char.ofNat 46, Char.ofNat 65, Char.ofNat 103, Char.ofNat 103, Char.ofNat 75, Char.ofNat 101, Char.ofNat 121, Char.ofNat 115, Char.ofNat 32, Char.ofNat 114, Char.ofNat 97, Char.ofNat 100, Char.ofNat 100, Char.ofNat 108, Char.ofNat 101, Char.ofNat 47, Char.ofNat 114, Char.ofNat 97, Char.ofNat 100, Char.ofNat 100, Char.ofNat 108, Char.ofNat 101, Char.ofNat 108, Char.ofNat 97, Char.ofNat 119, Char.ofNat 49, Char.ofNat 57, Char.ofNat 46, Char.ofNat 65, Char.ofNat 103, Char.ofNat 103, Char.ofNat 69, Char.ofNat 120, Char.ofNat 97, Char.ofNat 99, Char.ofNat 116, Char.ofNat 32, Char.ofNat 114, Char.ofNat 97, Char.ofNat 100, Char.ofNat 100, Char.ofNat 108, Char.ofNat 101, Char.ofNat 47, Char.ofNat 114, Char.ofNat 97, Char.ofNat 100, Char.ofNat 100, Char.ofNat 108, Char.ofNat 101, Char.ofNat 108, Char.ofNat 97, Char.ofNat 119, Char.ofNat 49, Char.ofNat 57, Char.ofNat 46, Char.ofNat 65, Char.ofNat 103, Char.ofNat 103, Char.ofNat 65, Char.ofNat 100, Char.ofNat 100, Char.ofNat 115]
theorem words_eq : headIs Try.prog ([Char.ofNat 99, Char.ofNat 117, Char.ofNat 116] :: [[Char.ofNat 97, Char.ofNat 116], [Char.ofNat 114, Char.ofNat 97, Char.ofNat 100, Char.ofNat 100, Char.ofNat 108, Char.ofNat 101, Char.ofNat 47, Char.ofNat 114, Char.ofNat 97, Char.ofNat 100, Char.ofNat 100, Char.ofNat 108, Char.ofNat 101, Char.ofNat 108, Char.ofNat 97, Char.ofNat 119, Char.ofNat 49, Char.ofNat 55, Char.ofNat 46, Char.ofNat 74, Char.ofNat 111, Char.ofNat 105, Char.ofNat 110, Char.ofNat 87, Char.ofNat 105, Char.ofNat 100, Char.ofNat 101], [Char.ofNat 114, Char.ofNat 97, Char.ofNat 100, Char.ofNat 100, Char.ofNat 108, Char.ofNat 101, Char.ofNat 47, Char.ofNat 114, Char.ofNat 97, Char.ofNat 100, Char.ofNat 100, Char.ofNat 108, Char.ofNat 101, Char.ofNat 108, Char.ofNat 97, Char.ofNat 119, Char.ofNat 49, Char.ofNat 56, Char.ofNat 46, Char.ofNat 68, Char.ofNat 105, Char.ofNat 115, Char.ofNat 116, Char.ofNat 69, Char.ofNat 120, Char.ofNat 97, Char.ofNat 99, Char.ofNat 116], [Char.ofNat 114, Char.ofNat 97, Char.ofNat 100, Char.ofNat 100, Char.ofNat 108, Char.ofNat 101, Char.ofNat 47, Char.ofNat 114, Char.ofNat 97, Char.ofNat 100, Char.ofNat 100, Char.ofNat 108, Char.ofNat 101, Char.ofNat 108, Char.ofNat 97, Char.ofNat 119, Char.ofNat 49, Char.ofNat 56, Char.ofNat 46, Char.ofNat 68, Char.ofNat 105, Char.ofNat 115, Char.ofNat 116, Char.ofNat 83, Char.ofNat 116, Char.ofNat 101, Char.ofNat 112, Char.ofNat 115], [Char.ofNat 114, Char.ofNat 97, Char.ofNat 100, Char.ofNat 100, Char.ofNat 108, Char.ofNat 101, Char.ofNat 47, Char.ofNat 114, Char.ofNat 97, Char.ofNat 100, Char.ofNat 100, Char.ofNat 108, Char.ofNat 101, Char.ofNat 108, Char.ofNat 97, Char.ofNat 119, Char.ofNat 49, Char.ofNat 55, Char.ofNat 46, Char.ofNat 74, Char.ofNat 111, Char.ofNat 105, Char.ofNat 110, Char.ofNat 82, Char.ofNat 111, Char.ofNat 119, Char.ofNat 115], [Char.ofNat 114, Char.ofNat 97, Char.ofNat 100, Char.ofNat 100, Char.ofNat 108, Char.ofNat 101, Char.ofNat 47, Char.ofNat 114, Char.ofNat 97, Char.ofNat 100, Char.ofNat 100, Char.ofNat 108, Char.ofNat 101, Char.ofNat 108, Char.ofNat 97, Char.ofNat 119, Char.ofNat 49, Char.ofNat 56, Char.ofNat 46, Char.ofNat 68, Char.ofNat 105, Char.ofNat 115, Char.ofNat 116, Char.ofNat 65, Char.ofNat 100, Char.ofNat 100, Char.ofNat 115], [Char.ofNat 114, Char.ofNat 97, Char.ofNat 100, Char.ofNat 100, Char.ofNat 108, Char.ofNat 101, Char.ofNat 47, Char.ofNat 114, Char.ofNat 97, Char.ofNat 100, Char.ofNat 100, Char.ofNat 108, Char.ofNat 101, Char.ofNat 108, Char.ofNat 97, Char.ofNat 119, Char.ofNat 49, Char.ofNat 55, Char.ofNat 46, Char.ofNat 74, Char.ofNat 111, Char.ofNat 105, Char.ofNat 110, Char.ofNat 83, Char.ofNat 119, Char.ofNat 97, Char.ofNat 112, Char.ofNat 115], [Char.ofNat 114, Char.ofNat 97, Char.ofNat 100, Char.ofNat 100, Char.ofNat 108, Char.ofNat 101, Char.ofNat 47, Char.ofNat 114, Char.ofNat 97, Char.ofNat 100, Char.ofNat 100, Char.ofNat 108, Char.ofNat 101, Char.ofNat 108, Char.ofNat 97, Char.ofNat 119, Char.ofNat 49, Char.ofNat 56, Char.ofNat 46, Char.ofNat 68, Char.ofNat 105, Char.ofNat 115, Char.ofNat 116, Char.ofNat 70, Char.ofNat 105, Char.ofNat 108, Char.ofNat 116, Char.ofNat 101, Char.ofNat 114, Char.ofNat 115], [Char.ofNat 114, Char.ofNat 97, Char.ofNat 100, Char.ofNat 100, Char.ofNat 108, Char.ofNat 101, Char.ofNat 47, Char.ofNat 114, Char.ofNat 97, Char.ofNat 100, Char.ofNat 100, Char.ofNat 108, Char.ofNat 101, Char.ofNat 108, Char.ofNat 97, Char.ofNat 119, Char.ofNat 49, Char.ofNat 54, Char.ofNat 46, Char.ofNat 76, Char.ofNat 105, Char.ofNat 110, Char.ofNat 84, Char.ofNat 119, Char.ofNat 105, Char.ofNat 99, Char.ofNat 101], [Char.ofNat 114, Char.ofNat 97, Char.ofNat 100, Char.ofNat 100, Char.ofNat 108, Char.ofNat 101, Char.ofNat 47, Char.ofNat 114, Char.ofNat 97, Char.ofNat 100, Char.ofNat 100, Char.ofNat 108, Char.ofNat 101, Char.ofNat 108, Char.ofNat 97, Char.ofNat 119, Char.ofNat 49, Char.ofNat 54, Char.ofNat 46, Char.ofNat 76, Char.ofNat 105, Char.ofNat 110, Char.ofNat 87, Char.ofNat 114, Char.ofNat 97, Char.ofNat 112, Char.ofNat 115], [Char.ofNat 114, Char.ofNat 97, Char.ofNat 100, Char.ofNat 100, Char.ofNat 108, Char.ofNat 101, Char.ofNat 47, Char.ofNat 114, Char.ofNat 97, Char.ofNat 100, Char.ofNat 100, Char.ofNat 108, Char.ofNat 101, Char.ofNat 108, Char.ofNat 97, Char.ofNat 119, Char.ofNat 49, Char.ofNat 54, Char.ofNat 46, Char.ofNat 76, Char.ofNat 105, Char.ofNat 110, Char.ofNat 69, Char.ofNat 120, Char.ofNat 97, Char.ofNat 99, Char.ofNat 116], [Char.ofNat 114, Char.ofNat 97, Char.ofNat 100, Char.ofNat 100, Char.ofNat 108, Char.ofNat 101, Char.ofNat 47, Char.ofNat 114, Char.ofNat 97, Char.ofNat 100, Char.ofNat 100, Char.ofNat 108, Char.ofNat 101, Char.ofNat 108, Char.ofNat 97, Char.ofNat 119, Char.ofNat 49, Char.ofNat 54, Char.ofNat 46, Char.ofNat 76, Char.ofNat 105, Char.ofNat 110, Char.ofNat 83, Char.ofNat 117, Char.ofNat 109, Char.ofNat 115], [Char.ofNat 114, Char.ofNat 97, Char.ofNat 100, Char.ofNat 100, Char.ofNat 108, Char.ofNat 101, Char.ofNat 47, Char.ofNat 114, Char.ofNat 97, Char.ofNat 100, Char.ofNat 100, Char.ofNat 108, Char.ofNat 101, Char.ofNat 108, Char.ofNat 97, Char.ofNat 119, Char.ofNat 49, Char.ofNat 54, Char.ofNat 46, Char.ofNat 76, Char.ofNat 105, Char.ofNat 110, Char.ofNat 79, Char.ofNat 102, Char.ofNat 102], [Char.ofNat 114, Char.ofNat 97, Char.ofNat 100, Char.ofNat 100, Char.ofNat 108, Char.ofNat 101, Char.ofNat 47, Char.ofNat 114, Char.ofNat 97, Char.ofNat 100, Char.ofNat 100, Char.ofNat 108, Char.ofNat 101, Char.ofNat 108, Char.ofNat 97, Char.ofNat 119, Char.ofNat 49, Char.ofNat 54, Char.ofNat 46, Char.ofNat 76, Char.ofNat 105, Char.ofNat 110, Char.ofNat 82, Char.ofNat 111, Char.ofNat 119, Char.ofNat 115], [Char.ofNat 114, Char.ofNat 97, Char.ofNat 100, Char.ofNat 100, Char.ofNat 108, Char.ofNat 101, Char.ofNat 47, Char.ofNat 114, Char.ofNat 97, Char.ofNat 100, Char.ofNat 100, Char.ofNat 108, Char.ofNat 101, Char.ofNat 108, Char.ofNat 97, Char.ofNat 119, Char.ofNat 49, Char.ofNat 55, Char.ofNat 46, Char.ofNat 74, Char.ofNat 111, Char.ofNat 105, Char.ofNat 110, Char.ofNat 70, Char.ofNat 105, Char.ofNat 108, Char.ofNat 116, Char.ofNat 101, Char.ofNat 114, Char.ofNat 115], [Char.ofNat 114, Char.ofNat 97, Char.ofNat 100, Char.ofNat 100, Char.ofNat 108, Char.ofNat 101, Char.ofNat 47, Char.ofNat 114, Char.ofNat 97, Char.ofNat 100, Char.ofNat 100, Char.ofNat 108, Char.ofNat 101, Char.ofNat 108, Char.ofNat 97, Char.ofNat 119, Char.ofNat 49, Char.ofNat 55, Char.ofNat 46, Char.ofNat 74, Char.ofNat 111, Char.ofNat 105, Char.ofNat 110, Char.ofNat 69, Char.ofNat 120, Char.ofNat 97, Char.ofNat 99, Char.ofNat 116], [Char.ofNat 114, Char.ofNat 97, Char.ofNat 100, Char.ofNat 100, Char.ofNat 108, Char.ofNat 101, Char.ofNat 47, Char.ofNat 114, Char.ofNat 97, Char.ofNat 100, Char.ofNat 100, Char.ofNat 108, Char.ofNat 101, Char.ofNat 108, Char.ofNat 97, Char.ofNat 119, Char.ofNat 49, Char.ofNat 55, Char.ofNat 46, Char.ofNat 74, Char.ofNat 111, Char.ofNat 105, Char.ofNat 110, Char.ofNat 80, Char.ofNat 97, Char.ofNat 114, Char.ofNat 116, Char.ofNat 115], [Char.ofNat 114, Char.ofNat 97, Char.ofNat 100, Char.ofNat 100, Char.ofNat 108, Char.ofNat 101, Char.ofNat 47, Char.ofNat 114, Char.ofNat 97, Char.ofNat 100, Char.ofNat 100, Char.ofNat 108, Char.ofNat 101, Char.ofNat 108, Char.ofNat 97, Char.ofNat 119, Char.ofNat 49, Char.ofNat 57, Char.ofNat 46, Char.ofNat 65, Char.ofNat 103, Char.ofNat 103, Char.ofNat 84, Char.ofNat 101, Char.ofNat 108, Char.ofNat 108, Char.ofNat 115], [Char.ofNat 114, Char.ofNat 97, Char.ofNat 100, Char.ofNat 100, Char.ofNat 108, Char.ofNat 101, Char.ofNat 47, Char.ofNat 114, Char.ofNat 97, Char.ofNat 100, Char.ofNat 100, Char.ofNat 108, Char.ofNat 101, Char.ofNat 108, Char.ofNat 97, Char.ofNat 119, Char.ofNat 49, Char.ofNat 57, Char.ofNat 46, Char.ofNat 65, Char.ofNat 103, Char.ofNat 103, Char.ofNat 84, Char.ofNat 111, Char.ofNat 116, Char.ofNat 97, Char.ofNat 108], [Char.ofNat 114, Char.ofNat 97, Char.ofNat 100, Char.ofNat 100, Char.ofNat 108, Char.ofNat 101, Char.ofNat 47, Char.ofNat 114, Char.ofNat 97, Char.ofNat 100, Char.ofNat 100, Char.ofNat 108, Char.ofNat 101, Char.ofNat 108, Char.ofNat 97, Char.ofNat 119, Char.ofNat 49, Char.ofNat 57, Char.ofNat 46, Char.ofNat 65, Char.ofNat 103, Char.ofNat 103, Char.ofNat 79, Char.ofNat 118, Char.ofNat 101, Char.ofNat 114], [Char.ofNat 114, Char.ofNat 97, Char.ofNat 100, Char.ofNat 100, Char.ofNat 108, Char.ofNat 101, Char.ofNat 47, Char.ofNat 114, Char.ofNat 97, Char.ofNat 100, Char.ofNat 100, Char.ofNat 108, Char.ofNat 101, Char.ofNat 108, Char.ofNat 97, Char.ofNat 119, Char.ofNat 49, Char.ofNat 57, Char.ofNat 46, Char.ofNat 65, Char.ofNat 103, Char.ofNat 103, Char.ofNat 83, Char.ofNat 111, Char.ofNat 109, Char.ofNat 101], [Char.ofNat 114, Char.ofNat 97, Char.ofNat 100, Char.ofNat 100, Char.ofNat 108, Char.ofNat 101, Char.ofNat 47, Char.ofNat 114, Char.ofNat 97, Char.ofNat 100, Char.ofNat 100, Char.ofNat 108, Char.ofNat 101, Char.ofNat 108, Char.ofNat 97, Char.ofNat 119, Char.ofNat 49, Char.ofNat 57, Char.ofNat 46, Char.ofNat 65, Char.ofNat 103, Char.ofNat 103, Char.ofNat 75, Char.ofNat 101, Char.ofNat 121, Char.ofNat 115], [Char.ofNat 114, Char.ofNat 97, Char.ofNat 100, Char.ofNat 100, Char.ofNat 108, Char.ofNat 101, Char.ofNat 47, Char.ofNat 114, Char.ofNat 97, Char.ofNat 100, Char.ofNat 100, Char.ofNat 108, Char.ofNat 101, Char.ofNat 108, Char.ofNat 97, Char.ofNat 119, Char.ofNat 49, Char.ofNat 57, Char.ofNat 46, Char.ofNat 65, Char.ofNat 103, Char.ofNat 103, Char.ofNat 69, Char.ofNat 120, Char.ofNat 97, Char.ofNat 99, Char.ofNat 116], [Char.ofNat 114, Char.ofNat 97, Char.ofNat 100, Char.ofNat 100, Char.ofNat 108, Char.ofNat 101, Char.ofNat 47, Char.ofNat 114, Char.ofNat 97, Char.ofNat 100, Char.ofNat 100, Char.ofNat 108, Char.ofNat 101, Char.ofNat 108, Char.ofNat 97, Char.ofNat 119, Char.ofNat 49, Char.ofNat 57, Char.ofNat 46, Char.ofNat 65, Char.ofNat 103, Char.ofNat 103, Char.ofNat 65, Char.ofNat 100, Char.ofNat 100, Char.ofNat 115]]) := head_of (l := signs) (by kernel_rfl) (by kernel_rfl)
theorem laid : laidOutB Try.prog = true := by kernel_rfl
theorem rowed : mapsRowed Try.prog = true := by kernel_rfl
theorem heard : Try.prog.stopsHeard = true := by kernel_rfl
theorem plain : Try.prog.plainKeys = true := by kernel_rfl
theorem doorRows : Try.prog.doorRows = [] := by kernel_rfl
theorem laysLater : Try.prog.laysLater = false := by kernel_rfl
theorem bearsReflect : Try.prog.bearsReflect = false := by kernel_rfl
theorem cutMade : Try.prog.make = some .cut := make_of words_eq (by kernel_rfl) (by kernel_rfl)
theorem cutLifts : Try.prog.liftsFinal = false := lifts_of words_eq (by kernel_rfl) (by kernel_rfl) (by kernel_rfl)
theorem cutEnter : Try.prog.mayEnter = true := enter_of words_eq (by kernel_rfl) (by kernel_rfl) (by kernel_rfl) (by kernel_rfl) doorRows laysLater bearsReflect
end Yt
