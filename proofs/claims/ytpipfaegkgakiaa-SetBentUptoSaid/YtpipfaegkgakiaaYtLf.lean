/- From the statement's arguments to those of the walks. What is proved: contracts of the program's functions over abstract values, or plain facts on which these lean; the conditions stand in each theorem. -/
import Derived.Test.YtpipfaegkgakiaaYtB
import Derived.Test.YtpipfaegkgakiaaVcQ
import Derived.JoinedCond
import Derived.WalkKit
import Derived.ProofKit
import Derived.Test.YtpipfaegkgakiaaRows
set_option linter.all false
/-! From the statement's arguments to those of the walks. -/
namespace Yt
open Go Go.Vc Go.Proofs Go.Proofs.Ytpipfaegkgakiaa
set_option linter.unusedSimpArgs false
set_option linter.unusedVariables false
mutual
theorem bulk_le {H : Type} {B : Nat} : ∀ d : DataW H, Rows.uptoBulk d ≤ B → bulkLe B d
  | .lit l, h => by
    cases l with
    | string bs => simp only [Rows.uptoBulk] at h; simp only [bulkLe]; omega
    | _ => simp only [bulkLe]
  | .nil, _ => by simp only [bulkLe]
  | .ptr d, _ => by simp only [bulkLe]
  | .slice elems spare, h => by
    simp only [Rows.uptoBulk] at h
    have h2 := bulks_len elems
    simp only [bulkLe]
    exact ⟨by omega, bulks_le elems (by omega)⟩
  | .agg ds, h => by
    simp only [Rows.uptoBulk] at h
    simp only [bulkLe]
    exact bulks_le ds (by omega)
  | .iface _ _, _ => by simp only [bulkLe]
  | .map _, _ => by simp only [bulkLe]
  | .held _, _ => by simp only [bulkLe]
theorem bulks_le {H : Type} {B : Nat} : ∀ ds : List (DataW H), Rows.uptoBulkAll ds ≤ B → bulkLe.bulkLes B ds
  | [], _ => trivial
  | d :: r, h => by
    simp only [Rows.uptoBulkAll] at h
    exact ⟨bulk_le d (by omega), bulks_le r (by omega)⟩
theorem bulk_pos {H : Type} : ∀ d : DataW H, 1 ≤ Rows.uptoBulk d
  | .lit l => by cases l <;> simp [Rows.uptoBulk]
  | .nil => by simp [Rows.uptoBulk]
  | .ptr d => by simp [Rows.uptoBulk]
  | .slice elems spare => by simp [Rows.uptoBulk]
  | .agg ds => by simp [Rows.uptoBulk]
  | .iface _ _ => by simp [Rows.uptoBulk]
  | .map _ => by simp [Rows.uptoBulk]
  | .held _ => by simp [Rows.uptoBulk]
theorem bulks_len {H : Type} : ∀ ds : List (DataW H), ds.length ≤ Rows.uptoBulkAll ds
  | [] => by simp
  | d :: r => by
    have := bulk_pos d
    have := bulks_len r
    simp only [Rows.uptoBulkAll, List.length_cons]; omega
end
theorem bound {H : Type} {l : List (DataW H)} (hk : Rows.uptoSmall H l = true) : bulkLe.bulkLes 1048576 l := bulks_le l (of_decide_eq_true hk)
theorem kids : Kids Try.prog (· < Try.prog.types.size) := kids_rows (by kernel_rfl) (by kernel_rfl)
def szOk (P : Program) : Bool := (List.range P.types.size).all fun t => match P.underlying t with | some (.slice e) => decide (0 < P.cellsOf e) | _ => true
theorem szOk_to {P : Program} (h : szOk P = true) {t e : TypeId} (ht : t < P.types.size) (hu : P.underlying t = some (.slice e)) : 0 < P.cellsOf e := by
  have := List.all_eq_true.1 h t (by simpa using ht)
  rw [hu] at this
  simpa using this
theorem sizes {t e : TypeId} (ht : t < Try.prog.types.size) (hu : Try.prog.underlying t = some (.slice e)) : 0 < Try.prog.cellsOf e := szOk_to (by kernel_rfl) ht hu
theorem cells67 : Try.prog.cellsOf 67 = 3 := by kernel_rfl
theorem cells26 : Try.prog.cellsOf 26 = 2 := by kernel_rfl
def i64 (n : Int) : Prop := -9223372036854775808 ≤ n ∧ n ≤ 9223372036854775807
theorem i64_of {n : Int} (h : (Lit.int .i64 n).wf = true) : i64 n := by
  simp [Lit.wf, IntKind.min, IntKind.max, IntKind.signed, IntKind.bits] at h
  exact h
def V.fit (v : V) : Prop := i64 v.k ∧ i64 v.i ∧ v.s.size ≤ 1048576
def It.fit (t : It) : Prop := t.row.length ≤ 1048576 ∧ i64 t.w
theorem sh67 {avs : List AV} (h : Sh Try.prog 1048576 67 avs) : ∃ v : V, avs = v.c ∧ v.fit := by
  obtain ⟨xs, rfl, hl, hf⟩ := sh_struct Try.underlying67 h
  match xs, hl with
  | [a, b, c], _ =>
    obtain ⟨k, rfl, hk⟩ := sh_int Try.underlying3 (hf 0 _ a rfl rfl)
    obtain ⟨i, rfl, hi⟩ := sh_int Try.underlying3 (hf 1 _ b rfl rfl)
    obtain ⟨s, rfl, hs⟩ := sh_str Try.underlying9 (hf 2 _ c rfl rfl)
    exact ⟨⟨k, i, s⟩, rfl, i64_of hk, i64_of hi, hs⟩
theorem sh23 {avs : List AV} (h : Sh Try.prog 1048576 23 avs) : ∃ r : List V, avs = [rowA r] ∧ r.length ≤ 1048576 := by
  obtain ⟨es, rfl, hl, he⟩ := sh_slice Try.underlying23 h
  obtain ⟨l, rfl, _⟩ := map_choose fun x hx => sh67 (he x hx)
  rw [cells67]
  exact ⟨l, rfl, by simpa using hl⟩
theorem sh26 {avs : List AV} (h : Sh Try.prog 1048576 26 avs) : ∃ t : It, avs = t.c ∧ t.fit := by
  obtain ⟨xs, rfl, hl, hf⟩ := sh_struct Try.underlying26 h
  match xs, hl with
  | [a, b], _ =>
    obtain ⟨r, rfl, hr⟩ := sh23 (hf 0 _ a rfl rfl)
    obtain ⟨w, rfl, hw⟩ := sh_int Try.underlying3 (hf 1 _ b rfl rfl)
    exact ⟨⟨r, w⟩, rfl, hr, i64_of hw⟩
theorem sh22 {avs : List AV} (h : Sh Try.prog 1048576 22 avs) : ∃ l : List It, avs = [setA l] ∧ l.length ≤ 1048576 ∧ ∀ t ∈ l, t.fit := by
  obtain ⟨es, rfl, hl, he⟩ := sh_slice Try.underlying22 h
  obtain ⟨l, rfl, h2⟩ := map_choose fun x hx => sh26 (he x hx)
  rw [cells26]
  exact ⟨l, rfl, by simpa using hl, h2⟩
theorem own : ownKnob Try.prog.godebug = none := by kernel_rfl
end Yt
