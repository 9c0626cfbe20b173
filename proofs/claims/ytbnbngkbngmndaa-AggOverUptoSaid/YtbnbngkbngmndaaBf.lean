/- Contracts of the program's functions over abstract values and states, plain facts on which these lean, and the framework of these values over the model: The page's groups. The law AggOver. From the statement's arguments to those of the walks. The conditions stand in each theorem. -/
import Derived.Test.YtbnbngkbngmndaaBe
import Derived.Test.YtbnbngkbngmndaaBd
import Derived.Test.YtbnbngkbngmndaaBb
import Derived.JoinedCond
import Derived.WalkKit
import Derived.ProofKit
import Derived.Test.YtbnbngkbngmndaaRows
set_option linter.all false
namespace Yt
open Go Go.Vc Go.Proofs
set_option maxRecDepth 10000
set_option maxHeartbeats 8000000
set_option linter.unusedSimpArgs false
set_option linter.unusedVariables false
def Asks (z : List It) (cols : List Int) (kind col : Int) : Prop := ∀ t ∈ z, pickE t.row cols = 0 ∧ (kind ≠ 1 → inC col t.row.length = true)
/-- What the page tells of groups. -/
def RGroup (z : List It) (cols : List Int) (kind col : Int) (out : List It) (err : Int) : Prop :=
  (¬ (1 ≤ kind ∧ kind ≤ 4) ∧ out = [] ∧ err = 1) ∨ ((1 ≤ kind ∧ kind ≤ 4) ∧ 12 ≤ cols.length ∧ out = [] ∧ err = 2) ∨ ((1 ≤ kind ∧ kind ≤ 4) ∧ cols.length < 12 ∧ ¬ Asks z cols kind col ∧ out = [] ∧ err = 1) ∨
  ((1 ≤ kind ∧ kind ≤ 4) ∧ cols.length < 12 ∧ Asks z cols kind col ∧ ∃ gs, GpI cols z gs ∧ (((∃ g ∈ gs, gval kind col g = none) ∧ out = [] ∧ err = 11) ∨ ((∀ g ∈ gs, gval kind col g ≠ none) ∧ out = gs.map (gItem kind col) ∧ err = 0)))
theorem gmap_made {cols : List Int} {kind col : Int} {z : List It} {gs : List Gp} (h : GpI cols z gs) : Made (gs.map (gItem kind col)) := by
  refine ⟨?_, fun t ht => ?_⟩
  · rw [List.pairwise_map]
    refine List.Pairwise.imp_of_mem ?_ h.up
    intro x y hx hy hxy
    have e1 := h.atlen x hx
    have e2 := h.atlen y hy
    simp only [cI, gItem]
    rw [cmpR_app _ _ _ _ (by omega) (by omega)]; exact hxy
  · obtain ⟨g, _, rfl⟩ := List.mem_map.1 ht
    exact ⟨by simp [gItem], by simp [gItem]; decide⟩
theorem srt_made {x y : List It} (hx : Made x) (hp : y.Perm x) (hs : Srt y) : y = x := by
  refine made_eq ⟨?_, fun t ht => hx.nz t (hp.mem_iff.1 ht)⟩ hx fun r => tot_perm hp
  have hd : y.Pairwise fun a b => a.row ≠ b.row := by
    refine hp.pairwise_iff (fun {a b} h => Ne.symm h) |>.2 (made_rows hx)
  refine (hs.and hd).imp fun {a b} h => ?_
  have : cI a b ≠ 0 := fun e => h.2 (cI_eq.1 e)
  have := h.1
  omega
theorem c71 (z : List It) (cols : List Int) (kind col : Int) (hg : Good z) (hl : z.length ≤ 300000) (hc : cols.length < 1073741824) :
    Spec0 Try.prog 71 [setA z, intsL cols, iA kind, iA col] (fun r => ∃ (out : List It) (err : Int), r = .tu [setA out, iA err] ∧ RGroup z cols kind col out err) := by
  have hgr := good_r hg
  have hr62 : ∀ t ∈ z, t.row.length < 1073741824 := fun t ht => by have := hgr t ht; omega
  refine spec0_of_vc tabOk elems ord71 Try.func71 rfl (rl := [.tmp 8, .tmp 9]) rfl (by kernel_rfl) rfl ?_
  have bad : ∀ (e : Int) (s : St), 0 ∉ s.used → s.regs 8 = .nl → s.regs 9 = .pr (.int .i64 e) → RGroup z cols kind col [] e → GOES (fun st => hRes T st [.tmp 8, .tmp 9] fun v => v.noId = true ∧ ∃ (out : List It) (err : Int), v = .tu [setA out, iA err] ∧ RGroup z cols kind col out err) s := by
    intro e s hu h8 h9 hj
    refine TO [] [(8, setA []), (9, iA e)] [] [] rfl ?_ ?_
    · (simp -implicitDefEqProofs only [go_sem, setA, iA, h8, h9]; repeat (refine GO ?_; simp -implicitDefEqProofs only [go_sem, setA, iA, h8, h9]))
      exact ⟨fun h => absurd h hu, rfl⟩
    (simp -implicitDefEqProofs only [go_sem]; repeat (refine GO ?_; simp -implicitDefEqProofs only [go_sem]))
    exact ⟨rfl, [], e, rfl, hj⟩
  (simp -implicitDefEqProofs only [go_sem, setA, intsL, iA]; repeat (refine GO ?_; simp -implicitDefEqProofs only [go_sem, setA, intsL, iA]))
  refine .pure _ (show Spec0 Try.prog 87 [iA kind, iA 1, iA 4] _ from s53 kind 1 4) rfl fun q hq _ => ?_
  subst hq
  (simp -implicitDefEqProofs only [go_sem, bA, iA]; repeat (refine GO ?_; simp -implicitDefEqProofs only [go_sem, bA, iA]))
  refine VIF.split (fun h => ?_) (fun h => ?_)
  · have h : ¬ (1 ≤ kind ∧ kind ≤ 4) := by simp [inB] at h; omega
    simp -implicitDefEqProofs only [go_sem]
    exact bad 1 _ (by simp) rfl rfl (.inl ⟨h, rfl, rfl⟩)
  have hk : 1 ≤ kind ∧ kind ≤ 4 := by simpa [inB] using h
  (simp -implicitDefEqProofs only [go_sem]; repeat (refine GO ?_; simp -implicitDefEqProofs only [go_sem]))
  refine VIF.split (fun h => ?_) (fun h => ?_)
  · have h : 12 ≤ cols.length := by simp at h; omega
    simp -implicitDefEqProofs only [go_sem]
    exact bad 2 _ (by simp) rfl rfl (.inr (.inl ⟨hk, h, rfl, rfl⟩))
  have hc12 : cols.length < 12 := by simp at h; omega
  (simp -implicitDefEqProofs only [go_sem]; repeat (refine GO ?_; simp -implicitDefEqProofs only [go_sem]))
  refine LOOP.mk (ι := { i : Nat // i ≤ z.length ∧ ∀ j (h : j < z.length), j < i → pickE z[j].row cols = 0 ∧ (kind ≠ 1 → inC col z[j].row.length = true) }) (fun p => mkS [(0, setA z), (1, intsL cols), (2, iA kind), (3, iA col), (10, iA p.1)] [] [])
    (fun p => z.length - p.1) ⟨0, Nat.zero_le _, fun j _ h => absurd h (Nat.not_lt_zero _)⟩ [] rfl rfl ?_ (fun p => ?_)
  · (simp -implicitDefEqProofs only [go_sem, setA, intsL, iA]; repeat (refine GO ?_; simp -implicitDefEqProofs only [go_sem, setA, intsL, iA]))
    exact ⟨id, rfl⟩
  obtain ⟨i, hi, hz⟩ := p
  (simp -implicitDefEqProofs only [go_sem, setA, intsL, iA]; repeat (refine GO ?_; simp -implicitDefEqProofs only [go_sem, setA, intsL, iA]))
  refine VIF.split (fun h => ?_) (fun h => ?_)
  · have h : i < z.length := by simpa using h
    have hm := List.getElem_mem h
    have w1 := wrap_add1 (show i < 4611686018427387904 by omega)
    have hrl := hgr _ hm
    have w2 : IntKind.i64.wrap ((z[i].row.length : Int) - 1) = (z[i].row.length : Int) - 1 := by rw [wrap_i64] <;> omega
    have isbad : ¬ (pickE z[i].row cols = 0 ∧ (kind ≠ 1 → inC col z[i].row.length = true)) → RGroup z cols kind col [] 1 := fun hb => .inr (.inr (.inl ⟨hk, hc12, fun g => hb (g _ hm), rfl, rfl⟩))
    (simp -implicitDefEqProofs only [go_sem]; repeat (refine GO ?_; simp -implicitDefEqProofs only [go_sem]))
    refine EL.map h ?_
    (simp -implicitDefEqProofs only [go_sem, It.c, iA, rowA]; repeat (refine GO ?_; simp -implicitDefEqProofs only [go_sem, It.c, iA, rowA]))
    refine .pure _ (show Spec0 Try.prog 97 [rowA z[i].row, intsL cols] _ from c97 z[i].row cols (by omega) hc) rfl fun q hq _ => ?_
    obtain ⟨po, pe, rfl, hpe, _⟩ := hq
    (simp -implicitDefEqProofs only [go_sem, iA, rowA]; repeat (refine GO ?_; simp -implicitDefEqProofs only [go_sem, iA, rowA]))
    refine VIF.split (fun h2 => ?_) (fun h2 => ?_)
    · have h2 : pe ≠ 0 := by simpa using h2
      have h3 : pe = 1 := by
        rw [hpe] at h2 ⊢
        simp only [pickE] at h2 ⊢
        split
        · rfl
        · rename_i h4; rw [if_neg h4, if_neg (by omega)] at h2; exact absurd rfl h2
      subst h3
      simp -implicitDefEqProofs only [go_sem]
      exact bad 1 _ (by simp) rfl rfl (isbad fun g => by rw [← hpe] at g; exact absurd g.1 (by decide))
    have h2 : pe = 0 := by simpa using h2
    rw [h2] at hpe
    (simp -implicitDefEqProofs only [go_sem]; repeat (refine GO ?_; simp -implicitDefEqProofs only [go_sem]))
    refine VIF.split (fun h3 => ?_) (fun h3 => ?_)
    · have h3 : kind ≠ 1 := by simpa using h3
      (simp -implicitDefEqProofs only [go_sem]; repeat (refine GO ?_; simp -implicitDefEqProofs only [go_sem]))
      refine EL.map h ?_
      (simp -implicitDefEqProofs only [go_sem, It.c, iA, rowA, w2]; repeat (refine GO ?_; simp -implicitDefEqProofs only [go_sem, It.c, iA, rowA, w2]))
      refine .pure _ (show Spec0 Try.prog 87 [iA col, iA 0, iA ((z[i].row.length : Int) - 1)] _ from s53 col 0 ((z[i].row.length : Int) - 1)) rfl fun q hq _ => ?_
      subst hq
      (simp -implicitDefEqProofs only [go_sem, bA, iA]; repeat (refine GO ?_; simp -implicitDefEqProofs only [go_sem, bA, iA]))
      refine VIF.split (fun h4 => ?_) (fun h4 => ?_)
      · have h4 : inC col z[i].row.length = false := by simp [inB] at h4; simp [inC]; omega
        simp -implicitDefEqProofs only [go_sem]
        exact bad 1 _ (by simp) rfl rfl (isbad fun g => by rw [g.2 h3] at h4; cases h4)
      · have h4 : inC col z[i].row.length = true := by simp [inB] at h4; simp [inC]; omega
        (simp -implicitDefEqProofs only [go_sem, w1]; repeat (refine GO ?_; simp -implicitDefEqProofs only [go_sem, w1]))
        refine BACK.mk ⟨i + 1, by omega, fun j hj hji => if e : j = i then (by subst e; exact ⟨hpe.symm, fun _ => h4⟩) else hz j hj (by omega)⟩ [] rfl rfl (by show z.length - (i + 1) < z.length - i; omega) ?_
        (simp -implicitDefEqProofs only [go_sem, setA, intsL, iA, w1]; repeat (refine GO ?_; simp -implicitDefEqProofs only [go_sem, setA, intsL, iA, w1]))
        exact id
    · have h3 : kind = 1 := by simpa using h3
      (simp -implicitDefEqProofs only [go_sem, w1]; repeat (refine GO ?_; simp -implicitDefEqProofs only [go_sem, w1]))
      refine BACK.mk ⟨i + 1, by omega, fun j hj hji => if e : j = i then (by subst e; exact ⟨hpe.symm, fun h => absurd h3 h⟩) else hz j hj (by omega)⟩ [] rfl rfl (by show z.length - (i + 1) < z.length - i; omega) ?_
      (simp -implicitDefEqProofs only [go_sem, setA, intsL, iA, w1]; repeat (refine GO ?_; simp -implicitDefEqProofs only [go_sem, setA, intsL, iA, w1]))
      exact id
  have h : i = z.length := by simp at h; omega
  subst h
  have hasks : Asks z cols kind col := fun t ht => by
    obtain ⟨j, hj, rfl⟩ := List.mem_iff_getElem.1 ht
    exact hz j hj hj
  have hnz : ∀ t ∈ z, t.w ≠ 0 := fun t ht => ((good_made.1 hg).1.nz t ht).1
  (simp -implicitDefEqProofs only [go_sem]; repeat (refine GO ?_; simp -implicitDefEqProofs only [go_sem]))
  refine LOOP.mk (ι := { i : Nat // i ≤ z.length }) (fun i => mkS [(0, setA z), (1, intsL cols), (2, iA kind), (3, iA col), (13, .rf 1000 0 (kL cols z i.1).length), (14, iA i.1)] [(1000, so (kL cols z i.1))] [1000])
    (fun p => z.length - p.1) ⟨0, Nat.zero_le _⟩ [(1000, none)] rfl rfl ?_ (fun p => ?_)
  · (simp -implicitDefEqProofs only [go_sem, setA, intsL, iA, so]; repeat (refine GO ?_; simp -implicitDefEqProofs only [go_sem, setA, intsL, iA, so]))
    exact ⟨id, ⟨rfl, rfl⟩, rfl⟩
  obtain ⟨i, hi⟩ := p
  have hkl := kL_len (cols := cols) (z := z) i
  (simp -implicitDefEqProofs only [go_sem, setA, intsL, iA, so]; repeat (refine GO ?_; simp -implicitDefEqProofs only [go_sem, setA, intsL, iA, so]))
  refine VIF.split (fun h => ?_) (fun h => ?_)
  · have h : i < z.length := by simpa using h
    have hm := List.getElem_mem h
    have w1 := wrap_add1 (show i < 4611686018427387904 by omega)
    have hrl := hgr _ hm
    have hst := kL_step (cols := cols) h
    (simp -implicitDefEqProofs only [go_sem]; repeat (refine GO ?_; simp -implicitDefEqProofs only [go_sem]))
    refine EL.map h ?_
    (simp -implicitDefEqProofs only [go_sem, It.c, iA]; repeat (refine GO ?_; simp -implicitDefEqProofs only [go_sem, It.c, iA]))
    refine VIF.split (fun h2 => ?_) (fun h2 => ?_)
    · have h2 : 0 < z[i].w := by simpa using h2
      rw [show posI z[i] = true by simp [posI, h2], if_pos rfl] at hst
      (simp -implicitDefEqProofs only [go_sem]; repeat (refine GO ?_; simp -implicitDefEqProofs only [go_sem]))
      refine EL.map h ?_
      (simp -implicitDefEqProofs only [go_sem, It.c, iA, rowA]; repeat (refine GO ?_; simp -implicitDefEqProofs only [go_sem, It.c, iA, rowA]))
      refine .pure _ (show Spec0 Try.prog 97 [rowA z[i].row, intsL cols] _ from c97 z[i].row cols (by omega) hc) rfl fun q hq _ => ?_
      obtain ⟨po, pe, rfl, hpe, hpo, _⟩ := hq
      rw [(hasks _ hm).1] at hpe
      have hpo := hpo hpe
      subst hpo
      (simp -implicitDefEqProofs only [go_sem, iA, rowA, w1]; repeat (refine GO ?_; simp -implicitDefEqProofs only [go_sem, iA, rowA, w1]))
      refine ⟨by omega, ?_⟩
      (simp -implicitDefEqProofs only [go_sem, iA, rowA, w1]; repeat (refine GO ?_; simp -implicitDefEqProofs only [go_sem, iA, rowA, w1]))
      refine BACK.mk ⟨i + 1, by omega⟩ [(1000, some 89)] rfl rfl (by show z.length - (i + 1) < z.length - i; omega) ?_
      (simp -implicitDefEqProofs only [go_sem, setA, intsL, iA, so, w1, hst]; repeat (refine GO ?_; simp -implicitDefEqProofs only [go_sem, setA, intsL, iA, so, w1, hst]))
      exact ⟨id, by simp, so_snoc (t := ⟨pickR z[i].row cols, (i : Int)⟩) rfl⟩
    · have h2 : ¬ 0 < z[i].w := by simpa using h2
      rw [show posI z[i] = false by simp [posI]; omega, if_neg (by decide), List.append_nil] at hst
      (simp -implicitDefEqProofs only [go_sem, w1]; repeat (refine GO ?_; simp -implicitDefEqProofs only [go_sem, w1]))
      refine BACK.mk ⟨i + 1, by omega⟩ [(1000, some 1000)] rfl rfl (by show z.length - (i + 1) < z.length - i; omega) ?_
      (simp -implicitDefEqProofs only [go_sem, setA, intsL, iA, so, w1, hst]; repeat (refine GO ?_; simp -implicitDefEqProofs only [go_sem, setA, intsL, iA, so, w1, hst]))
      exact ⟨id, .same (so (kL cols z i)) _ _ (so_leafy _) rfl⟩
  have h : i = z.length := by simp at h; omega
  subst h
  simp -implicitDefEqProofs only [go_sem]
  refine FRZ 1000 (so (kL cols z z.length)) rfl (so_leafy _) ?_
  have hkl := kL_len (cols := cols) (z := z) z.length
  have hkr : ∀ t ∈ kL cols z z.length, t.row.length < 4611686018427387904 := fun t ht => by
    obtain ⟨i, _, rfl, _⟩ := kL_mem ht
    simp [pickR]; omega
  (simp -implicitDefEqProofs only [go_sem, so]; repeat (refine GO ?_; simp -implicitDefEqProofs only [go_sem, so]))
  refine .pure _ (show Spec0 Try.prog 112 [setA (kL cols z z.length)] _ from st54 _ _ (Nat.le_refl _) (by omega) hkr) rfl fun q hq _ => ?_
  obtain ⟨y, rfl, hp, hsr, hst⟩ := hq
  obtain ⟨gs, hgs⟩ := gpi_ex cols z
  obtain ⟨off, ru⟩ := runs hnz hgs hp hsr hst
  have hyl : y.length ≤ 300000 := by rw [hp.length_eq]; omega
  have hyr : ∀ t ∈ y, t.row.length < 4611686018427387904 := fun t ht => hkr t (hp.mem_iff.1 ht)
  have hgl : gs.length ≤ y.length := by
    have h : ∀ m, m ≤ gs.length → m ≤ off m := by
      intro m
      induction m with
      | zero => intro _; omega
      | succ m ih =>
        intro hm
        have h1 := ih (by omega)
        have h2 := ru.step m (by omega)
        have h3 := List.length_pos_iff.2 (hgs.some _ (List.getElem_mem (show m < gs.length by omega)))
        omega
    have := h gs.length (Nat.le_refl _)
    have := ru.full
    omega
  (simp -implicitDefEqProofs only [go_sem, setA]; repeat (refine GO ?_; simp -implicitDefEqProofs only [go_sem, setA]))
  refine LOOP.mk (ι := { m : Nat // m ≤ gs.length ∧ ∀ j (h : j < gs.length), j < m → gval kind col gs[j] ≠ none }) (fun m => mkS [(0, setA z), (2, iA kind), (3, iA col), (13, setA y), (17, .rf 1000 0 m.1), (18, iA (off m.1))] [(1000, so ((gs.take m.1).map (gItem kind col)))] [1000])
    (fun m => gs.length - m.1) ⟨0, Nat.zero_le _, fun j _ h => absurd h (Nat.not_lt_zero _)⟩ [(1000, none)] rfl rfl ?_ (fun m => ?_)
  · (simp -implicitDefEqProofs only [go_sem, setA, iA, so, ru.zero]; repeat (refine GO ?_; simp -implicitDefEqProofs only [go_sem, setA, iA, so, ru.zero]))
    exact ⟨id, rfl, rfl⟩
  obtain ⟨m, hm, hv⟩ := m
  have hol := ru.le m hm
  (simp -implicitDefEqProofs only [go_sem, setA, iA, so]; repeat (refine GO ?_; simp -implicitDefEqProofs only [go_sem, setA, iA, so]))
  refine VIF.split (fun h => ?_) (fun h => ?_)
  · have h : off m < y.length := by simpa using h
    have hmg : m < gs.length := by
      rcases Nat.lt_or_ge m gs.length with h1 | h1
      · exact h1
      · have : m = gs.length := by omega
        rw [this, ru.full] at h; omega
    have hgm := List.getElem_mem hmg
    have hne := List.length_pos_iff.2 (hgs.some _ hgm)
    have hstep := ru.step m hmg
    have hol2 := ru.le (m + 1) (by omega)
    obtain ⟨q0, q1, _⟩ := ru.at_ m hmg 0 hne
    have q1 : y[off m].row = gs[m].at_ := q1
    (simp -implicitDefEqProofs only [go_sem]; repeat (refine GO ?_; simp -implicitDefEqProofs only [go_sem]))
    refine LOOP.join (ι := Unit) (fun _ => mkS [(0, setA z), (2, iA kind), (3, iA col), (13, setA y), (17, .rf 1000 0 m), (18, iA (off m)), (19, iA (off m + gs[m].items.length : Nat)), (20, .rf 1001 0 gs[m].items.length)] [(1000, so ((gs.take m).map (gItem kind col))), (1001, so gs[m].items)] [1000, 1001]) ?_ (fun _ => ?_)
    · refine LOOP.mk (ι := { i : Nat // i ≤ gs[m].items.length }) (fun i => mkS [(0, setA z), (2, iA kind), (3, iA col), (13, setA y), (17, .rf 1000 0 m), (18, iA (off m)), (19, iA (off m + i.1 : Nat)), (20, .rf 1001 0 i.1)] [(1000, so ((gs.take m).map (gItem kind col))), (1001, so (gs[m].items.take i.1))] [1000, 1001])
        (fun i => gs[m].items.length - i.1) ⟨0, Nat.zero_le _⟩ [(1000, some 1000), (1001, none)] rfl rfl ?_ (fun i => ?_)
      · (simp -implicitDefEqProofs only [go_sem, setA, iA, so]; repeat (refine GO ?_; simp -implicitDefEqProofs only [go_sem, setA, iA, so]))
        exact ⟨id, .same (so ((gs.take m).map (gItem kind col))) _ _ (so_leafy _) rfl, rfl⟩
      obtain ⟨i, hi⟩ := i
      have hlt : i < gs[m].items.length ∨ i = gs[m].items.length := by omega
      (simp -implicitDefEqProofs only [go_sem, setA, iA, so]; repeat (refine GO ?_; simp -implicitDefEqProofs only [go_sem, setA, iA, so]))
      refine VIF.split (fun h1 => ?_) (fun h1 => ?_)
      · have h1 : off m + i < y.length := by simp at h1; omega
        (simp -implicitDefEqProofs only [go_sem]; repeat (refine GO ?_; simp -implicitDefEqProofs only [go_sem]))
        refine EL.map h1 ?_
        (simp -implicitDefEqProofs only [go_sem, It.c, iA]; repeat (refine GO ?_; simp -implicitDefEqProofs only [go_sem, It.c, iA]))
        refine EL.map h ?_
        (simp -implicitDefEqProofs only [go_sem, It.c, iA]; repeat (refine GO ?_; simp -implicitDefEqProofs only [go_sem, It.c, iA]))
        refine .pure _ (s55 y[off m + i].row y[off m].row (hyr _ (List.getElem_mem h1)) (hyr _ (List.getElem_mem h))) rfl fun q hq _ => ?_
        subst hq
        (simp -implicitDefEqProofs only [go_sem, iA]; repeat (refine GO ?_; simp -implicitDefEqProofs only [go_sem, iA]))
        refine VIF.split (fun h2 => ?_) (fun h2 => ?_)
        · have h2 : cmpR y[off m + i].row y[off m].row = 0 := by simpa using h2
          have hii : i < gs[m].items.length := by
            rcases hlt with h3 | h3
            · exact h3
            · exfalso
              subst h3
              have h4 := lin_cmpR.eq _ _ h2
              rw [q1] at h4
              have h5 : off (m + 1) < y.length := by omega
              refine ru.stop m hmg h5 ?_
              rw [← h4]
              congr 2
          obtain ⟨p0, p1, p2, p3, p4⟩ := ru.at_ m hmg i hii
          have w3 := wrap_add1 (show off m + i < 4611686018427387904 by omega)
          (simp -implicitDefEqProofs only [go_sem]; repeat (refine GO ?_; simp -implicitDefEqProofs only [go_sem]))
          refine EL.map h1 ?_
          (simp -implicitDefEqProofs only [go_sem, It.c, iA]; repeat (refine GO ?_; simp -implicitDefEqProofs only [go_sem, It.c, iA]))
          refine ⟨p2, EL.map p3 ?_⟩
          rw [p4]
          (simp -implicitDefEqProofs only [go_sem, It.c, iA]; repeat (refine GO ?_; simp -implicitDefEqProofs only [go_sem, It.c, iA]))
          refine ⟨by have : (List.take i gs[m].items).length ≤ i := by rw [List.length_take]; omega
                     omega, ?_⟩
          (simp -implicitDefEqProofs only [go_sem, w3]; repeat (refine GO ?_; simp -implicitDefEqProofs only [go_sem, w3]))
          refine BACK.mk ⟨i + 1, by omega⟩ [(1000, some 1000), (1001, some 125)] rfl rfl (by show gs[m].items.length - (i + 1) < gs[m].items.length - i; omega) ?_
          have ht : List.take (i + 1) gs[m].items = List.take i gs[m].items ++ [gs[m].items[i]] := List.take_succ_eq_append_getElem hii
          (simp -implicitDefEqProofs only [go_sem, setA, iA, so, w3, ht]; repeat (refine GO ?_; simp -implicitDefEqProofs only [go_sem, setA, iA, so, w3, ht]))
          refine ⟨id, rfl, .same (so ((gs.take m).map (gItem kind col))) _ _ (so_leafy _) rfl, ?_⟩
          have tk : List.take i (List.map It.c (List.take i gs[m].items)) = List.map It.c (List.take i gs[m].items) := List.take_of_length_le (by rw [List.length_map, List.length_take]; omega)
          rw [tk]
          exact so_snoc (t := gs[m].items[i]) rfl
        · have h2 : cmpR y[off m + i].row y[off m].row ≠ 0 := by simpa using h2
          have hii : i = gs[m].items.length := by
            rcases hlt with h3 | h3
            · exfalso
              obtain ⟨p0, p1, _⟩ := ru.at_ m hmg i h3
              rw [p1, q1, cmpR_self] at h2
              exact h2 rfl
            · exact h3
          subst hii
          (simp -implicitDefEqProofs only [go_sem]; repeat (refine GO ?_; simp -implicitDefEqProofs only [go_sem]))
          refine JB.mk () [(1000, some 1000), (1001, some 1001)] rfl rfl ?_
          (simp -implicitDefEqProofs only [go_sem, setA, iA, so, List.take_length]; repeat (refine GO ?_; simp -implicitDefEqProofs only [go_sem, setA, iA, so, List.take_length]))
          exact ⟨id, .same (so ((gs.take m).map (gItem kind col))) _ _ (so_leafy _) rfl, .same (so gs[m].items) _ _ (so_leafy _) rfl⟩
      · have h1 : off m + i = y.length := by simp at h1; omega
        have hii : i = gs[m].items.length := by
          rcases hlt with h3 | h3
          · exfalso
            obtain ⟨p0, _⟩ := ru.at_ m hmg i h3
            omega
          · exact h3
        subst hii
        (simp -implicitDefEqProofs only [go_sem]; repeat (refine GO ?_; simp -implicitDefEqProofs only [go_sem]))
        refine JB.mk () [(1000, some 1000), (1001, some 1001)] rfl rfl ?_
        (simp -implicitDefEqProofs only [go_sem, setA, iA, so, List.take_length]; repeat (refine GO ?_; simp -implicitDefEqProofs only [go_sem, setA, iA, so, List.take_length]))
        exact ⟨id, .same (so ((gs.take m).map (gItem kind col))) _ _ (so_leafy _) rfl, .same (so gs[m].items) _ _ (so_leafy _) rfl⟩
    · simp -implicitDefEqProofs only [go_sem, setA, iA, so]
      refine FRZ 1001 (so gs[m].items) rfl (so_leafy _) ?_
      (simp -implicitDefEqProofs only [go_sem, setA, iA, so]; repeat (refine GO ?_; simp -implicitDefEqProofs only [go_sem, setA, iA, so]))
      have hgi : ∀ t ∈ gs[m].items, t ∈ z := fun t ht => by rw [hgs.items _ hgm, List.mem_filter] at ht; exact ht.1
      have hil : gs[m].items.length ≤ z.length := by rw [hgs.items _ hgm]; exact List.length_filter_le _ _
      refine .pure _ (show Spec0 Try.prog 113 [setA gs[m].items, iA kind, iA col] _ from c113 gs[m].items kind col hk (by omega) (fun t ht => good_w hg (hgi t ht)) (fun t ht => okR_bound ((good_made.1 hg).2 t (hgi t ht))) (fun h t ht => (hasks t (hgi t ht)).2 h) gs[m].at_) rfl fun q hq _ => ?_
      subst hq
      rw [show (⟨gs[m].at_, gs[m].items⟩ : Gp) = gs[m] from rfl]
      have hal := hgs.atlen _ hgm
      (simp -implicitDefEqProofs only [go_sem, setA, iA, so, bA]; repeat (refine GO ?_; simp -implicitDefEqProofs only [go_sem, setA, iA, so, bA]))
      refine ⟨⟨rfl, Nat.le_refl 3⟩, ?_⟩
      refine VIF.split (fun h2 => ?_) (fun h2 => ?_)
      · have h2 : gval kind col gs[m] = none := by simpa using h2
        simp -implicitDefEqProofs only [go_sem]
        exact bad 11 _ (by simp) rfl rfl (.inr (.inr (.inr ⟨hk, hc12, hasks, gs, hgs, .inl ⟨⟨_, hgm, h2⟩, rfl, rfl⟩⟩)))
      have h2 : (gval kind col gs[m]).isSome = true := by simpa using h2
      obtain ⟨v, hgv⟩ := Option.isSome_iff_exists.1 h2
      rw [hgv]
      simp -implicitDefEqProofs only [go_sem, Option.getD_some]
      refine TO [(1000, some 1000)] [(0, setA z), (2, iA kind), (3, iA col), (13, setA y), (17, .rf 1000 0 m), (18, iA (off m)), (19, iA (off m + gs[m].items.length : Nat)), (21, .ro v.c 0)] [(1000, so ((gs.take m).map (gItem kind col)))] [1000] rfl ?_ ?_
      · (simp -implicitDefEqProofs only [go_sem, V.c, iA, setA, so]; repeat (refine GO ?_; simp -implicitDefEqProofs only [go_sem, V.c, iA, setA, so]))
        exact ⟨id, ⟨by decide, _, rfl, leaf_box v, rfl⟩, .same (so ((gs.take m).map (gItem kind col))) _ _ (so_leafy _) rfl⟩
      (simp -implicitDefEqProofs only [go_sem, V.c, iA, setA, so]; repeat (refine GO ?_; simp -implicitDefEqProofs only [go_sem, V.c, iA, setA, so]))
      refine EL.map h ?_
      have hyl2 := hyr _ (List.getElem_mem h)
      (simp -implicitDefEqProofs only [go_sem, It.c, rowA, q1, V.c]; repeat (refine GO ?_; simp -implicitDefEqProofs only [go_sem, It.c, rowA, q1, V.c]))
      have s45' : Spec1 Try.prog 45 [.im 3 (gs[m].at_.map V.c)] _ := s52 gs[m].at_ (by omega)
      refine ⟨.make 143 _ s45' rfl (by simp) rfl fun q o hq _ => ?_, .make 143 _ s45' rfl (by simp) rfl fun q o hq _ => ?_⟩
      all_goals obtain ⟨rfl, rfl⟩ := hq
      all_goals (simp -implicitDefEqProofs only [go_sem, V.c, iA, ro3, so]; repeat (refine GO ?_; simp -implicitDefEqProofs only [go_sem, V.c, iA, ro3, so]))
      all_goals refine ⟨by omega, by omega, ?_⟩
      all_goals refine BACK.mk ⟨m + 1, by omega, fun j hj hji => if e : j = m then (by subst e; rw [hgv]; simp) else hv j hj (by omega)⟩ [(1000, some 149)] rfl rfl (by show gs.length - (m + 1) < gs.length - m; omega) ?_
      all_goals (simp -implicitDefEqProofs only [go_sem, setA, iA, so, hstep]; repeat (refine GO ?_; simp -implicitDefEqProofs only [go_sem, setA, iA, so, hstep]))
      all_goals
        refine ⟨id, ?_⟩
        rw [List.take_succ_eq_append_getElem hmg, List.map_append, List.map_append, List.map_cons, List.map_nil, List.map_cons, List.map_nil, List.take_of_length_le (l := List.map It.c (List.map (gItem kind col) (List.take m gs))) (by simp; omega)]
        refine Es_snoc (l := List.map It.c (List.map (gItem kind col) (List.take m gs))) (fun x hx a ha => so_leafy ((gs.take m).map (gItem kind col)) x hx a ha) ?_
        (simp -implicitDefEqProofs only [go_sem, It.c, gItem, hgv, rowA, iA]; repeat (refine GO ?_; simp -implicitDefEqProofs only [go_sem, It.c, gItem, hgv, rowA, iA]))
        exact ⟨by decide, ro3 (gs[m].at_ ++ [v]), by rw [ro3, List.map_append]; rfl, ro3_leafy _, rfl, List.take_of_length_le (by simp [ro3])⟩
  · have h : off m = y.length := by simp at h; omega
    have hmg : m = gs.length := by
      rcases Nat.lt_or_ge m gs.length with h1 | h1
      · obtain ⟨q0, _⟩ := ru.at_ m h1 0 (List.length_pos_iff.2 (hgs.some _ (List.getElem_mem h1)))
        omega
      · omega
    subst hmg
    rw [List.take_length]
    simp -implicitDefEqProofs only [go_sem]
    refine FRZ 1000 (so (gs.map (gItem kind col))) rfl (so_leafy _) ?_
    have tk : List.take gs.length (List.map It.c (List.map (gItem kind col) gs)) = List.map It.c (List.map (gItem kind col) gs) := List.take_of_length_le (by simp)
    (simp -implicitDefEqProofs only [go_sem, so, tk]; repeat (refine GO ?_; simp -implicitDefEqProofs only [go_sem, so, tk]))
    have ho : ∀ t ∈ gs.map (gItem kind col), t.row.length < 4611686018427387904 := fun t ht => by
      obtain ⟨g, hgm, rfl⟩ := List.mem_map.1 ht
      have := hgs.atlen g hgm
      simp [gItem]; omega
    refine .pure _ (show Spec0 Try.prog 112 [setA (gs.map (gItem kind col))] _ from st54 _ _ (Nat.le_refl _) (by simp; omega) ho) rfl fun q hq _ => ?_
    obtain ⟨y2, rfl, hp2, hs2, _⟩ := hq
    have e2 := srt_made (gmap_made hgs) hp2 hs2
    subst e2
    (simp -implicitDefEqProofs only [go_sem, setA, iA]; repeat (refine GO ?_; simp -implicitDefEqProofs only [go_sem, setA, iA]))
    exact ⟨rfl, _, 0, rfl, .inr (.inr (.inr ⟨hk, hc12, hasks, gs, hgs, .inr ⟨fun g hgm => by
      obtain ⟨j, hj, rfl⟩ := List.mem_iff_getElem.1 hgm
      exact hv j hj hj, rfl, rfl⟩⟩))⟩
end Yt
namespace Yt
open Go Go.Vc Go.Proofs
set_option maxRecDepth 10000
set_option maxHeartbeats 8000000
set_option linter.unusedSimpArgs false
set_option linter.unusedVariables false
def ovI (w v : Int) (j : Nat) : It := ⟨w2 j v, w⟩
def ovZ (w v : Int) (n : Nat) : List It := (List.range n).map (ovI w v)
theorem ovZ_len (w v : Int) (n : Nat) : (ovZ w v n).length = n := by simp [ovZ]
theorem ovZ_succ (w v : Int) (n : Nat) : ovZ w v (n + 1) = ovZ w v n ++ [ovI w v n] := by simp [ovZ, List.range_succ]
theorem ovZ_mem {w v : Int} {n : Nat} {t : It} (h : t ∈ ovZ w v n) : ∃ j : Nat, j < n ∧ t = ovI w v j := by
  obtain ⟨j, hj, rfl⟩ := List.mem_map.1 h
  exact ⟨j, List.mem_range.1 hj, rfl⟩
theorem ovZ_good {w v : Int} {n : Nat} (hw : 0 < w ∧ w ≤ 72057594037927936) (hv : -72057594037927936 ≤ v ∧ v ≤ 72057594037927936) (hn : n ≤ 20) : Good (ovZ w v n) := by
  refine good_made.2 ⟨⟨?_, fun t ht => ?_⟩, fun t ht => ?_⟩
  · rw [ovZ, List.pairwise_map]
    refine List.Pairwise.imp ?_ List.pairwise_lt_range
    intro a b hab
    have : cmpI (a : Int) b = -1 := by simp [cmpI]; omega
    simp only [cI, ovI, cmpR_w2, this]
    rw [if_neg (by decide)]; decide
  · obtain ⟨j, _, rfl⟩ := ovZ_mem ht
    exact ⟨by simp only [ovI]; omega, ok_of (by simp only [ovI]; omega) (by simp only [ovI]; omega)⟩
  · obtain ⟨j, hj, rfl⟩ := ovZ_mem ht
    exact w2_ok (by omega) (by omega)
theorem ov_sum {w v p : Int} (hp : p = w * v) : ∀ (l : List It) (n : Int), (∀ t ∈ l, t.w = w ∧ getV t.row 1 = iV v) → inVal p = true →
    sumF 2 1 l n = if ∀ j : Nat, j < l.length → inVal (n + (j + 1 : Nat) * p) = true then some (n + l.length * p) else none
  | [], n, _, _ => by simp [sumF]
  | t :: l, n, h, h1 => by
    obtain ⟨e1, e2⟩ := h t (by simp)
    have ih := ov_sum hp l (n + p) (fun u hu => h u (by simp [hu])) h1
    have step : ∀ j : Nat, n + p + (j + 1 : Nat) * p = n + ((j + 1 : Nat) + 1 : Nat) * p := fun j => by
      rw [Int.natCast_add ((j + 1 : Nat)) 1, Int.add_mul]; simp; omega
    simp only [sumF, e2, e1]
    rw [if_neg (fun h => h.2 rfl)]
    simp only [if_true]
    show (if (inVal (w * v) && inVal (n + w * v)) = true then sumF 2 1 l (n + w * v) else none) = _
    rw [← hp, h1, Bool.true_and]
    by_cases h2 : inVal (n + p) = true
    · rw [if_pos h2, ih]
      by_cases h3 : ∀ j : Nat, j < l.length → inVal (n + p + (j + 1 : Nat) * p) = true
      · rw [if_pos h3, if_pos]
        · congr 1
          have := step l.length
          rw [List.length_cons, Int.natCast_add l.length 1, Int.add_mul]; simp; omega
        · intro j hj
          cases j with
          | zero => simpa using h2
          | succ j => rw [← step]; exact h3 j (by simpa using hj)
      · rw [if_neg h3, if_neg]
        intro h4
        refine h3 fun j hj => ?_
        rw [step]; exact h4 (j + 1) (by simpa using hj)
    · rw [if_neg h2, if_neg]
      intro h4
      have := h4 0 (by simp)
      simp at this
      exact h2 this
theorem ov_first {w v : Int} {l : List It} {n : Int} (h : ∀ t ∈ l, t.w = w ∧ getV t.row 1 = iV v) (hne : l ≠ []) (h1 : inVal (w * v) = false) : sumF 2 1 l n = none := by
  match l, hne with
  | t :: l, _ =>
    obtain ⟨e1, e2⟩ := h t (by simp)
    simp only [sumF, e2, e1]
    rw [if_neg (fun h => h.2 rfl)]
    simp only [if_true]
    show (if (inVal (w * v) && inVal (n + w * v)) = true then sumF 2 1 l (n + w * v) else none) = _
    rw [h1]; rfl
theorem ov_val {W v : Int} {n : Nat} (hW : 0 < W) (hv : v = 72057594037927936 ∨ v = -72057594037927936) (hn : 1 ≤ n ∧ n ≤ 20) :
    gval 2 1 ⟨[], ovZ W v n⟩ = if W ≤ 16 ∧ (n : Int) * W ≤ 16 then some (iV ((n : Int) * (W * v))) else none := by
  have hall : ∀ t ∈ ovZ W v n, t.w = W ∧ getV t.row 1 = iV v := fun t ht => by
    obtain ⟨j, _, rfl⟩ := ovZ_mem ht
    exact ⟨rfl, rfl⟩
  have hne : ovZ W v n ≠ [] := fun h => by have := congrArg List.length h; rw [ovZ_len] at this; simp at this; omega
  rw [gval, if_pos (.inr rfl)]
  show (sumF 2 1 (ovZ W v n) 0).map _ = _
  have bd : ∀ x : Int, inVal (x * v) = true ↔ -16 ≤ x ∧ x ≤ 16 := fun x => by
    simp only [inVal, inB, Bool.and_eq_true, decide_eq_true_eq]
    rcases hv with rfl | rfl <;> omega
  by_cases h1 : W ≤ 16
  · have hp : inVal (W * v) = true := (bd W).2 (by omega)
    rw [ov_sum rfl _ 0 hall hp, ovZ_len]
    have e : ∀ j : Nat, 0 + ((j + 1 : Nat) : Int) * (W * v) = (((j + 1 : Nat) : Int) * W) * v := fun j => by rw [Int.zero_add, Int.mul_assoc]
    have hmono : ∀ j : Nat, j < n → ((j + 1 : Nat) : Int) * W ≤ n * W := fun j hj => Int.mul_le_mul_of_nonneg_right (by omega) (by omega)
    have hpos : ∀ j : Nat, 0 ≤ ((j + 1 : Nat) : Int) * W := fun j => Int.mul_nonneg (by omega) (by omega)
    by_cases h2 : (n : Int) * W ≤ 16
    · have c1 : W ≤ 16 ∧ (n : Int) * W ≤ 16 := ⟨h1, h2⟩
      rw [if_pos c1, if_pos]
      · rw [Int.zero_add]; rfl
      · intro j hj
        rw [e, bd]
        have := hmono j hj
        have := hpos j
        omega
    · have c1 : ¬ (W ≤ 16 ∧ (n : Int) * W ≤ 16) := fun h => h2 h.2
      rw [if_neg c1, if_neg]
      · rfl
      · intro h3
        have h4 := h3 (n - 1) (by omega)
        rw [e, bd, show n - 1 + 1 = n by omega] at h4
        omega
  · have hp : inVal (W * v) = false := by
      cases h2 : inVal (W * v) with
      | false => rfl
      | true => have := (bd W).1 h2; omega
    have c1 : ¬ (W ≤ 16 ∧ (n : Int) * W ≤ 16) := fun h => h1 h.1
    rw [ov_first hall hne hp, if_neg c1]
    rfl
theorem ov_gs {W v : Int} {n : Nat} (hW : 0 < W) (hn : 1 ≤ n) : GpI [] (ovZ W v n) [⟨[], ovZ W v n⟩] := by
  have hp : ∀ t ∈ ovZ W v n, ¬ t.w < 0 := fun t ht => by
    obtain ⟨j, _, rfl⟩ := ovZ_mem ht
    simp only [ovI]; omega
  have hne : ovZ W v n ≠ [] := fun h => by have := congrArg List.length h; rw [ovZ_len] at this; simp at this; omega
  refine ⟨List.pairwise_singleton _ _, fun g hg => ?_, by simpa using hne, fun t ht hw => ⟨⟨[], ovZ W v n⟩, by simp, rfl⟩⟩
  simp only [List.mem_singleton] at hg
  subst hg
  refine (List.filter_eq_self.2 fun t ht => ?_).symm
  have e : cmpR (pickR t.row []) [] = 0 := rfl
  simp [hp t ht, e]
theorem ov_end {W v e1 e2 : Int} {n : Nat} {a b : List It} (hW : 0 < W ∧ W ≤ 72057594037927936) (hv : v = 72057594037927936 ∨ v = -72057594037927936) (hn : 1 ≤ n ∧ n ≤ 20) (ha : GroupR (ovZ W v n) [] 2 1 a e1) (hb : RGroup (ovZ W v n) [] 2 1 b e2) :
    ((W ≤ 16 ∧ (n : Int) * W ≤ 16) ∧ e1 = 0 ∧ e2 = 0 ∧ a = [⟨[iV ((n : Int) * (W * v))], 1⟩] ∧ b = a) ∨ (¬ (W ≤ 16 ∧ (n : Int) * W ≤ 16) ∧ e1 = 11 ∧ e2 = 11 ∧ a = [] ∧ b = []) := by
  have hg := ovZ_good (v := v) (n := n) hW (by omega) hn.2
  have hval := ov_val hW.1 hv hn
  have hgs := ov_gs (v := v) hW.1 hn.1
  have hrow : ∀ t ∈ ovZ W v n, pickE t.row [] = 0 ∧ ((2 : Int) ≠ 1 → inC 1 t.row.length = true) := fun t ht => by
    obtain ⟨j, _, rfl⟩ := ovZ_mem ht
    exact ⟨rfl, fun _ => rfl⟩
  have hA : ((∃ g ∈ [(⟨[], ovZ W v n⟩ : Gp)], gval 2 1 g = none) ∧ a = [] ∧ e1 = 11) ∨ ((∀ g ∈ [(⟨[], ovZ W v n⟩ : Gp)], gval 2 1 g ≠ none) ∧ MakeR ([(⟨[], ovZ W v n⟩ : Gp)].map (gItem 2 1)) a e1) := by
    rcases ha with ⟨h, _⟩ | ⟨_, gs, h1, _, h2⟩
    · exact absurd ⟨hg, by decide, by decide, by decide, hrow⟩ h
    · have := h1.uniq hgs; subst this; exact h2
  have hB : ((∃ g ∈ [(⟨[], ovZ W v n⟩ : Gp)], gval 2 1 g = none) ∧ b = [] ∧ e2 = 11) ∨ ((∀ g ∈ [(⟨[], ovZ W v n⟩ : Gp)], gval 2 1 g ≠ none) ∧ b = [(⟨[], ovZ W v n⟩ : Gp)].map (gItem 2 1) ∧ e2 = 0) := by
    rcases hb with ⟨h, _⟩ | ⟨_, h, _⟩ | ⟨_, _, h, _⟩ | ⟨_, _, _, gs, h1, h2⟩
    · exact absurd ⟨by decide, by decide⟩ h
    · exact absurd h (by decide)
    · exact absurd hrow h
    · have := h1.uniq hgs; subst this; exact h2
  simp only [List.mem_singleton, exists_eq_left, forall_eq, List.map_cons, List.map_nil] at hA hB
  by_cases hc : W ≤ 16 ∧ (n : Int) * W ≤ 16
  · rw [if_pos hc] at hval
    have hitem : gItem 2 1 ⟨[], ovZ W v n⟩ = ⟨[iV ((n : Int) * (W * v))], 1⟩ := by simp [gItem, hval]
    rw [hval, hitem] at hA hB
    simp only [reduceCtorEq, false_and, false_or, ne_eq, not_false_iff, true_and] at hA hB
    have hb2 : -1152921504606846976 ≤ (n : Int) * (W * v) ∧ (n : Int) * (W * v) ≤ 1152921504606846976 := by
      rw [← Int.mul_assoc]
      have h0 : 0 ≤ (n : Int) * W := Int.mul_nonneg (by omega) (by omega)
      have hx : ∀ x : Int, 0 ≤ x → x ≤ 16 → -1152921504606846976 ≤ x * v ∧ x * v ≤ 1152921504606846976 := fun x h1 h2 => by rcases hv with rfl | rfl <;> omega
      exact hx _ h0 hc.2
    have hok : okR [iV ((n : Int) * (W * v))] = 0 := okR_all.2 ⟨by simp, fun u hu => by simp at hu; subst hu; exact iV_ok hb2⟩
    have hm : Made [⟨[iV ((n : Int) * (W * v))], 1⟩] := ⟨List.pairwise_singleton _ _, by simp [okW, inB]⟩
    obtain ⟨h1, h2⟩ := makeR_ok hA (by simp [okI, hok, okW, inB]) hm fun _ => rfl
    exact .inl ⟨hc, h2, hB.2, h1, by rw [h1]; exact hB.1⟩
  · rw [if_neg hc] at hval
    rw [hval] at hA hB
    simp only [true_and, ne_eq, not_true, false_and, or_false] at hA hB
    exact .inr ⟨hc, hA.2, hB.2, hA.1, hB.1⟩
theorem shlK : ∀ k : Nat, k < 57 → IntKind.i64.wrap (1 * 2 ^ min k 64) = ((2 ^ k : Nat) : Int) ∧ 0 < 2 ^ k ∧ 2 ^ k ≤ 72057594037927936 := by decide
theorem c21 (p0 p1 : Int) (neg : Bool) : Spec0 Try.prog 21 [iA p0, iA p1, bA neg] (· = bA true) := by
  obtain ⟨m0, ho, ho1, ho2⟩ := u64_rem p0 20 (by decide) (by decide)
  obtain ⟨k, ho3, ho4, ho5⟩ := u64_rem p1 57 (by decide) (by decide)
  obtain ⟨n, hn⟩ : ∃ n, n = m0 + 1 := ⟨_, rfl⟩
  have u0 : IntKind.i64.wrap (1 + (m0 : Int)) = (n : Int) := by rw [wrap_i64] <;> omega
  obtain ⟨hk1, hk2, hk3⟩ := shlK k (by omega)
  have wn : IntKind.i64.wrap (-72057594037927936) = -72057594037927936 := by rw [wrap_i64] <;> omega
  refine spec0_of_vc tabOk elems ord21 Try.func21 rfl (rl := [.tmp 6]) rfl (by kernel_rfl) rfl ?_
  (simp -implicitDefEqProofs only [go_sem, iA, bA]; repeat (refine GO ?_; simp -implicitDefEqProofs only [go_sem, iA, bA]))
  (simp -implicitDefEqProofs only [go_sem, ho, ho2, ho3, ho5, u0]; repeat (refine GO ?_; simp -implicitDefEqProofs only [go_sem, ho, ho2, ho3, ho5, u0]))
  obtain ⟨W, hW⟩ : ∃ W : Int, W = ((2 ^ k : Nat) : Int) := ⟨_, rfl⟩
  have hW0 : 0 < W ∧ W ≤ 72057594037927936 := by rw [hW]; omega
  have hn1 : 1 ≤ n ∧ n ≤ 20 := by omega
  refine ⟨by decide, by decide, ?_⟩
  refine VIF.join (ι := { v : Int // v = 72057594037927936 ∨ v = -72057594037927936 }) (fun v => mkS [(0, iA n), (1, iA W), (7, iA v.1)] [] []) (fun h1 => ?_) (fun h1 => ?_) (fun v => ?_)
  · (simp -implicitDefEqProofs only [go_sem, wn]; repeat (refine GO ?_; simp -implicitDefEqProofs only [go_sem, wn]))
    refine JB.mk ⟨-72057594037927936, .inr rfl⟩ [] rfl rfl ?_
    (simp -implicitDefEqProofs only [go_sem, iA, hk1, wn, hW]; repeat (refine GO ?_; simp -implicitDefEqProofs only [go_sem, iA, hk1, wn, hW]))
    exact ⟨id, by rw [ho, ho2, u0], by rw [ho3, ho5, u64_nat (by omega), Int.toNat_natCast, hk1], by rw [show (0 : Int) - 72057594037927936 = -72057594037927936 from rfl, wn]⟩
  · (simp -implicitDefEqProofs only [go_sem]; repeat (refine GO ?_; simp -implicitDefEqProofs only [go_sem]))
    refine JB.mk ⟨72057594037927936, .inl rfl⟩ [] rfl rfl ?_
    (simp -implicitDefEqProofs only [go_sem, iA, hk1, hW]; repeat (refine GO ?_; simp -implicitDefEqProofs only [go_sem, iA, hk1, hW]))
    exact ⟨id, by rw [ho, ho2, u0], by rw [ho3, ho5, u64_nat (by omega), Int.toNat_natCast, hk1]⟩
  obtain ⟨v, hv⟩ := v
  have hvb : -72057594037927936 ≤ v ∧ v ≤ 72057594037927936 := by omega
  (simp -implicitDefEqProofs only [go_sem, iA]; repeat (refine GO ?_; simp -implicitDefEqProofs only [go_sem, iA]))
  refine LOOP.mk (ι := { i : Nat // i ≤ n }) (fun i => mkS [(0, iA n), (1, iA W), (7, iA v), (8, .rf 1000 0 i.1), (9, iA i.1)] [(1000, so (ovZ W v i.1))] [1000]) (fun i => n - i.1) ⟨0, Nat.zero_le _⟩ [(1000, none)] rfl rfl ?_ (fun i => ?_)
  · (simp -implicitDefEqProofs only [go_sem, iA, so]; repeat (refine GO ?_; simp -implicitDefEqProofs only [go_sem, iA, so]))
    exact ⟨id, rfl, rfl⟩
  obtain ⟨i, hi⟩ := i
  (simp -implicitDefEqProofs only [go_sem, iA, so]; repeat (refine GO ?_; simp -implicitDefEqProofs only [go_sem, iA, so]))
  refine VIF.split (fun h => ?_) (fun h => ?_)
  · have h : i < n := by simpa using h
    have w1 := wrap_add1 (show i < 4611686018427387904 by omega)
    (simp -implicitDefEqProofs only [go_sem]; repeat (refine GO ?_; simp -implicitDefEqProofs only [go_sem]))
    refine .pure _ (show Spec0 Try.prog 70 [iA i, iA v] _ from c70 i v) rfl fun r hq _ => ?_
    subst hq
    (simp -implicitDefEqProofs only [go_sem, iA, rowA, w1]; repeat (refine GO ?_; simp -implicitDefEqProofs only [go_sem, iA, rowA, w1]))
    refine ⟨by omega, ?_⟩
    (simp -implicitDefEqProofs only [go_sem, w1]; repeat (refine GO ?_; simp -implicitDefEqProofs only [go_sem, w1]))
    refine BACK.mk ⟨i + 1, by omega⟩ [(1000, some 40)] rfl rfl (by show n - (i + 1) < n - i; omega) ?_
    (simp -implicitDefEqProofs only [go_sem, iA, so, w1, ovZ_succ]; repeat (refine GO ?_; simp -implicitDefEqProofs only [go_sem, iA, so, w1, ovZ_succ]))
    refine ⟨id, ?_⟩
    have tk : List.take i (List.map It.c (ovZ W v i)) = List.map It.c (ovZ W v i) := List.take_of_length_le (by simp [ovZ_len])
    rw [tk]
    exact so_snoc (t := ovI W v i) rfl
  have h : i = n := by simp at h; omega
  subst h
  have hg := ovZ_good (n := i) hW0 hvb hn1.2
  have hzl := ovZ_len W v i
  have hzr : ∀ t ∈ ovZ W v i, t.row.length < 1073741824 := fun t ht => by have := good_r hg t ht; omega
  have hgs := ov_gs (v := v) hW0.1 hn1.1
  have hval := ov_val hW0.1 hv hn1
  simp -implicitDefEqProofs only [go_sem]
  refine FRZ 1000 (so (ovZ W v i)) rfl (so_leafy _) ?_
  have tk : List.take i (List.map It.c (ovZ W v i)) = List.map It.c (ovZ W v i) := List.take_of_length_le (by simp [hzl])
  (simp -implicitDefEqProofs only [go_sem, so, tk]; repeat (refine GO ?_; simp -implicitDefEqProofs only [go_sem, so, tk]))
  refine .pure _ (show Spec0 Try.prog 67 [setA (ovZ W v i), .nl, iA 2, iA 1] _ from g67z (ovZ W v i) 2 1 (by omega) hzr) rfl fun r hq _ => ?_
  obtain ⟨a, e1, rfl, ha⟩ := hq
  (simp -implicitDefEqProofs only [go_sem, setA, iA]; repeat (refine GO ?_; simp -implicitDefEqProofs only [go_sem, setA, iA]))
  have c71z : Spec0 Try.prog 71 [setA (ovZ W v i), .nl, iA 2, iA 1] _ := spec0_nls (c71 (ovZ W v i) [] 2 1 hg (by omega) (by decide)) ⟨.inl rfl, .inr ⟨rfl, 1, rfl⟩, .inl rfl, .inl rfl, trivial⟩
  refine .pure _ c71z rfl fun r hq _ => ?_
  obtain ⟨b, e2, rfl, hb⟩ := hq
  (simp -implicitDefEqProofs only [go_sem, setA, iA]; repeat (refine GO ?_; simp -implicitDefEqProofs only [go_sem, setA, iA]))
  have wn2 : IntKind.i64.wrap ((i : Int) * W) = i * W ∨ ¬ W ≤ 16 := by
    by_cases h : W ≤ 16
    · have h2 : (i : Int) * W ≤ 20 * 16 := by
        have := Int.mul_le_mul (show (i : Int) ≤ 20 by omega) h (by omega) (by omega)
        omega
      have h3 : 0 ≤ (i : Int) * W := Int.mul_nonneg (by omega) (by omega)
      exact .inl (by rw [wrap_i64] <;> omega)
    · exact .inr h
  rcases ov_end hW0 hv hn1 ha hb with ⟨hc, rfl, rfl, rfl, rfl⟩ | ⟨hc, rfl, rfl, rfl, rfl⟩
  · refine VIF.ff (by simp) ?_
    (simp -implicitDefEqProofs only [go_sem]; repeat (refine GO ?_; simp -implicitDefEqProofs only [go_sem]))
    refine .pure _ (show Spec0 Try.prog 28 [setA [⟨[iV ((i : Int) * (W * v))], 1⟩], setA [⟨[iV ((i : Int) * (W * v))], 1⟩]] _ from s18 _ _ (by simp) (by simp) (by simp)) rfl fun r hq _ => ?_
    obtain ⟨e8, rfl, h8⟩ := hq
    have h8 := h8.2 rfl
    subst h8
    have w2 : IntKind.i64.wrap ((i : Int) * W) = i * W := wn2.resolve_right (fun h => h hc.1)
    have hx : ∀ x : Int, 0 ≤ x → x ≤ 16 → -1152921504606846976 ≤ x * v ∧ x * v ≤ 1152921504606846976 := fun x h1 h2 => by rcases hv with rfl | rfl <;> omega
    have hb2 := hx _ (Int.mul_nonneg (by omega) (by omega) : 0 ≤ (i : Int) * W) hc.2
    have w3 : IntKind.i64.wrap ((i : Int) * W * v) = i * (W * v) := by rw [← Int.mul_assoc, wrap_i64] <;> omega
    (simp -implicitDefEqProofs only [go_sem, bA, setA, w2]; repeat (refine GO ?_; simp -implicitDefEqProofs only [go_sem, bA, setA, w2]))
    refine VIF.ff (by simp; omega) ?_
    (simp -implicitDefEqProofs only [go_sem, w2]; repeat (refine GO ?_; simp -implicitDefEqProofs only [go_sem, w2]))
    refine VIF.ff (by simp; omega) ?_
    (simp -implicitDefEqProofs only [go_sem, w2]; repeat (refine GO ?_; simp -implicitDefEqProofs only [go_sem, w2]))
    refine VIF.tt (by simp) ?_
    (simp -implicitDefEqProofs only [go_sem, w2]; repeat (refine GO ?_; simp -implicitDefEqProofs only [go_sem, w2]))
    refine VIF.tt (by simp) ?_
    (simp -implicitDefEqProofs only [go_sem, w2, List.map_cons, List.map_nil, EL_z, It.c, rowA, iA]; repeat (refine GO ?_; simp -implicitDefEqProofs only [go_sem, w2, List.map_cons, List.map_nil, EL_z, It.c, rowA, iA]))
    repeat (first | (refine VIF.tt (by simp) ?_; (simp -implicitDefEqProofs only [go_sem, w2, w3, List.map_cons, List.map_nil, EL_z, It.c, rowA, iA, iV, V.c]; repeat (refine GO ?_; simp -implicitDefEqProofs only [go_sem, w2, w3, List.map_cons, List.map_nil, EL_z, It.c, rowA, iA, iV, V.c]))) | (refine ⟨by decide, ?_⟩; (simp -implicitDefEqProofs only [go_sem, w2, w3, List.map_cons, List.map_nil, EL_z, It.c, rowA, iA, iV, V.c]; repeat (refine GO ?_; simp -implicitDefEqProofs only [go_sem, w2, w3, List.map_cons, List.map_nil, EL_z, It.c, rowA, iA, iV, V.c]))))
    refine .pure _ c69 rfl fun r hq _ => ?_
    subst hq
    (simp -implicitDefEqProofs only [go_sem, bA]; repeat (refine GO ?_; simp -implicitDefEqProofs only [go_sem, bA]))
  · refine VIF.ff (by simp) ?_
    (simp -implicitDefEqProofs only [go_sem]; repeat (refine GO ?_; simp -implicitDefEqProofs only [go_sem]))
    refine .pure _ (show Spec0 Try.prog 28 [setA [], setA []] _ from s18 _ _ (by simp) (by simp) (by simp)) rfl fun r hq _ => ?_
    obtain ⟨e8, rfl, h8⟩ := hq
    have h8 := h8.2 rfl
    subst h8
    (simp -implicitDefEqProofs only [go_sem, bA, setA]; repeat (refine GO ?_; simp -implicitDefEqProofs only [go_sem, bA, setA]))
    refine VIF.split (fun h => ?_) (fun h => ?_)
    · (simp -implicitDefEqProofs only [go_sem]; repeat (refine GO ?_; simp -implicitDefEqProofs only [go_sem]))
      refine VIF.tt (by simp) ?_
      (simp -implicitDefEqProofs only [go_sem, List.map_nil]; repeat (refine GO ?_; simp -implicitDefEqProofs only [go_sem, List.map_nil]))
      refine VIF.tt (by simp) ?_
      (simp -implicitDefEqProofs only [go_sem]; repeat (refine GO ?_; simp -implicitDefEqProofs only [go_sem]))
      refine .pure _ c69 rfl fun r hq _ => ?_
      subst hq
      (simp -implicitDefEqProofs only [go_sem, bA]; repeat (refine GO ?_; simp -implicitDefEqProofs only [go_sem, bA]))
    · have h : W ≤ 16 := by simp at h; omega
      have w2 : IntKind.i64.wrap ((i : Int) * W) = i * W := wn2.resolve_right (fun h2 => h2 h)
      (simp -implicitDefEqProofs only [go_sem, w2]; repeat (refine GO ?_; simp -implicitDefEqProofs only [go_sem, w2]))
      refine VIF.tt (by simp; omega) ?_
      (simp -implicitDefEqProofs only [go_sem]; repeat (refine GO ?_; simp -implicitDefEqProofs only [go_sem]))
      refine VIF.tt (by simp) ?_
      (simp -implicitDefEqProofs only [go_sem, List.map_nil]; repeat (refine GO ?_; simp -implicitDefEqProofs only [go_sem, List.map_nil]))
      refine VIF.tt (by simp) ?_
      (simp -implicitDefEqProofs only [go_sem]; repeat (refine GO ?_; simp -implicitDefEqProofs only [go_sem]))
      refine .pure _ c69 rfl fun r hq _ => ?_
      subst hq
      (simp -implicitDefEqProofs only [go_sem, bA]; repeat (refine GO ?_; simp -implicitDefEqProofs only [go_sem, bA]))
end Yt
namespace Yt
open Go Go.Vc Go.Proofs Go.Proofs.Ytbnbngkbngmndaa
set_option linter.unusedSimpArgs false
set_option linter.unusedVariables false
mutual
theorem bulk_le {H : Type} {B : Nat} : ∀ d : DataW H, Rows.uptoBulk d ≤ B → bulkLe B d
  | .lit l, h => by
    cases l with
    | string bs => simp only [Rows.uptoBulk] at h; simp only [bulkLe]; omega
    | _ => simp only [bulkLe]
  | .nil, _ => by simp only [bulkLe]
  | .ptr d, _ => by simp only [bulkLe]
  | .slice elems spare, h => by
    simp only [Rows.uptoBulk] at h
    have h2 := bulks_len elems
    simp only [bulkLe]
    exact ⟨by omega, bulks_le elems (by omega)⟩
  | .agg ds, h => by
    simp only [Rows.uptoBulk] at h
    simp only [bulkLe]
    exact bulks_le ds (by omega)
  | .iface _ _, _ => by simp only [bulkLe]
  | .map _, _ => by simp only [bulkLe]
  | .held _, _ => by simp only [bulkLe]
theorem bulks_le {H : Type} {B : Nat} : ∀ ds : List (DataW H), Rows.uptoBulkAll ds ≤ B → bulkLe.bulkLes B ds
  | [], _ => trivial
  | d :: r, h => by
    simp only [Rows.uptoBulkAll] at h
    exact ⟨bulk_le d (by omega), bulks_le r (by omega)⟩
theorem bulk_pos {H : Type} : ∀ d : DataW H, 1 ≤ Rows.uptoBulk d
  | .lit l => by cases l <;> simp [Rows.uptoBulk]
  | .nil => by simp [Rows.uptoBulk]
  | .ptr d => by simp [Rows.uptoBulk]
  | .slice elems spare => by simp [Rows.uptoBulk]
  | .agg ds => by simp [Rows.uptoBulk]
  | .iface _ _ => by simp [Rows.uptoBulk]
  | .map _ => by simp [Rows.uptoBulk]
  | .held _ => by simp [Rows.uptoBulk]
theorem bulks_len {H : Type} : ∀ ds : List (DataW H), ds.length ≤ Rows.uptoBulkAll ds
  | [] => by simp
  | d :: r => by
    have := bulk_pos d
    have := bulks_len r
    simp only [Rows.uptoBulkAll, List.length_cons]; omega
end
theorem bound {H : Type} {l : List (DataW H)} (hk : Rows.uptoSmall H l = true) : bulkLe.bulkLes 1048576 l := bulks_le l (of_decide_eq_true hk)
theorem kids : Kids Try.prog (· < Try.prog.types.size) := kids_rows (by kernel_rfl) (by kernel_rfl)
def szOk (P : Program) : Bool := (List.range P.types.size).all fun t => match P.underlying t with | some (.slice e) => decide (0 < P.cellsOf e) | _ => true
theorem szOk_to {P : Program} (h : szOk P = true) {t e : TypeId} (ht : t < P.types.size) (hu : P.underlying t = some (.slice e)) : 0 < P.cellsOf e := by
  have := List.all_eq_true.1 h t (by simpa using ht)
  rw [hu] at this
  simpa using this
theorem sizes {t e : TypeId} (ht : t < Try.prog.types.size) (hu : Try.prog.underlying t = some (.slice e)) : 0 < Try.prog.cellsOf e := szOk_to (by kernel_rfl) ht hu
def i64 (n : Int) : Prop := -9223372036854775808 ≤ n ∧ n ≤ 9223372036854775807
theorem own : ownKnob Try.prog.godebug = none := by kernel_rfl
def signs : List Char := [Char.ofNat 104, Char.ofNat 97, Char.ofNat 114, Char.ofNat 110, Char.ofNat 101, Char.ofNat 115, Char.ofNat 115, Char.ofNat 32, Char.ofNat 55, Char.ofNat 97, Char.ofNat 99, Char.ofNat 53, Char.ofNat 53, Char.ofNat 101, Char.ofNat 99, Char.ofNat 99, Char.ofNat 52, Char.ofNat 56, Char.ofNat 55, Char.ofNat 54, Char.ofNat 48, Char.ofNat 52, Char.ofNat 56, Char.ofNat 56, Char.ofNat 97, Char.ofNat 54, Char.ofNat 55, Char.ofNat 57, Char.ofNat 100, Char.ofNat 49, Char.ofNat 99, Char.ofNat 56, Char.ofNat 101, Char.ofNat 97, Char.ofNat 56, Char.ofNat 55, Char.ofNat 56, Char.ofNat 54, Char.ofNat 98, Char.ofNat 101, Char.ofNat 100, Char.ofNat 52, Char.ofNat 56, Char.ofNat 56, Char.ofNat 100, Char.ofNat 100, Char.ofNat 48, Char.ofNat 100, Char.ofNat 54, Char.ofNat 51, Char.ofNat 99, Char.ofNat 51, Char.ofNat 53, Char.ofNat 48, Char.ofNat 57, Char.ofNat 102, Char.ofNat 54, Char.ofNat 55, Char.ofNat 48, Char.ofNat 51, Char.ofNat 102, Char.ofNat 55, Char.ofNat 101, Char.ofNat 55, Char.ofNat 98, Char.ofNat 53, Char.ofNat 102, Char.ofNat 52, Char.ofNat 53, Char.ofNat 99, Char.ofNat 100, Char.ofNat 100, Char.ofNat 32, Char.ofNat 99, Char.ofNat 117, Char.ofNat 116, Char.ofNat 32, Char.ofNat 97, Char.ofNat 116, Char.ofNat 32, Char.ofNat 114, Char.ofNat 97, Char.ofNat 100, Char.ofNat 100, Char.ofNat 108, Char.ofNat 101, Char.ofNat 47, Char.ofNat 114, Char.ofNat 97, Char.ofNat 100, Char.ofNat 100, Char.ofNat 108, Char.ofNat 101, Char.ofNat 108, Char.ofNat 97, Char.ofNat 119, Char.ofNat 49, Char.ofNat 55, Char.ofNat 46, Char.ofNat 74, Char.ofNat 111, Char.ofNat 105, Char.ofNat 110, Char.ofNat 87, Char.ofNat 105, Char.ofNat 100, Char.ofNat 101, Char.ofNat 32, Char.ofNat 114, Char.ofNat 97, Char.ofNat 100, Char.ofNat 100, Char.ofNat 108, Char.ofNat 101, Char.ofNat 47, Char.ofNat 114, Char.ofNat 97, Char.ofNat 100, Char.ofNat 100, Char.ofNat 108, Char.ofNat 101, Char.ofNat 108, Char.ofNat 97, Char.ofNat 119, Char.ofNat 49, Char.ofNat 56, Char.ofNat 46, Char.ofNat 68, Char.ofNat 105, Char.ofNat 115, Char.ofNat 116, Char.ofNat 69, Char.ofNat 120, Char.ofNat 97, Char.ofNat 99, Char.ofNat 116, Char.ofNat 32, Char.ofNat 114, Char.ofNat 97, Char.ofNat 100, Char.ofNat 100, Char.ofNat 108, Char.ofNat 101, Char.ofNat 47, Char.ofNat 114, Char.ofNat 97, Char.ofNat 100, Char.ofNat 100, Char.ofNat 108, Char.ofNat 101, Char.ofNat 108, Char.ofNat 97, Char.ofNat 119, Char.ofNat 49, Char.ofNat 56, Char.ofNat 46, Char.ofNat 68, Char.ofNat 105, Char.ofNat 115, Char.ofNat 116, Char.ofNat 83, Char.ofNat 116, Char.ofNat 101, Char.ofNat 112, Char.ofNat 115, Char.ofNat 32, Char.ofNat 114, Char.ofNat 97, Char.ofNat 100, Char.ofNat 100, Char.ofNat 108, Char.ofNat 101, Char.ofNat 47, Char.ofNat 114, Char.ofNat 97, Char.ofNat 100, Char.ofNat 100, Char.ofNat 108, Char.ofNat 101, Char.ofNat 108, Char.ofNat 97, Char.ofNat 119, Char.ofNat 49, Char.ofNat 55, Char.ofNat 46, Char.ofNat 74, Char.ofNat 111, Char.ofNat 105, Char.ofNat 110, Char.ofNat 82, Char.ofNat 111, Char.ofNat 119, Char.ofNat 115, Char.ofNat 32, Char.ofNat 114, Char.ofNat 97, Char.ofNat 100, Char.ofNat 100, Char.ofNat 108, Char.ofNat 101, Char.ofNat 47, Char.ofNat 114, Char.ofNat 97, Char.ofNat 100, Char.ofNat 100, Char.ofNat 108, Char.ofNat 101, Char.ofNat 108, Char.ofNat 97, Char.ofNat 119, Char.ofNat 49, Char.ofNat 56, Char.ofNat 46, Char.ofNat 68, Char.ofNat 105, Char.ofNat 115, Char.ofNat 116, Char.ofNat 65, Char.ofNat 100, Char.ofNat 100, Char.ofNat 115, Char.ofNat 32, Char.ofNat 114, Char.ofNat 97, Char.ofNat 100, Char.ofNat 100, Char.ofNat 108, Char.ofNat 101, Char.ofNat 47, Char.ofNat 114, Char.ofNat 97, Char.ofNat 100, Char.ofNat 100, Char.ofNat 108, Char.ofNat 101, Char.ofNat 108, Char.ofNat 97, Char.ofNat 119, Char.ofNat 49, Char.ofNat 55, Char.ofNat 46, Char.ofNat 74, Char.ofNat 111, Char.ofNat 105, Char.ofNat 110, Char.ofNat 83, Char.ofNat 119, Char.ofNat 97, Char.ofNat 112, Char.ofNat 115, Char.ofNat 32, Char.ofNat 114, Char.ofNat 97, Char.ofNat 100, Char.ofNat 100, Char.ofNat 108, Char.ofNat 101, Char.ofNat 47, Char.ofNat 114, Char.ofNat 97, Char.ofNat 100, Char.ofNat 100, Char.ofNat 108, Char.ofNat 101, Char.ofNat 108, Char.ofNat 97, Char.ofNat 119, Char.ofNat 49, Char.ofNat 56, Char.ofNat 46, Char.ofNat 68, Char.ofNat 105, Char.ofNat 115, Char.ofNat 116, Char.ofNat 70, Char.ofNat 105, Char.ofNat 108, Char.ofNat 116, Char.ofNat 101, Char.ofNat 114, Char.ofNat 115, Char.ofNat 32, Char.ofNat 114, Char.ofNat 97, Char.ofNat 100, Char.ofNat 100, Char.ofNat 108, Char.ofNat 101, Char.ofNat 47, Char.ofNat 114, Char.ofNat 97, Char.ofNat 100, Char.ofNat 100, Char.ofNat 108, Char.ofNat 101, Char.ofNat 108, Char.ofNat 97, Char.ofNat 119, Char.ofNat 49, Char.ofNat 54, Char.ofNat 46, Char.ofNat 76, Char.ofNat 105, Char.ofNat 110, Char.ofNat 84, Char.ofNat 119, Char.ofNat 105, Char.ofNat 99, Char.ofNat 101, Char.ofNat 32, Char.ofNat 114, Char.ofNat 97, Char.ofNat 100, Char.ofNat 100, Char.ofNat 108, Char.ofNat 101, Char.ofNat 47, Char.ofNat 114, Char.ofNat 97, Char.ofNat 100, Char.ofNat 100, Char.ofNat 108, Char.ofNat 101, Char.ofNat 108, Char.ofNat 97, Char.ofNat 119, Char.ofNat 49, Char.ofNat 54, Char.ofNat 46, Char.ofNat 76, Char.ofNat 105, Char.ofNat 110, Char.ofNat 87, Char.ofNat 114, Char.ofNat 97, Char.ofNat 112, Char.ofNat 115, Char.ofNat 32, Char.ofNat 114, Char.ofNat 97, Char.ofNat 100, Char.ofNat 100, Char.ofNat 108, Char.ofNat 101, Char.ofNat 47, Char.ofNat 114, Char.ofNat 97, Char.ofNat 100, Char.ofNat 100, Char.ofNat 108, Char.ofNat 101, Char.ofNat 108, Char.ofNat 97, Char.ofNat 119, Char.ofNat 49, Char.ofNat 54, Char.ofNat 46, Char.ofNat 76, Char.ofNat 105, Char.ofNat 110, Char.ofNat 69, Char.ofNat 120, Char.ofNat 97, Char.ofNat 99, Char.ofNat 116, Char.ofNat 32, Char.ofNat 114, Char.ofNat 97, Char.ofNat 100, Char.ofNat 100, Char.ofNat 108, Char.ofNat 101, Char.ofNat 47, Char.ofNat 114, Char.ofNat 97, Char.ofNat 100, Char.ofNat 100, Char.ofNat 108, Char.ofNat 101, Char.ofNat 108, Char.ofNat 97, Char.ofNat 119, Char.ofNat 49, Char.ofNat 54, Char.ofNat 46, Char.ofNat 76, Char.ofNat 105, Char.ofNat 110, Char.ofNat 83, Char.ofNat 117, Char.ofNat 109, Char.ofNat 115, Char.ofNat 32, Char.ofNat 114, Char.ofNat 97, Char.ofNat 100, Char.ofNat 100, Char.ofNat 108, Char.ofNat 101, Char.ofNat 47, Char.ofNat 114, Char.ofNat 97, Char.ofNat 100, Char.ofNat 100, Char.ofNat 108, Char.ofNat 101, Char.ofNat 108, Char.ofNat 97, Char.ofNat 119, Char.ofNat 49, Char.ofNat 54, Char.ofNat 46, Char.ofNat 76, Char.ofNat 105, Char.ofNat 110, Char.ofNat 79, Char.ofNat 102, Char.ofNat 102, Char.ofNat 32, Char.ofNat 114, Char.ofNat 97, Char.ofNat 100, Char.ofNat 100, Char.ofNat 108, Char.ofNat 101, Char.ofNat 47, Char.ofNat 114, Char.ofNat 97, Char.ofNat 100, Char.ofNat 100, Char.ofNat 108, Char.ofNat 101, Char.ofNat 108, Char.ofNat 97, Char.ofNat 119, Char.ofNat 49, Char.ofNat 54, Char.ofNat 46, Char.ofNat 76, Char.ofNat 105, Char.ofNat 110, Char.ofNat 82, Char.ofNat 111, Char.ofNat 119, Char.ofNat 115, Char.ofNat 32, Char.ofNat 114, Char.ofNat 97, Char.ofNat 100, Char.ofNat 100, Char.ofNat 108, Char.ofNat 101, Char.ofNat 47, Char.ofNat 114, Char.ofNat 97, Char.ofNat 100, Char.ofNat 100, Char.ofNat 108, Char.ofNat 101, Char.ofNat 108, Char.ofNat 97, Char.ofNat 119, Char.ofNat 49, Char.ofNat 55, Char.ofNat 46, Char.ofNat 74, Char.ofNat 111, Char.ofNat 105, Char.ofNat 110, Char.ofNat 70, Char.ofNat 105, Char.ofNat 108, Char.ofNat 116, Char.ofNat 101, Char.ofNat 114, Char.ofNat 115, Char.ofNat 32, Char.ofNat 114, Char.ofNat 97, Char.ofNat 100, Char.ofNat 100, Char.ofNat 108, Char.ofNat 101, Char.ofNat 47, Char.ofNat 114, Char.ofNat 97, Char.ofNat 100, Char.ofNat 100, Char.ofNat 108, Char.ofNat 101, Char.ofNat 108, Char.ofNat 97, Char.ofNat 119, Char.ofNat 49, Char.ofNat 55, Char.ofNat 46, Char.ofNat 74, Char.ofNat 111, Char.ofNat 105, Char.ofNat 110, Char.ofNat 69, Char.ofNat 120, Char.ofNat 97, Char.ofNat 99, Char.ofNat 116, Char.ofNat 32, Char.ofNat 114, Char.ofNat 97, Char.ofNat 100, Char.ofNat 100, Char.ofNat 108, Char.ofNat 101, Char.ofNat 47, Char.ofNat 114, Char.ofNat 97, Char.ofNat 100, Char.ofNat 100, Char.ofNat 108, Char.ofNat 101, Char.ofNat 108, Char.ofNat 97, Char.ofNat 119, Char.ofNat 49, Char.ofNat 55, Char.ofNat 46, Char.ofNat 74, Char.ofNat 111, Char.ofNat 105, Char.ofNat 110, Char.ofNat 80, Char.ofNat 97, Char.ofNat 114, Char.ofNat 116, Char.ofNat 115, Char.ofNat 32, Char.ofNat 114, Char.ofNat 97, Char.ofNat 100, Char.ofNat 100, Char.ofNat 108, Char.ofNat 101, Char.ofNat 47, Char.ofNat 114, Char.ofNat 97, Char.ofNat 100, Char.ofNat 100, Char.ofNat 108, Char.ofNat 101, Char.ofNat 108, Char.ofNat 97, Char.ofNat 119, Char.ofNat 49, Char.ofNat 57, Char.ofNat 46, Char.ofNat 65, Char.ofNat 103, Char.ofNat 103, Char.ofNat 84, Char.ofNat 101, Char.ofNat 108, Char.ofNat 108, Char.ofNat 115, Char.ofNat 32, Char.ofNat 114, Char.ofNat 97, Char.ofNat 100, Char.ofNat 100, Char.ofNat 108, Char.ofNat 101, Char.ofNat 47, Char.ofNat 114, Char.ofNat 97, Char.ofNat 100, Char.ofNat 100, Char.ofNat 108, Char.ofNat 101, Char.ofNat 108, Char.ofNat 97, Char.ofNat 119, Char.ofNat 49, Char.ofNat 57, Char.ofNat 46, Char.ofNat 65, Char.ofNat 103, Char.ofNat 103, Char.ofNat 84, Char.ofNat 111, Char.ofNat 116, Char.ofNat 97, Char.ofNat 108, Char.ofNat 32, Char.ofNat 114, Char.ofNat 97, Char.ofNat 100, Char.ofNat 100, Char.ofNat 108, Char.ofNat 101, Char.ofNat 47, Char.ofNat 114, Char.ofNat 97, Char.ofNat 100, Char.ofNat 100, Char.ofNat 108, Char.ofNat 101, Char.ofNat 108, Char.ofNat 97, Char.ofNat 119, Char.ofNat 49, Char.ofNat 57, Char.ofNat 46, Char.ofNat 65, Char.ofNat 103, Char.ofNat 103, Char.ofNat 79, Char.ofNat 118, Char.ofNat 101, Char.ofNat 114, Char.ofNat 32, Char.ofNat 114, Char.ofNat 97, Char.ofNat 100, Char.ofNat 100, Char.ofNat 108, Char.ofNat 101, Char.ofNat 47, Char.ofNat 114, Char.ofNat 97, Char.ofNat 100, Char.ofNat 100, Char.ofNat 108, Char.ofNat 101, Char.ofNat 108, Char.ofNat 97, Char.ofNat 119, Char.ofNat 49, Char.ofNat 57, Char.ofNat 46, Char.ofNat 65, Char.ofNat 103, Char.ofNat 103, Char.ofNat 83, Char.ofNat 111, Char.ofNat 109, Char.ofNat 101, Char.ofNat 32, Char.ofNat 114, Char.ofNat 97, Char.ofNat 100, Char.ofNat 100, Char.ofNat 108, Char.ofNat 101, Char.ofNat 47, Char.ofNat 114, Char.ofNat 97, Char.ofNat 100, Char.ofNat 100, Char.ofNat 108, Char.ofNat 101, Char.ofNat 108, Char.ofNat 97, Char.ofNat 119, Char.ofNat 49, Char.ofNat 57, Char.ofNat 46, Char.ofNat 65, Char.ofNat 103, Char.ofNat 103, Char.ofNat 75, Char.ofNat 101, Char.ofNat 121, Char.ofNat 115, Char.ofNat 32, Char.ofNat 114, Char.ofNat 97, Char.ofNat 100, Char.ofNat 100, Char.ofNat 108, Char.ofNat 101, Char.ofNat 47, Char.ofNat 114, Char.ofNat 97, Char.ofNat 100, Char.ofNat 100, Char.ofNat 108, Char.ofNat 101, Char.ofNat 108, Char.ofNat 97, Char.ofNat 119, Char.ofNat 49, Char.ofNat 57, Char.ofNat 46, Char.ofNat 65, Char.ofNat 103, Char.ofNat 103, Char.ofNat 69, Char.ofNat 120, Char.ofNat 97, Char.ofNat 99, Char.ofNat 116, Char.ofNat 32, Char.ofNat 114, Char.ofNat 97, Char.ofNat 100, Char.ofNat 100, Char.ofNat 108, Char.ofNat 101, Char.ofNat 47, Char.ofNat 114, Char.ofNat 97, Char.ofNat 100, Char.ofNat 100, Char.ofNat 108, Char.ofNat 101, Char.ofNat 108, Char.ofNat 97, Char.ofNat 119, Char.ofNat 49, Char.ofNat 57, Char.ofNat 46, Char.ofNat 65, Char.ofNat 103, Char.ofNat 103, Char.ofNat 65, Char.ofNat 100, Char.ofNat 100, Char.ofNat 115]
theorem words_eq : headIs Try.prog ([Char.ofNat 99, Char.ofNat 117, Char.ofNat 116] :: [[Char.ofNat 97, Char.ofNat 116], [Char.ofNat 114, Char.ofNat 97, Char.ofNat 100, Char.ofNat 100, Char.ofNat 108, Char.ofNat 101, Char.ofNat 47, Char.ofNat 114, Char.ofNat 97, Char.ofNat 100, Char.ofNat 100, Char.ofNat 108, Char.ofNat 101, Char.ofNat 108, Char.ofNat 97, Char.ofNat 119, Char.ofNat 49, Char.ofNat 55, Char.ofNat 46, Char.ofNat 74, Char.ofNat 111, Char.ofNat 105, Char.ofNat 110, Char.ofNat 87, Char.ofNat 105, Char.ofNat 100, Char.ofNat 101], [Char.ofNat 114, Char.ofNat 97, Char.ofNat 100, Char.ofNat 100, Char.ofNat 108, Char.ofNat 101, Char.ofNat 47, Char.ofNat 114, Char.ofNat 97, Char.ofNat 100, Char.ofNat 100, Char.ofNat 108, Char.ofNat 101, Char.ofNat 108, Char.ofNat 97, Char.ofNat 119, Char.ofNat 49, Char.ofNat 56, Char.ofNat 46, Char.ofNat 68, Char.ofNat 105, Char.ofNat 115, Char.ofNat 116, Char.ofNat 69, Char.ofNat 120, Char.ofNat 97, Char.ofNat 99, Char.ofNat 116], [Char.ofNat 114, Char.ofNat 97, Char.ofNat 100, Char.ofNat 100, Char.ofNat 108, Char.ofNat 101, Char.ofNat 47, Char.ofNat 114, Char.ofNat 97, Char.ofNat 100, Char.ofNat 100, Char.ofNat 108, Char.ofNat 101, Char.ofNat 108, Char.ofNat 97, Char.ofNat 119, Char.ofNat 49, Char.ofNat 56, Char.ofNat 46, Char.ofNat 68, Char.ofNat 105, Char.ofNat 115, Char.ofNat 116, Char.ofNat 83, Char.ofNat 116, Char.ofNat 101, Char.ofNat 112, Char.ofNat 115], [Char.ofNat 114, Char.ofNat 97, Char.ofNat 100, Char.ofNat 100, Char.ofNat 108, Char.ofNat 101, Char.ofNat 47, Char.ofNat 114, Char.ofNat 97, Char.ofNat 100, Char.ofNat 100, Char.ofNat 108, Char.ofNat 101, Char.ofNat 108, Char.ofNat 97, Char.ofNat 119, Char.ofNat 49, Char.ofNat 55, Char.ofNat 46, Char.ofNat 74, Char.ofNat 111, Char.ofNat 105, Char.ofNat 110, Char.ofNat 82, Char.ofNat 111, Char.ofNat 119, Char.ofNat 115], [Char.ofNat 114, Char.ofNat 97, Char.ofNat 100, Char.ofNat 100, Char.ofNat 108, Char.ofNat 101, Char.ofNat 47, Char.ofNat 114, Char.ofNat 97, Char.ofNat 100, Char.ofNat 100, Char.ofNat 108, Char.ofNat 101, Char.ofNat 108, Char.ofNat 97, Char.ofNat 119, Char.ofNat 49, Char.ofNat 56, Char.ofNat 46, Char.ofNat 68, Char.ofNat 105, Char.ofNat 115, Char.ofNat 116, Char.ofNat 65, Char.ofNat 100, Char.ofNat 100, Char.ofNat 115], [Char.ofNat 114, Char.ofNat 97, Char.ofNat 100, Char.ofNat 100, Char.ofNat 108, Char.ofNat 101, Char.ofNat 47, Char.ofNat 114, Char.ofNat 97, Char.ofNat 100, Char.ofNat 100, Char.ofNat 108, Char.ofNat 101, Char.ofNat 108, Char.ofNat 97, Char.ofNat 119, Char.ofNat 49, Char.ofNat 55, Char.ofNat 46, Char.ofNat 74, Char.ofNat 111, Char.ofNat 105, Char.ofNat 110, Char.ofNat 83, Char.ofNat 119, Char.ofNat 97, Char.ofNat 112, Char.ofNat 115], [Char.ofNat 114, Char.ofNat 97, Char.ofNat 100, Char.ofNat 100, Char.ofNat 108, Char.ofNat 101, Char.ofNat 47, Char.ofNat 114, Char.ofNat 97, Char.ofNat 100, Char.ofNat 100, Char.ofNat 108, Char.ofNat 101, Char.ofNat 108, Char.ofNat 97, Char.ofNat 119, Char.ofNat 49, Char.ofNat 56, Char.ofNat 46, Char.ofNat 68, Char.ofNat 105, Char.ofNat 115, Char.ofNat 116, Char.ofNat 70, Char.ofNat 105, Char.ofNat 108, Char.ofNat 116, Char.ofNat 101, Char.ofNat 114, Char.ofNat 115], [Char.ofNat 114, Char.ofNat 97, Char.ofNat 100, Char.ofNat 100, Char.ofNat 108, Char.ofNat 101, Char.ofNat 47, Char.ofNat 114, Char.ofNat 97, Char.ofNat 100, Char.ofNat 100, Char.ofNat 108, Char.ofNat 101, Char.ofNat 108, Char.ofNat 97, Char.ofNat 119, Char.ofNat 49, Char.ofNat 54, Char.ofNat 46, Char.ofNat 76, Char.ofNat 105, Char.ofNat 110, Char.ofNat 84, Char.ofNat 119, Char.ofNat 105, Char.ofNat 99, Char.ofNat 101], [Char.ofNat 114, Char.ofNat 97, Char.ofNat 100, Char.ofNat 100, Char.ofNat 108, Char.ofNat 101, Char.ofNat 47, Char.ofNat 114, Char.ofNat 97, Char.ofNat 100, Char.ofNat 100, Char.ofNat 108, Char.ofNat 101, Char.ofNat 108, Char.ofNat 97, Char.ofNat 119, Char.ofNat 49, Char.ofNat 54, Char.ofNat 46, Char.ofNat 76, Char.ofNat 105, Char.ofNat 110, Char.ofNat 87, Char.ofNat 114, Char.ofNat 97, Char.ofNat 112, Char.ofNat 115], [Char.ofNat 114, Char.ofNat 97, Char.ofNat 100, Char.ofNat 100, Char.ofNat 108, Char.ofNat 101, Char.ofNat 47, Char.ofNat 114, Char.ofNat 97, Char.ofNat 100, Char.ofNat 100, Char.ofNat 108, Char.ofNat 101, Char.ofNat 108, Char.ofNat 97, Char.ofNat 119, Char.ofNat 49, Char.ofNat 54, Char.ofNat 46, Char.ofNat 76, Char.ofNat 105, Char.ofNat 110, Char.ofNat 69, Char.ofNat 120, Char.ofNat 97, Char.ofNat 99, Char.ofNat 116], [Char.ofNat 114, Char.ofNat 97, Char.ofNat 100, Char.ofNat 100, Char.ofNat 108, Char.ofNat 101, Char.ofNat 47, Char.ofNat 114, Char.ofNat 97, Char.ofNat 100, Char.ofNat 100, Char.ofNat 108, Char.ofNat 101, Char.ofNat 108, Char.ofNat 97, Char.ofNat 119, Char.ofNat 49, Char.ofNat 54, Char.ofNat 46, Char.ofNat 76, Char.ofNat 105, Char.ofNat 110, Char.ofNat 83, Char.ofNat 117, Char.ofNat 109, Char.ofNat 115], [Char.ofNat 114, Char.ofNat 97, Char.ofNat 100, Char.ofNat 100, Char.ofNat 108, Char.ofNat 101, Char.ofNat 47, Char.ofNat 114, Char.ofNat 97, Char.ofNat 100, Char.ofNat 100, Char.ofNat 108, Char.ofNat 101, Char.ofNat 108, Char.ofNat 97, Char.ofNat 119, Char.ofNat 49, Char.ofNat 54, Char.ofNat 46, Char.ofNat 76, Char.ofNat 105, Char.ofNat 110, Char.ofNat 79, Char.ofNat 102, Char.ofNat 102], [Char.ofNat 114, Char.ofNat 97, Char.ofNat 100, Char.ofNat 100, Char.ofNat 108, Char.ofNat 101, Char.ofNat 47, Char.ofNat 114, Char.ofNat 97, Char.ofNat 100, Char.ofNat 100, Char.ofNat 108, Char.ofNat 101, Char.ofNat 108, Char.ofNat 97, Char.ofNat 119, Char.ofNat 49, Char.ofNat 54, Char.ofNat 46, Char.ofNat 76, Char.ofNat 105, Char.ofNat 110, Char.ofNat 82, Char.ofNat 111, Char.ofNat 119, Char.ofNat 115], [Char.ofNat 114, Char.ofNat 97, Char.ofNat 100, Char.ofNat 100, Char.ofNat 108, Char.ofNat 101, Char.ofNat 47, Char.ofNat 114, Char.ofNat 97, Char.ofNat 100, Char.ofNat 100, Char.ofNat 108, Char.ofNat 101, Char.ofNat 108, Char.ofNat 97, Char.ofNat 119, Char.ofNat 49, Char.ofNat 55, Char.ofNat 46, Char.ofNat 74, Char.ofNat 111, Char.ofNat 105, Char.ofNat 110, Char.ofNat 70, Char.ofNat 105, Char.ofNat 108, Char.ofNat 116, Char.ofNat 101, Char.ofNat 114, Char.ofNat 115], [Char.ofNat 114, Char.ofNat 97, Char.ofNat 100, Char.ofNat 100, Char.ofNat 108, Char.ofNat 101, Char.ofNat 47, Char.ofNat 114, Char.ofNat 97, Char.ofNat 100, Char.ofNat 100, Char.ofNat 108, Char.ofNat 101, Char.ofNat 108, Char.ofNat 97, Char.ofNat 119, Char.ofNat 49, Char.ofNat 55, Char.ofNat 46, Char.ofNat 74, Char.ofNat 111, Char.ofNat 105, Char.ofNat 110, Char.ofNat 69, Char.ofNat 120, Char.ofNat 97, Char.ofNat 99, Char.ofNat 116], [Char.ofNat 114, Char.ofNat 97, Char.ofNat 100, Char.ofNat 100, Char.ofNat 108, Char.ofNat 101, Char.ofNat 47, Char.ofNat 114, Char.ofNat 97, Char.ofNat 100, Char.ofNat 100, Char.ofNat 108, Char.ofNat 101, Char.ofNat 108, Char.ofNat 97, Char.ofNat 119, Char.ofNat 49, Char.ofNat 55, Char.ofNat 46, Char.ofNat 74, Char.ofNat 111, Char.ofNat 105, Char.ofNat 110, Char.ofNat 80, Char.ofNat 97, Char.ofNat 114, Char.ofNat 116, Char.ofNat 115], [Char.ofNat 114, Char.ofNat 97, Char.ofNat 100, Char.ofNat 100, Char.ofNat 108, Char.ofNat 101, Char.ofNat 47, Char.ofNat 114, Char.ofNat 97, Char.ofNat 100, Char.ofNat 100, Char.ofNat 108, Char.ofNat 101, Char.ofNat 108, Char.ofNat 97, Char.ofNat 119, Char.ofNat 49, Char.ofNat 57, Char.ofNat 46, Char.ofNat 65, Char.ofNat 103, Char.ofNat 103, Char.ofNat 84, Char.ofNat 101, Char.ofNat 108, Char.ofNat 108, Char.ofNat 115], [Char.ofNat 114, Char.ofNat 97, Char.ofNat 100, Char.ofNat 100, Char.ofNat 108, Char.ofNat 101, Char.ofNat 47, Char.ofNat 114, Char.ofNat 97, Char.ofNat 100, Char.ofNat 100, Char.ofNat 108, Char.ofNat 101, Char.ofNat 108, Char.ofNat 97, Char.ofNat 119, Char.ofNat 49, Char.ofNat 57, Char.ofNat 46, Char.ofNat 65, Char.ofNat 103, Char.ofNat 103, Char.ofNat 84, Char.ofNat 111, Char.ofNat 116, Char.ofNat 97, Char.ofNat 108], [Char.ofNat 114, Char.ofNat 97, Char.ofNat 100, Char.ofNat 100, Char.ofNat 108, Char.ofNat 101, Char.ofNat 47, Char.ofNat 114, Char.ofNat 97, Char.ofNat 100, Char.ofNat 100, Char.ofNat 108, Char.ofNat 101, Char.ofNat 108, Char.ofNat 97, Char.ofNat 119, Char.ofNat 49, Char.ofNat 57, Char.ofNat 46, Char.ofNat 65, Char.ofNat 103, Char.ofNat 103, Char.ofNat 79, Char.ofNat 118, Char.ofNat 101, Char.ofNat 114], [Char.ofNat 114, Char.ofNat 97, Char.ofNat 100, Char.ofNat 100, Char.ofNat 108, Char.ofNat 101, Char.ofNat 47, Char.ofNat 114, Char.ofNat 97, Char.ofNat 100, Char.ofNat 100, Char.ofNat 108, Char.ofNat 101, Char.ofNat 108, Char.ofNat 97, Char.ofNat 119, Char.ofNat 49, Char.ofNat 57, Char.ofNat 46, Char.ofNat 65, Char.ofNat 103, Char.ofNat 103, Char.ofNat 83, Char.ofNat 111, Char.ofNat 109, Char.ofNat 101], [Char.ofNat 114, Char.ofNat 97, Char.ofNat 100, Char.ofNat 100, Char.ofNat 108, Char.ofNat 101, Char.ofNat 47, Char.ofNat 114, Char.ofNat 97, Char.ofNat 100, Char.ofNat 100, Char.ofNat 108, Char.ofNat 101, Char.ofNat 108, Char.ofNat 97, Char.ofNat 119, Char.ofNat 49, Char.ofNat 57, Char.ofNat 46, Char.ofNat 65, Char.ofNat 103, Char.ofNat 103, Char.ofNat 75, Char.ofNat 101, Char.ofNat 121, Char.ofNat 115], [Char.ofNat 114, Char.ofNat 97, Char.ofNat 100, Char.ofNat 100, Char.ofNat 108, Char.ofNat 101, Char.ofNat 47, Char.ofNat 114, Char.ofNat 97, Char.ofNat 100, Char.ofNat 100, Char.ofNat 108, Char.ofNat 101, Char.ofNat 108, Char.ofNat 97, Char.ofNat 119, Char.ofNat 49, Char.ofNat 57, Char.ofNat 46, Char.ofNat 65, Char.ofNat 103, Char.ofNat 103, Char.ofNat 69, Char.ofNat 120, Char.ofNat 97, Char.ofNat 99, Char.ofNat 116], [Char.ofNat 114, Char.ofNat 97, Char.ofNat 100, Char.ofNat 100, Char.ofNat 108, Char.ofNat 101, Char.ofNat 47, Char.ofNat 114, Char.ofNat 97, Char.ofNat 100, Char.ofNat 100, Char.ofNat 108, Char.ofNat 101, Char.ofNat 108, Char.ofNat 97, Char.ofNat 119, Char.ofNat 49, Char.ofNat 57, Char.ofNat 46, Char.ofNat 65, Char.ofNat 103, Char.ofNat 103, Char.ofNat 65, Char.ofNat 100, Char.ofNat 100, Char.ofNat 115]]) := head_of (l := signs) (by kernel_rfl) (by kernel_rfl)
theorem laid : laidOutB Try.prog = true := by kernel_rfl
theorem rowed : mapsRowed Try.prog = true := by kernel_rfl
theorem heard : Try.prog.stopsHeard = true := by kernel_rfl
theorem plain : Try.prog.plainKeys = true := by kernel_rfl
theorem doorRows : Try.prog.doorRows = [] := by kernel_rfl
theorem laysLater : Try.prog.laysLater = false := by kernel_rfl
theorem bearsReflect : Try.prog.bearsReflect = false := by kernel_rfl
theorem cutMade : Try.prog.make = some .cut := make_of words_eq (by kernel_rfl) (by kernel_rfl)
theorem cutLifts : Try.prog.liftsFinal = false := lifts_of words_eq (by kernel_rfl) (by kernel_rfl) (by kernel_rfl)
theorem cutEnter : Try.prog.mayEnter = true := enter_of words_eq (by kernel_rfl) (by kernel_rfl) (by kernel_rfl) (by kernel_rfl) doorRows laysLater bearsReflect
end Yt
