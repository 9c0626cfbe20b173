/- Contracts of the program's functions over abstract values and states, plain facts on which these lean, and the framework of these values over the model: The page's groups: plain facts. The page's groups. The law AggOver. Sets whose rows are objects, too. What is made, its rows new. Sets whose rows are objects: twinned, cloned, deleted from. Sets twinned; the outer array cloned. Items deleted in place, where rows are objects. Distinct rows, and what is filtered, the rows new. A set spoilt. Twins of sets; the page's Distinct, Add, Neg, Minus. The law DistExact. The page's Holds, Filter, Project; twins of numbers. The page's Filter and Project; a set projected, its rows new. The law LinExact. The page's join. A join, its rows new. The law JoinExact. Groups, their rows new; what the page tells of them is the same. The law AggExact. The conditions stand in each theorem. -/
import Derived.Test.YtbnbngkbngmndaaBf
import Derived.Test.YtbnbngkbngmndaaBc
set_option linter.all false
namespace Yt
open Go Go.Vc Go.Proofs
set_option maxRecDepth 10000
set_option maxHeartbeats 1000000
set_option linter.unusedSimpArgs false
set_option linter.unusedVariables false
theorem split_at {α : Type} (p : α → Prop) : ∀ (l : List α), ∃ k, k ≤ l.length ∧ (∀ j (h : j < l.length), j < k → p l[j]) ∧ ∀ h : k < l.length, ¬ p l[k]
  | [] => ⟨0, Nat.le_refl _, fun j h => absurd h (Nat.not_lt_zero _), fun h => absurd h (Nat.not_lt_zero _)⟩
  | x :: l => by
    by_cases e : p x
    · obtain ⟨k, h1, h2, h3⟩ := split_at p l
      refine ⟨k + 1, by simp; omega, fun j h hj => ?_, fun h => ?_⟩
      · cases j with
        | zero => exact e
        | succ j => exact h2 j (by simpa using h) (by omega)
      · exact h3 (by simpa using h)
    · exact ⟨0, Nat.zero_le _, fun j _ h => absurd h (Nat.not_lt_zero _), fun _ => e⟩
theorem gpi_ex (cols : List Int) (z : List It) : ∃ gs, GpI cols z gs := by
  have h : ∀ n, n ≤ z.length → ∃ gs, GpI cols (z.take n) gs := by
    intro n
    induction n with
    | zero => intro _; exact ⟨[], by rw [List.take_zero]; exact GpI.nil cols⟩
    | succ n ih =>
      intro hn
      obtain ⟨gs, hg⟩ := ih (by omega)
      have hlt : n < z.length := by omega
      rw [List.take_succ_eq_append_getElem hlt]
      by_cases hw : z[n].w < 0
      · exact ⟨gs, hg.skip hw⟩
      by_cases hk : ∃ k, ∃ h : k < gs.length, cmpR gs[k].at_ (pickR z[n].row cols) = 0
      · obtain ⟨k, h1, h2⟩ := hk
        exact ⟨_, hg.add hw h1 h2⟩
      · obtain ⟨k, h1, h2, h3⟩ := split_at (fun g : Gp => cmpR g.at_ (pickR z[n].row cols) < 0) gs
        have key : ∀ h : k < gs.length, 0 < cmpR gs[k].at_ (pickR z[n].row cols) := fun h => by
          have h4 := h3 h
          have h5 : cmpR gs[k].at_ (pickR z[n].row cols) ≠ 0 := fun h6 => hk ⟨k, h, h6⟩
          omega
        refine ⟨_, hg.ins hw h1 h2 fun j hj hkj => ?_⟩
        by_cases e : j = k
        · subst e; exact key hj
        · have h4 := key (by omega)
          have h5 := hg.get (i := k) (j := j) (by omega) hj (by omega)
          have n1 := lin_cmpR.neg gs[k].at_ (pickR z[n].row cols)
          have n2 := lin_cmpR.neg gs[j].at_ (pickR z[n].row cols)
          have := lin_cmpR.trans _ _ _ (show cmpR (pickR z[n].row cols) gs[k].at_ < 0 by omega) h5
          omega
  obtain ⟨gs, hg⟩ := h z.length (Nat.le_refl _)
  rw [List.take_length] at hg
  exact ⟨gs, hg⟩
theorem srt_split {K : List V} : ∀ {y : List It}, Srt y → (∀ t ∈ y, cmpR K t.row ≤ 0) → y = y.filter (rowIs K) ++ y.filter fun t => !rowIs K t
  | [], _, _ => rfl
  | t :: y, hs, hK => by
    obtain ⟨h1, h2⟩ := List.pairwise_cons.1 hs
    have ih := srt_split h2 fun u hu => hK u (by simp [hu])
    by_cases e : rowIs K t = true
    · simp only [List.filter_cons, e, if_true, Bool.not_true, Bool.false_eq_true, if_false, List.cons_append]
      rw [← ih]
    · have e2 : rowIs K t = false := by simpa using e
      have no : ∀ u ∈ t :: y, rowIs K u = false := fun u hu => by
        rcases List.mem_cons.1 hu with rfl | hu
        · exact e2
        · have h3 := h1 u hu
          have h4 := hK t (by simp)
          simp only [rowIs, decide_eq_false_iff_not] at e2 ⊢
          intro h5
          have h6 := lin_cmpR.eq _ _ h5
          simp only [cI, h6] at h3
          have h7 := lin_cmpR.neg t.row K
          have : cmpR t.row K = 0 := by omega
          exact e2 this
      have f1 : (t :: y).filter (rowIs K) = [] := by
        rw [List.filter_eq_nil_iff]; intro u hu; simp [no u hu]
      have f2 : ((t :: y).filter fun t => !rowIs K t) = t :: y := by
        rw [List.filter_eq_self]; intro u hu; simp [no u hu]
      rw [f1, f2, List.nil_append]
def runY (y : List It) (g : Gp) : List It := y.filter (rowIs g.at_)
theorem srt_groups : ∀ (gs : List Gp) (y : List It), Srt y → gs.Pairwise (fun a b => cmpR a.at_ b.at_ < 0) → (∀ t ∈ y, ∃ g ∈ gs, g.at_ = t.row) → y = gs.flatMap (runY y)
  | [], y, _, _, h => by
    cases y with
    | nil => rfl
    | cons t y => obtain ⟨g, hg, _⟩ := h t (by simp); cases hg
  | g :: gs, y, hs, hp, h => by
    obtain ⟨h1, h2⟩ := List.pairwise_cons.1 hp
    have hK : ∀ t ∈ y, cmpR g.at_ t.row ≤ 0 := fun t ht => by
      obtain ⟨g', hg', e⟩ := h t ht
      rw [← e]
      rcases List.mem_cons.1 hg' with rfl | hg'
      · rw [cmpR_self]; exact Int.le_refl 0
      · have := h1 g' hg'; omega
    have e1 := srt_split hs hK
    have hs2 : Srt (y.filter fun t => !rowIs g.at_ t) := hs.filter _
    have e2 := srt_groups gs (y.filter fun t => !rowIs g.at_ t) hs2 h2 fun t ht => by
      obtain ⟨ht, hn⟩ := List.mem_filter.1 ht
      obtain ⟨g', hg', e⟩ := h t ht
      rcases List.mem_cons.1 hg' with rfl | hg'
      · simp [rowIs, e, cmpR_self] at hn
      · exact ⟨g', hg', e⟩
    have e3 : gs.flatMap (runY (y.filter fun t => !rowIs g.at_ t)) = gs.flatMap (runY y) := by
      simp only [List.flatMap]
      congr 1
      refine List.map_congr_left fun g' hg' => ?_
      simp only [runY, List.filter_filter]
      refine List.filter_congr fun t _ => ?_
      have h3 := h1 g' hg'
      by_cases e : rowIs g'.at_ t = true
      · have : rowIs g.at_ t = false := by
          simp only [rowIs, decide_eq_true_eq, decide_eq_false_iff_not] at e ⊢
          intro h4
          rw [lin_cmpR.eq _ _ e] at h4
          have h5 := lin_cmpR.neg g'.at_ g.at_
          omega
        simp [e, this]
      · simp [e]
    rw [List.flatMap_cons, ← e3, ← e2]
    exact e1
def kI (cols : List Int) (p : It × Nat) : It := ⟨pickR p.1.row cols, (p.2 : Int)⟩
def posP (p : It × Nat) : Bool := posI p.1
def kL (cols : List Int) (z : List It) (i : Nat) : List It := ((z.zipIdx.take i).filter posP).map (kI cols)
theorem kL_step {cols : List Int} {z : List It} {i : Nat} (h : i < z.length) : kL cols z (i + 1) = kL cols z i ++ (if posI z[i] then [⟨pickR z[i].row cols, (i : Int)⟩] else []) := by
  have h2 : i < z.zipIdx.length := by simpa using h
  rw [kL, List.take_succ_eq_append_getElem h2, List.filter_append, List.map_append, kL]
  congr 1
  simp only [List.getElem_zipIdx, Nat.zero_add]
  by_cases e : posI z[i] = true
  · rw [if_pos e]; simp [posP, e, kI]
  · rw [if_neg e]; simp [posP, e]
theorem kL_len {cols : List Int} {z : List It} (i : Nat) : (kL cols z i).length ≤ z.length := by
  rw [kL, List.length_map]
  have := List.length_filter_le posP (z.zipIdx.take i)
  rw [List.length_take, List.length_zipIdx] at this; omega
def itemsAt (z l : List It) : List It := l.map fun t => (z[t.w.toNat]?).getD ⟨[], 0⟩
theorem zip_mem {z : List It} {p : It × Nat} (hp : p ∈ z.zipIdx) : p.2 < z.length ∧ z[p.2]? = some p.1 := by
  have h1 := List.mem_zipIdx_iff_getElem?.1 hp
  exact ⟨(List.getElem?_eq_some_iff.1 h1).1, h1⟩
theorem kL_items {cols : List Int} {z : List It} (hz : ∀ t ∈ z, t.w ≠ 0) (K : List V) : itemsAt z ((kL cols z z.length).filter (rowIs K)) = (gOf cols z K).items := by
  rw [kL, List.take_of_length_le (by simp), List.filter_map, List.filter_filter, itemsAt, List.map_map]
  have e1 : ((z.zipIdx.filter fun p => (rowIs K ∘ kI cols) p && posP p).map ((fun t => (z[t.w.toNat]?).getD ⟨[], 0⟩) ∘ kI cols)) = (z.zipIdx.filter fun p => (rowIs K ∘ kI cols) p && posP p).map Prod.fst := by
    refine List.map_congr_left fun p hp => ?_
    obtain ⟨hp, _⟩ := List.mem_filter.1 hp
    simp only [Function.comp, kI, Int.toNat_natCast, (zip_mem hp).2, Option.getD_some]
  rw [e1]
  have e2 : (fun p : It × Nat => (rowIs K ∘ kI cols) p && posP p) = (fun t : It => decide (cmpR (pickR t.row cols) K = 0) && posI t) ∘ Prod.fst := by
    funext p; rfl
  rw [e2, ← List.filter_map, List.zipIdx_map_fst, gOf]
  refine List.filter_congr fun t ht => ?_
  have := hz t ht
  rw [Bool.and_comm]
  congr 1
  by_cases e : 0 < t.w
  · have : ¬ t.w < 0 := by omega
    simp [posI, e, this]
  · have : t.w < 0 := by omega
    simp [posI, e, this]
theorem kL_mem {cols : List Int} {z : List It} {t : It} (ht : t ∈ kL cols z z.length) : ∃ i, ∃ h : i < z.length, t = ⟨pickR z[i].row cols, (i : Int)⟩ ∧ 0 < z[i].w := by
  rw [kL, List.take_of_length_le (by simp)] at ht
  obtain ⟨p, hp, rfl⟩ := List.mem_map.1 ht
  obtain ⟨hp, hq⟩ := List.mem_filter.1 hp
  obtain ⟨h1, h2⟩ := zip_mem hp
  have h3 : z[p.2] = p.1 := by rw [List.getElem?_eq_getElem h1] at h2; exact Option.some.inj h2
  refine ⟨p.2, h1, by rw [h3]; rfl, ?_⟩
  rw [h3]; simpa [posP, posI] using hq
theorem app_get {α : Type} {y A B C : List α} (h : y = A ++ (B ++ C)) {i : Nat} (hi : i < B.length) : y[A.length + i]? = some B[i] := by
  rw [h, List.getElem?_append_right (by omega), Nat.add_sub_cancel_left, List.getElem?_append_left hi, List.getElem?_eq_getElem hi]
theorem app_get0 {α : Type} {y A B : List α} (h : y = A ++ B) : y[A.length]? = B[0]? := by
  rw [h, List.getElem?_append_right (by omega), Nat.sub_self]
structure Runs (z y : List It) (gs : List Gp) (off : Nat → Nat) : Prop where
  zero : off 0 = 0
  full : off gs.length = y.length
  le : ∀ m, m ≤ gs.length → off m ≤ y.length
  step : ∀ m (h : m < gs.length), off (m + 1) = off m + gs[m].items.length
  at_ : ∀ m (h : m < gs.length) i (hi : i < gs[m].items.length), ∃ h1 : off m + i < y.length, y[off m + i].row = gs[m].at_ ∧ 0 ≤ y[off m + i].w ∧ ∃ h2 : y[off m + i].w.toNat < z.length, z[y[off m + i].w.toNat] = gs[m].items[i]
  stop : ∀ m (h : m < gs.length) (h1 : off (m + 1) < y.length), y[off (m + 1)].row ≠ gs[m].at_
theorem runs {cols : List Int} {z y : List It} {gs : List Gp} (hz : ∀ t ∈ z, t.w ≠ 0) (hg : GpI cols z gs) (hp : y.Perm (kL cols z z.length)) (hs : Srt y) (hst : Stb (kL cols z z.length) y) : ∃ off, Runs z y gs off := by
  have hmem : ∀ t ∈ y, ∃ i, ∃ h : i < z.length, t = ⟨pickR z[i].row cols, (i : Int)⟩ ∧ 0 < z[i].w := fun t ht => kL_mem (hp.mem_iff.1 ht)
  have hy := srt_groups gs y hs hg.up fun t ht => by
    obtain ⟨i, h, rfl, hw⟩ := hmem t ht
    exact hg.all _ (List.getElem_mem h) (by omega)
  have hrun : ∀ g ∈ gs, itemsAt z (runY y g) = g.items := fun g hgm => by
    rw [runY, hst, kL_items hz]
    exact (congrArg Gp.items (gOf_mem hg hgm)).symm
  have hlen : ∀ g ∈ gs, (runY y g).length = g.items.length := fun g hgm => by
    rw [← hrun g hgm, itemsAt, List.length_map]
  have cut : ∀ m (h : m < gs.length), y = (gs.take m).flatMap (runY y) ++ (runY y gs[m] ++ (gs.drop (m + 1)).flatMap (runY y)) := fun m h => by
    have e : gs = gs.take m ++ gs[m] :: gs.drop (m + 1) := by rw [← List.drop_eq_getElem_cons h, List.take_append_drop]
    conv => lhs; rw [hy, e]
    rw [List.flatMap_append, List.flatMap_cons]
  refine ⟨fun m => ((gs.take m).flatMap (runY y)).length, ?_, ?_, ?_, ?_, ?_, ?_⟩
  · simp
  · simp only [List.take_length]; rw [← hy]
  · intro m hm
    conv => rhs; rw [hy, ← List.take_append_drop m gs, List.flatMap_append, List.length_append]
    omega
  · intro m h
    show ((gs.take (m + 1)).flatMap (runY y)).length = ((gs.take m).flatMap (runY y)).length + gs[m].items.length
    rw [List.take_succ_eq_append_getElem h, List.flatMap_append, List.length_append]
    congr 1
    simp [hlen _ (List.getElem_mem h)]
  · intro m h i hi
    have hr : i < (runY y gs[m]).length := by rw [hlen _ (List.getElem_mem h)]; exact hi
    have hc := cut m h
    have hb : y[((gs.take m).flatMap (runY y)).length + i]? = some (runY y gs[m])[i] := app_get hc hr
    obtain ⟨h1, e1⟩ := List.getElem?_eq_some_iff.1 hb
    have hmm := List.getElem_mem hr
    obtain ⟨hin, hrow⟩ := List.mem_filter.1 hmm
    obtain ⟨k, hk, e2, hw⟩ := hmem _ hin
    refine ⟨h1, ?_, ?_, ?_⟩
    · rw [e1]; simp only [rowIs, decide_eq_true_eq] at hrow; exact lin_cmpR.eq _ _ hrow
    · rw [e1, e2]; simp
    · have e3 : (y[((gs.take m).flatMap (runY y)).length + i]).w.toNat = k := by rw [e1, e2]; simp
      have h4 := hrun _ (List.getElem_mem h)
      have h5 : gs[m].items[i] = ((z[(runY y gs[m])[i].w.toNat]?).getD ⟨[], 0⟩) := by
        have : gs[m].items[i]? = (itemsAt z (runY y gs[m]))[i]? := by rw [h4]
        rw [List.getElem?_eq_getElem hi, itemsAt, List.getElem?_map, List.getElem?_eq_getElem hr] at this
        simpa using this
      refine ⟨by rw [e3]; exact hk, ?_⟩
      rw [h5, ← e1]
      simp only [e3, List.getElem?_eq_getElem hk, Option.getD_some]
  · intro m h h1 he
    have h0 : ((gs.take (m + 1)).flatMap (runY y)).length < y.length := h1
    have hc : y = (gs.take (m + 1)).flatMap (runY y) ++ (gs.drop (m + 1)).flatMap (runY y) := by
      conv => lhs; rw [hy, ← List.take_append_drop (m + 1) gs, List.flatMap_append]
    have hb : y[((gs.take (m + 1)).flatMap (runY y)).length]? = ((gs.drop (m + 1)).flatMap (runY y))[0]? := app_get0 hc
    rw [List.getElem?_eq_getElem h0] at hb
    have hin := List.mem_of_getElem? hb.symm
    obtain ⟨g, hgm, hin⟩ := List.mem_flatMap.1 hin
    obtain ⟨_, hrow⟩ := List.mem_filter.1 hin
    simp only [rowIs, decide_eq_true_eq] at hrow
    have h6 := lin_cmpR.eq _ _ hrow
    obtain ⟨j, hj, rfl⟩ := List.mem_iff_getElem.1 hgm
    rw [List.getElem_drop] at h6
    have hj' : m + 1 + j < gs.length := by rw [List.length_drop] at hj; omega
    have h7 := hg.get h hj' (by omega)
    have he' : (y[((gs.take (m + 1)).flatMap (runY y)).length]'h0).row = gs[m].at_ := he
    rw [← h6, he', cmpR_self] at h7
    omega
end Yt
namespace Yt
open Go Go.Vc Go.Proofs
set_option maxRecDepth 10000
set_option maxHeartbeats 8000000
set_option linter.unusedSimpArgs false
set_option linter.unusedVariables false
def Asks (z : List It) (cols : List Int) (kind col : Int) : Prop := ∀ t ∈ z, pickE t.row cols = 0 ∧ (kind ≠ 1 → inC col t.row.length = true)
def RGroup (z : List It) (cols : List Int) (kind col : Int) (out : List It) (err : Int) : Prop :=
  (¬ (1 ≤ kind ∧ kind ≤ 4) ∧ out = [] ∧ err = 1) ∨ ((1 ≤ kind ∧ kind ≤ 4) ∧ 12 ≤ cols.length ∧ out = [] ∧ err = 2) ∨ ((1 ≤ kind ∧ kind ≤ 4) ∧ cols.length < 12 ∧ ¬ Asks z cols kind col ∧ out = [] ∧ err = 1) ∨
  ((1 ≤ kind ∧ kind ≤ 4) ∧ cols.length < 12 ∧ Asks z cols kind col ∧ ∃ gs, GpI cols z gs ∧ (((∃ g ∈ gs, gval kind col g = none) ∧ out = [] ∧ err = 11) ∨ ((∀ g ∈ gs, gval kind col g ≠ none) ∧ out = gs.map (gItem kind col) ∧ err = 0)))
theorem gmap_made {cols : List Int} {kind col : Int} {z : List It} {gs : List Gp} (h : GpI cols z gs) : Made (gs.map (gItem kind col)) := by
  refine ⟨?_, fun t ht => ?_⟩
  · rw [List.pairwise_map]
    refine List.Pairwise.imp_of_mem ?_ h.up
    intro x y hx hy hxy
    have e1 := h.atlen x hx
    have e2 := h.atlen y hy
    simp only [cI, gItem]
    rw [cmpR_app _ _ _ _ (by omega) (by omega)]; exact hxy
  · obtain ⟨g, _, rfl⟩ := List.mem_map.1 ht
    exact ⟨by simp [gItem], by simp [gItem]; decide⟩
theorem srt_made {x y : List It} (hx : Made x) (hp : y.Perm x) (hs : Srt y) : y = x := by
  refine made_eq ⟨?_, fun t ht => hx.nz t (hp.mem_iff.1 ht)⟩ hx fun r => tot_perm hp
  have hd : y.Pairwise fun a b => a.row ≠ b.row := by
    refine hp.pairwise_iff (fun {a b} h => Ne.symm h) |>.2 (made_rows hx)
  refine (hs.and hd).imp fun {a b} h => ?_
  have : cI a b ≠ 0 := fun e => h.2 (cI_eq.1 e)
  have := h.1
  omega
theorem c71 (z : List It) (cols : List Int) (kind col : Int) (hg : Good z) (hl : z.length ≤ 300000) (hc : cols.length < 1073741824) :
    Spec0 Try.prog 71 [setA z, intsL cols, iA kind, iA col] (fun r => ∃ (out : List It) (err : Int), r = .tu [setA out, iA err] ∧ RGroup z cols kind col out err) := by
  have hgr := good_r hg
  have hr62 : ∀ t ∈ z, t.row.length < 1073741824 := fun t ht => by have := hgr t ht; omega
  refine spec0_of_vc tabOk elems ord71 Try.func71 rfl (rl := [.tmp 8, .tmp 9]) rfl (by kernel_rfl) rfl ?_
  have bad : ∀ (e : Int) (s : St), 0 ∉ s.used → s.regs 8 = .nl → s.regs 9 = .pr (.int .i64 e) → RGroup z cols kind col [] e → GOES (fun st => hRes T st [.tmp 8, .tmp 9] fun v => v.noId = true ∧ ∃ (out : List It) (err : Int), v = .tu [setA out, iA err] ∧ RGroup z cols kind col out err) s := by
    intro e s hu h8 h9 hj
    refine TO [] [(8, setA []), (9, iA e)] [] [] rfl ?_ ?_
    · (simp -implicitDefEqProofs only [go_sem, setA, iA, h8, h9]; repeat (refine GO ?_; simp -implicitDefEqProofs only [go_sem, setA, iA, h8, h9]))
      exact ⟨fun h => absurd h hu, rfl⟩
    (simp -implicitDefEqProofs only [go_sem]; repeat (refine GO ?_; simp -implicitDefEqProofs only [go_sem]))
    exact ⟨rfl, [], e, rfl, hj⟩
  (simp -implicitDefEqProofs only [go_sem, setA, intsL, iA]; repeat (refine GO ?_; simp -implicitDefEqProofs only [go_sem, setA, intsL, iA]))
  refine .pure _ (show Spec0 Try.prog 87 [iA kind, iA 1, iA 4] _ from s53 kind 1 4) rfl fun q hq _ => ?_
  subst hq
  (simp -implicitDefEqProofs only [go_sem, bA, iA]; repeat (refine GO ?_; simp -implicitDefEqProofs only [go_sem, bA, iA]))
  refine VIF.split (fun h => ?_) (fun h => ?_)
  · have h : ¬ (1 ≤ kind ∧ kind ≤ 4) := by simp [inB] at h; omega
    simp -implicitDefEqProofs only [go_sem]
    exact bad 1 _ (by simp) rfl rfl (.inl ⟨h, rfl, rfl⟩)
  have hk : 1 ≤ kind ∧ kind ≤ 4 := by simpa [inB] using h
  (simp -implicitDefEqProofs only [go_sem]; repeat (refine GO ?_; simp -implicitDefEqProofs only [go_sem]))
  refine VIF.split (fun h => ?_) (fun h => ?_)
  · have h : 12 ≤ cols.length := by simp at h; omega
    simp -implicitDefEqProofs only [go_sem]
    exact bad 2 _ (by simp) rfl rfl (.inr (.inl ⟨hk, h, rfl, rfl⟩))
  have hc12 : cols.length < 12 := by simp at h; omega
  (simp -implicitDefEqProofs only [go_sem]; repeat (refine GO ?_; simp -implicitDefEqProofs only [go_sem]))
  refine LOOP.mk (ι := { i : Nat // i ≤ z.length ∧ ∀ j (h : j < z.length), j < i → pickE z[j].row cols = 0 ∧ (kind ≠ 1 → inC col z[j].row.length = true) }) (fun p => mkS [(0, setA z), (1, intsL cols), (2, iA kind), (3, iA col), (10, iA p.1)] [] [])
    (fun p => z.length - p.1) ⟨0, Nat.zero_le _, fun j _ h => absurd h (Nat.not_lt_zero _)⟩ [] rfl rfl ?_ (fun p => ?_)
  · (simp -implicitDefEqProofs only [go_sem, setA, intsL, iA]; repeat (refine GO ?_; simp -implicitDefEqProofs only [go_sem, setA, intsL, iA]))
    exact ⟨id, rfl⟩
  obtain ⟨i, hi, hz⟩ := p
  (simp -implicitDefEqProofs only [go_sem, setA, intsL, iA]; repeat (refine GO ?_; simp -implicitDefEqProofs only [go_sem, setA, intsL, iA]))
  refine VIF.split (fun h => ?_) (fun h => ?_)
  · have h : i < z.length := by simpa using h
    have hm := List.getElem_mem h
    have w1 := wrap_add1 (show i < 4611686018427387904 by omega)
    have hrl := hgr _ hm
    have w2 : IntKind.i64.wrap ((z[i].row.length : Int) - 1) = (z[i].row.length : Int) - 1 := by rw [wrap_i64] <;> omega
    have isbad : ¬ (pickE z[i].row cols = 0 ∧ (kind ≠ 1 → inC col z[i].row.length = true)) → RGroup z cols kind col [] 1 := fun hb => .inr (.inr (.inl ⟨hk, hc12, fun g => hb (g _ hm), rfl, rfl⟩))
    (simp -implicitDefEqProofs only [go_sem]; repeat (refine GO ?_; simp -implicitDefEqProofs only [go_sem]))
    refine EL.map h ?_
    (simp -implicitDefEqProofs only [go_sem, It.c, iA, rowA]; repeat (refine GO ?_; simp -implicitDefEqProofs only [go_sem, It.c, iA, rowA]))
    refine .pure _ (show Spec0 Try.prog 97 [rowA z[i].row, intsL cols] _ from c97 z[i].row cols (by omega) hc) rfl fun q hq _ => ?_
    obtain ⟨po, pe, rfl, hpe, _⟩ := hq
    (simp -implicitDefEqProofs only [go_sem, iA, rowA]; repeat (refine GO ?_; simp -implicitDefEqProofs only [go_sem, iA, rowA]))
    refine VIF.split (fun h2 => ?_) (fun h2 => ?_)
    · have h2 : pe ≠ 0 := by simpa using h2
      have h3 : pe = 1 := by
        rw [hpe] at h2 ⊢
        simp only [pickE] at h2 ⊢
        split
        · rfl
        · rename_i h4; rw [if_neg h4, if_neg (by omega)] at h2; exact absurd rfl h2
      subst h3
      simp -implicitDefEqProofs only [go_sem]
      exact bad 1 _ (by simp) rfl rfl (isbad fun g => by rw [← hpe] at g; exact absurd g.1 (by decide))
    have h2 : pe = 0 := by simpa using h2
    rw [h2] at hpe
    (simp -implicitDefEqProofs only [go_sem]; repeat (refine GO ?_; simp -implicitDefEqProofs only [go_sem]))
    refine VIF.split (fun h3 => ?_) (fun h3 => ?_)
    · have h3 : kind ≠ 1 := by simpa using h3
      (simp -implicitDefEqProofs only [go_sem]; repeat (refine GO ?_; simp -implicitDefEqProofs only [go_sem]))
      refine EL.map h ?_
      (simp -implicitDefEqProofs only [go_sem, It.c, iA, rowA, w2]; repeat (refine GO ?_; simp -implicitDefEqProofs only [go_sem, It.c, iA, rowA, w2]))
      refine .pure _ (show Spec0 Try.prog 87 [iA col, iA 0, iA ((z[i].row.length : Int) - 1)] _ from s53 col 0 ((z[i].row.length : Int) - 1)) rfl fun q hq _ => ?_
      subst hq
      (simp -implicitDefEqProofs only [go_sem, bA, iA]; repeat (refine GO ?_; simp -implicitDefEqProofs only [go_sem, bA, iA]))
      refine VIF.split (fun h4 => ?_) (fun h4 => ?_)
      · have h4 : inC col z[i].row.length = false := by simp [inB] at h4; simp [inC]; omega
        simp -implicitDefEqProofs only [go_sem]
        exact bad 1 _ (by simp) rfl rfl (isbad fun g => by rw [g.2 h3] at h4; cases h4)
      · have h4 : inC col z[i].row.length = true := by simp [inB] at h4; simp [inC]; omega
        (simp -implicitDefEqProofs only [go_sem, w1]; repeat (refine GO ?_; simp -implicitDefEqProofs only [go_sem, w1]))
        refine BACK.mk ⟨i + 1, by omega, fun j hj hji => if e : j = i then (by subst e; exact ⟨hpe.symm, fun _ => h4⟩) else hz j hj (by omega)⟩ [] rfl rfl (by show z.length - (i + 1) < z.length - i; omega) ?_
        (simp -implicitDefEqProofs only [go_sem, setA, intsL, iA, w1]; repeat (refine GO ?_; simp -implicitDefEqProofs only [go_sem, setA, intsL, iA, w1]))
        exact id
    · have h3 : kind = 1 := by simpa using h3
      (simp -implicitDefEqProofs only [go_sem, w1]; repeat (refine GO ?_; simp -implicitDefEqProofs only [go_sem, w1]))
      refine BACK.mk ⟨i + 1, by omega, fun j hj hji => if e : j = i then (by subst e; exact ⟨hpe.symm, fun h => absurd h3 h⟩) else hz j hj (by omega)⟩ [] rfl rfl (by show z.length - (i + 1) < z.length - i; omega) ?_
      (simp -implicitDefEqProofs only [go_sem, setA, intsL, iA, w1]; repeat (refine GO ?_; simp -implicitDefEqProofs only [go_sem, setA, intsL, iA, w1]))
      exact id
  have h : i = z.length := by simp at h; omega
  subst h
  have hasks : Asks z cols kind col := fun t ht => by
    obtain ⟨j, hj, rfl⟩ := List.mem_iff_getElem.1 ht
    exact hz j hj hj
  have hnz : ∀ t ∈ z, t.w ≠ 0 := fun t ht => ((good_made.1 hg).1.nz t ht).1
  (simp -implicitDefEqProofs only [go_sem]; repeat (refine GO ?_; simp -implicitDefEqProofs only [go_sem]))
  refine LOOP.mk (ι := { i : Nat // i ≤ z.length }) (fun i => mkS [(0, setA z), (1, intsL cols), (2, iA kind), (3, iA col), (13, .rf 1000 0 (kL cols z i.1).length), (14, iA i.1)] [(1000, so (kL cols z i.1))] [1000])
    (fun p => z.length - p.1) ⟨0, Nat.zero_le _⟩ [(1000, none)] rfl rfl ?_ (fun p => ?_)
  · (simp -implicitDefEqProofs only [go_sem, setA, intsL, iA, so]; repeat (refine GO ?_; simp -implicitDefEqProofs only [go_sem, setA, intsL, iA, so]))
    exact ⟨id, ⟨rfl, rfl⟩, rfl⟩
  obtain ⟨i, hi⟩ := p
  have hkl := kL_len (cols := cols) (z := z) i
  (simp -implicitDefEqProofs only [go_sem, setA, intsL, iA, so]; repeat (refine GO ?_; simp -implicitDefEqProofs only [go_sem, setA, intsL, iA, so]))
  refine VIF.split (fun h => ?_) (fun h => ?_)
  · have h : i < z.length := by simpa using h
    have hm := List.getElem_mem h
    have w1 := wrap_add1 (show i < 4611686018427387904 by omega)
    have hrl := hgr _ hm
    have hst := kL_step (cols := cols) h
    (simp -implicitDefEqProofs only [go_sem]; repeat (refine GO ?_; simp -implicitDefEqProofs only [go_sem]))
    refine EL.map h ?_
    (simp -implicitDefEqProofs only [go_sem, It.c, iA]; repeat (refine GO ?_; simp -implicitDefEqProofs only [go_sem, It.c, iA]))
    refine VIF.split (fun h2 => ?_) (fun h2 => ?_)
    · have h2 : 0 < z[i].w := by simpa using h2
      rw [show posI z[i] = true by simp [posI, h2], if_pos rfl] at hst
      (simp -implicitDefEqProofs only [go_sem]; repeat (refine GO ?_; simp -implicitDefEqProofs only [go_sem]))
      refine EL.map h ?_
      (simp -implicitDefEqProofs only [go_sem, It.c, iA, rowA]; repeat (refine GO ?_; simp -implicitDefEqProofs only [go_sem, It.c, iA, rowA]))
      refine .pure _ (show Spec0 Try.prog 97 [rowA z[i].row, intsL cols] _ from c97 z[i].row cols (by omega) hc) rfl fun q hq _ => ?_
      obtain ⟨po, pe, rfl, hpe, hpo, _⟩ := hq
      rw [(hasks _ hm).1] at hpe
      have hpo := hpo hpe
      subst hpo
      (simp -implicitDefEqProofs only [go_sem, iA, rowA, w1]; repeat (refine GO ?_; simp -implicitDefEqProofs only [go_sem, iA, rowA, w1]))
      refine ⟨by omega, ?_⟩
      (simp -implicitDefEqProofs only [go_sem, iA, rowA, w1]; repeat (refine GO ?_; simp -implicitDefEqProofs only [go_sem, iA, rowA, w1]))
      refine BACK.mk ⟨i + 1, by omega⟩ [(1000, some 89)] rfl rfl (by show z.length - (i + 1) < z.length - i; omega) ?_
      (simp -implicitDefEqProofs only [go_sem, setA, intsL, iA, so, w1, hst]; repeat (refine GO ?_; simp -implicitDefEqProofs only [go_sem, setA, intsL, iA, so, w1, hst]))
      exact ⟨id, by simp, so_snoc (t := ⟨pickR z[i].row cols, (i : Int)⟩) rfl⟩
    · have h2 : ¬ 0 < z[i].w := by simpa using h2
      rw [show posI z[i] = false by simp [posI]; omega, if_neg (by decide), List.append_nil] at hst
      (simp -implicitDefEqProofs only [go_sem, w1]; repeat (refine GO ?_; simp -implicitDefEqProofs only [go_sem, w1]))
      refine BACK.mk ⟨i + 1, by omega⟩ [(1000, some 1000)] rfl rfl (by show z.length - (i + 1) < z.length - i; omega) ?_
      (simp -implicitDefEqProofs only [go_sem, setA, intsL, iA, so, w1, hst]; repeat (refine GO ?_; simp -implicitDefEqProofs only [go_sem, setA, intsL, iA, so, w1, hst]))
      exact ⟨id, .same (so (kL cols z i)) _ _ (so_leafy _) rfl⟩
  have h : i = z.length := by simp at h; omega
  subst h
  simp -implicitDefEqProofs only [go_sem]
  refine FRZ 1000 (so (kL cols z z.length)) rfl (so_leafy _) ?_
  have hkl := kL_len (cols := cols) (z := z) z.length
  have hkr : ∀ t ∈ kL cols z z.length, t.row.length < 4611686018427387904 := fun t ht => by
    obtain ⟨i, _, rfl, _⟩ := kL_mem ht
    simp [pickR]; omega
  (simp -implicitDefEqProofs only [go_sem, so]; repeat (refine GO ?_; simp -implicitDefEqProofs only [go_sem, so]))
  refine .pure _ (show Spec0 Try.prog 112 [setA (kL cols z z.length)] _ from st54 _ _ (Nat.le_refl _) (by omega) hkr) rfl fun q hq _ => ?_
  obtain ⟨y, rfl, hp, hsr, hst⟩ := hq
  obtain ⟨gs, hgs⟩ := gpi_ex cols z
  obtain ⟨off, ru⟩ := runs hnz hgs hp hsr hst
  have hyl : y.length ≤ 300000 := by rw [hp.length_eq]; omega
  have hyr : ∀ t ∈ y, t.row.length < 4611686018427387904 := fun t ht => hkr t (hp.mem_iff.1 ht)
  have hgl : gs.length ≤ y.length := by
    have h : ∀ m, m ≤ gs.length → m ≤ off m := by
      intro m
      induction m with
      | zero => intro _; omega
      | succ m ih =>
        intro hm
        have h1 := ih (by omega)
        have h2 := ru.step m (by omega)
        have h3 := List.length_pos_iff.2 (hgs.some _ (List.getElem_mem (show m < gs.length by omega)))
        omega
    have := h gs.length (Nat.le_refl _)
    have := ru.full
    omega
  (simp -implicitDefEqProofs only [go_sem, setA]; repeat (refine GO ?_; simp -implicitDefEqProofs only [go_sem, setA]))
  refine LOOP.mk (ι := { m : Nat // m ≤ gs.length ∧ ∀ j (h : j < gs.length), j < m → gval kind col gs[j] ≠ none }) (fun m => mkS [(0, setA z), (2, iA kind), (3, iA col), (13, setA y), (17, .rf 1000 0 m.1), (18, iA (off m.1))] [(1000, so ((gs.take m.1).map (gItem kind col)))] [1000])
    (fun m => gs.length - m.1) ⟨0, Nat.zero_le _, fun j _ h => absurd h (Nat.not_lt_zero _)⟩ [(1000, none)] rfl rfl ?_ (fun m => ?_)
  · (simp -implicitDefEqProofs only [go_sem, setA, iA, so, ru.zero]; repeat (refine GO ?_; simp -implicitDefEqProofs only [go_sem, setA, iA, so, ru.zero]))
    exact ⟨id, rfl, rfl⟩
  obtain ⟨m, hm, hv⟩ := m
  have hol := ru.le m hm
  (simp -implicitDefEqProofs only [go_sem, setA, iA, so]; repeat (refine GO ?_; simp -implicitDefEqProofs only [go_sem, setA, iA, so]))
  refine VIF.split (fun h => ?_) (fun h => ?_)
  · have h : off m < y.length := by simpa using h
    have hmg : m < gs.length := by
      rcases Nat.lt_or_ge m gs.length with h1 | h1
      · exact h1
      · have : m = gs.length := by omega
        rw [this, ru.full] at h; omega
    have hgm := List.getElem_mem hmg
    have hne := List.length_pos_iff.2 (hgs.some _ hgm)
    have hstep := ru.step m hmg
    have hol2 := ru.le (m + 1) (by omega)
    obtain ⟨q0, q1, _⟩ := ru.at_ m hmg 0 hne
    have q1 : y[off m].row = gs[m].at_ := q1
    (simp -implicitDefEqProofs only [go_sem]; repeat (refine GO ?_; simp -implicitDefEqProofs only [go_sem]))
    refine LOOP.join (ι := Unit) (fun _ => mkS [(0, setA z), (2, iA kind), (3, iA col), (13, setA y), (17, .rf 1000 0 m), (18, iA (off m)), (19, iA (off m + gs[m].items.length : Nat)), (20, .rf 1001 0 gs[m].items.length)] [(1000, so ((gs.take m).map (gItem kind col))), (1001, so gs[m].items)] [1000, 1001]) ?_ (fun _ => ?_)
    · refine LOOP.mk (ι := { i : Nat // i ≤ gs[m].items.length }) (fun i => mkS [(0, setA z), (2, iA kind), (3, iA col), (13, setA y), (17, .rf 1000 0 m), (18, iA (off m)), (19, iA (off m + i.1 : Nat)), (20, .rf 1001 0 i.1)] [(1000, so ((gs.take m).map (gItem kind col))), (1001, so (gs[m].items.take i.1))] [1000, 1001])
        (fun i => gs[m].items.length - i.1) ⟨0, Nat.zero_le _⟩ [(1000, some 1000), (1001, none)] rfl rfl ?_ (fun i => ?_)
      · (simp -implicitDefEqProofs only [go_sem, setA, iA, so]; repeat (refine GO ?_; simp -implicitDefEqProofs only [go_sem, setA, iA, so]))
        exact ⟨id, .same (so ((gs.take m).map (gItem kind col))) _ _ (so_leafy _) rfl, rfl⟩
      obtain ⟨i, hi⟩ := i
      have hlt : i < gs[m].items.length ∨ i = gs[m].items.length := by omega
      (simp -implicitDefEqProofs only [go_sem, setA, iA, so]; repeat (refine GO ?_; simp -implicitDefEqProofs only [go_sem, setA, iA, so]))
      refine VIF.split (fun h1 => ?_) (fun h1 => ?_)
      · have h1 : off m + i < y.length := by simp at h1; omega
        (simp -implicitDefEqProofs only [go_sem]; repeat (refine GO ?_; simp -implicitDefEqProofs only [go_sem]))
        refine EL.map h1 ?_
        (simp -implicitDefEqProofs only [go_sem, It.c, iA]; repeat (refine GO ?_; simp -implicitDefEqProofs only [go_sem, It.c, iA]))
        refine EL.map h ?_
        (simp -implicitDefEqProofs only [go_sem, It.c, iA]; repeat (refine GO ?_; simp -implicitDefEqProofs only [go_sem, It.c, iA]))
        refine .pure _ (s55 y[off m + i].row y[off m].row (hyr _ (List.getElem_mem h1)) (hyr _ (List.getElem_mem h))) rfl fun q hq _ => ?_
        subst hq
        (simp -implicitDefEqProofs only [go_sem, iA]; repeat (refine GO ?_; simp -implicitDefEqProofs only [go_sem, iA]))
        refine VIF.split (fun h2 => ?_) (fun h2 => ?_)
        · have h2 : cmpR y[off m + i].row y[off m].row = 0 := by simpa using h2
          have hii : i < gs[m].items.length := by
            rcases hlt with h3 | h3
            · exact h3
            · exfalso
              subst h3
              have h4 := lin_cmpR.eq _ _ h2
              rw [q1] at h4
              have h5 : off (m + 1) < y.length := by omega
              refine ru.stop m hmg h5 ?_
              rw [← h4]
              congr 2
          obtain ⟨p0, p1, p2, p3, p4⟩ := ru.at_ m hmg i hii
          have w3 := wrap_add1 (show off m + i < 4611686018427387904 by omega)
          (simp -implicitDefEqProofs only [go_sem]; repeat (refine GO ?_; simp -implicitDefEqProofs only [go_sem]))
          refine EL.map h1 ?_
          (simp -implicitDefEqProofs only [go_sem, It.c, iA]; repeat (refine GO ?_; simp -implicitDefEqProofs only [go_sem, It.c, iA]))
          refine ⟨p2, EL.map p3 ?_⟩
          rw [p4]
          (simp -implicitDefEqProofs only [go_sem, It.c, iA]; repeat (refine GO ?_; simp -implicitDefEqProofs only [go_sem, It.c, iA]))
          refine ⟨by have : (List.take i gs[m].items).length ≤ i := by rw [List.length_take]; omega
                     omega, ?_⟩
          (simp -implicitDefEqProofs only [go_sem, w3]; repeat (refine GO ?_; simp -implicitDefEqProofs only [go_sem, w3]))
          refine BACK.mk ⟨i + 1, by omega⟩ [(1000, some 1000), (1001, some 125)] rfl rfl (by show gs[m].items.length - (i + 1) < gs[m].items.length - i; omega) ?_
          have ht : List.take (i + 1) gs[m].items = List.take i gs[m].items ++ [gs[m].items[i]] := List.take_succ_eq_append_getElem hii
          (simp -implicitDefEqProofs only [go_sem, setA, iA, so, w3, ht]; repeat (refine GO ?_; simp -implicitDefEqProofs only [go_sem, setA, iA, so, w3, ht]))
          refine ⟨id, rfl, .same (so ((gs.take m).map (gItem kind col))) _ _ (so_leafy _) rfl, ?_⟩
          have tk : List.take i (List.map It.c (List.take i gs[m].items)) = List.map It.c (List.take i gs[m].items) := List.take_of_length_le (by rw [List.length_map, List.length_take]; omega)
          rw [tk]
          exact so_snoc (t := gs[m].items[i]) rfl
        · have h2 : cmpR y[off m + i].row y[off m].row ≠ 0 := by simpa using h2
          have hii : i = gs[m].items.length := by
            rcases hlt with h3 | h3
            · exfalso
              obtain ⟨p0, p1, _⟩ := ru.at_ m hmg i h3
              rw [p1, q1, cmpR_self] at h2
              exact h2 rfl
            · exact h3
          subst hii
          (simp -implicitDefEqProofs only [go_sem]; repeat (refine GO ?_; simp -implicitDefEqProofs only [go_sem]))
          refine JB.mk () [(1000, some 1000), (1001, some 1001)] rfl rfl ?_
          (simp -implicitDefEqProofs only [go_sem, setA, iA, so, List.take_length]; repeat (refine GO ?_; simp -implicitDefEqProofs only [go_sem, setA, iA, so, List.take_length]))
          exact ⟨id, .same (so ((gs.take m).map (gItem kind col))) _ _ (so_leafy _) rfl, .same (so gs[m].items) _ _ (so_leafy _) rfl⟩
      · have h1 : off m + i = y.length := by simp at h1; omega
        have hii : i = gs[m].items.length := by
          rcases hlt with h3 | h3
          · exfalso
            obtain ⟨p0, _⟩ := ru.at_ m hmg i h3
            omega
          · exact h3
        subst hii
        (simp -implicitDefEqProofs only [go_sem]; repeat (refine GO ?_; simp -implicitDefEqProofs only [go_sem]))
        refine JB.mk () [(1000, some 1000), (1001, some 1001)] rfl rfl ?_
        (simp -implicitDefEqProofs only [go_sem, setA, iA, so, List.take_length]; repeat (refine GO ?_; simp -implicitDefEqProofs only [go_sem, setA, iA, so, List.take_length]))
        exact ⟨id, .same (so ((gs.take m).map (gItem kind col))) _ _ (so_leafy _) rfl, .same (so gs[m].items) _ _ (so_leafy _) rfl⟩
    · simp -implicitDefEqProofs only [go_sem, setA, iA, so]
      refine FRZ 1001 (so gs[m].items) rfl (so_leafy _) ?_
      (simp -implicitDefEqProofs only [go_sem, setA, iA, so]; repeat (refine GO ?_; simp -implicitDefEqProofs only [go_sem, setA, iA, so]))
      have hgi : ∀ t ∈ gs[m].items, t ∈ z := fun t ht => by rw [hgs.items _ hgm, List.mem_filter] at ht; exact ht.1
      have hil : gs[m].items.length ≤ z.length := by rw [hgs.items _ hgm]; exact List.length_filter_le _ _
      refine .pure _ (show Spec0 Try.prog 113 [setA gs[m].items, iA kind, iA col] _ from c113 gs[m].items kind col hk (by omega) (fun t ht => good_w hg (hgi t ht)) (fun t ht => okR_bound ((good_made.1 hg).2 t (hgi t ht))) (fun h t ht => (hasks t (hgi t ht)).2 h) gs[m].at_) rfl fun q hq _ => ?_
      subst hq
      rw [show (⟨gs[m].at_, gs[m].items⟩ : Gp) = gs[m] from rfl]
      have hal := hgs.atlen _ hgm
      (simp -implicitDefEqProofs only [go_sem, setA, iA, so, bA]; repeat (refine GO ?_; simp -implicitDefEqProofs only [go_sem, setA, iA, so, bA]))
      refine ⟨⟨rfl, Nat.le_refl 3⟩, ?_⟩
      refine VIF.split (fun h2 => ?_) (fun h2 => ?_)
      · have h2 : gval kind col gs[m] = none := by simpa using h2
        simp -implicitDefEqProofs only [go_sem]
        exact bad 11 _ (by simp) rfl rfl (.inr (.inr (.inr ⟨hk, hc12, hasks, gs, hgs, .inl ⟨⟨_, hgm, h2⟩, rfl, rfl⟩⟩)))
      have h2 : (gval kind col gs[m]).isSome = true := by simpa using h2
      obtain ⟨v, hgv⟩ := Option.isSome_iff_exists.1 h2
      rw [hgv]
      simp -implicitDefEqProofs only [go_sem, Option.getD_some]
      refine TO [(1000, some 1000)] [(0, setA z), (2, iA kind), (3, iA col), (13, setA y), (17, .rf 1000 0 m), (18, iA (off m)), (19, iA (off m + gs[m].items.length : Nat)), (21, .ro v.c 0)] [(1000, so ((gs.take m).map (gItem kind col)))] [1000] rfl ?_ ?_
      · (simp -implicitDefEqProofs only [go_sem, V.c, iA, setA, so]; repeat (refine GO ?_; simp -implicitDefEqProofs only [go_sem, V.c, iA, setA, so]))
        exact ⟨id, ⟨by decide, _, rfl, leaf_box v, rfl⟩, .same (so ((gs.take m).map (gItem kind col))) _ _ (so_leafy _) rfl⟩
      (simp -implicitDefEqProofs only [go_sem, V.c, iA, setA, so]; repeat (refine GO ?_; simp -implicitDefEqProofs only [go_sem, V.c, iA, setA, so]))
      refine EL.map h ?_
      have hyl2 := hyr _ (List.getElem_mem h)
      (simp -implicitDefEqProofs only [go_sem, It.c, rowA, q1, V.c]; repeat (refine GO ?_; simp -implicitDefEqProofs only [go_sem, It.c, rowA, q1, V.c]))
      have s45' : Spec1 Try.prog 45 [.im 3 (gs[m].at_.map V.c)] _ := s52 gs[m].at_ (by omega)
      refine ⟨.make 143 _ s45' rfl (by simp) rfl fun q o hq _ => ?_, .make 143 _ s45' rfl (by simp) rfl fun q o hq _ => ?_⟩
      all_goals obtain ⟨rfl, rfl⟩ := hq
      all_goals (simp -implicitDefEqProofs only [go_sem, V.c, iA, ro3, so]; repeat (refine GO ?_; simp -implicitDefEqProofs only [go_sem, V.c, iA, ro3, so]))
      all_goals refine ⟨by omega, by omega, ?_⟩
      all_goals refine BACK.mk ⟨m + 1, by omega, fun j hj hji => if e : j = m then (by subst e; rw [hgv]; simp) else hv j hj (by omega)⟩ [(1000, some 149)] rfl rfl (by show gs.length - (m + 1) < gs.length - m; omega) ?_
      all_goals (simp -implicitDefEqProofs only [go_sem, setA, iA, so, hstep]; repeat (refine GO ?_; simp -implicitDefEqProofs only [go_sem, setA, iA, so, hstep]))
      all_goals
        refine ⟨id, ?_⟩
        rw [List.take_succ_eq_append_getElem hmg, List.map_append, List.map_append, List.map_cons, List.map_nil, List.map_cons, List.map_nil, List.take_of_length_le (l := List.map It.c (List.map (gItem kind col) (List.take m gs))) (by simp; omega)]
        refine Es_snoc (l := List.map It.c (List.map (gItem kind col) (List.take m gs))) (fun x hx a ha => so_leafy ((gs.take m).map (gItem kind col)) x hx a ha) ?_
        (simp -implicitDefEqProofs only [go_sem, It.c, gItem, hgv, rowA, iA]; repeat (refine GO ?_; simp -implicitDefEqProofs only [go_sem, It.c, gItem, hgv, rowA, iA]))
        exact ⟨by decide, ro3 (gs[m].at_ ++ [v]), by rw [ro3, List.map_append]; rfl, ro3_leafy _, rfl, List.take_of_length_le (by simp [ro3])⟩
  · have h : off m = y.length := by simp at h; omega
    have hmg : m = gs.length := by
      rcases Nat.lt_or_ge m gs.length with h1 | h1
      · obtain ⟨q0, _⟩ := ru.at_ m h1 0 (List.length_pos_iff.2 (hgs.some _ (List.getElem_mem h1)))
        omega
      · omega
    subst hmg
    rw [List.take_length]
    simp -implicitDefEqProofs only [go_sem]
    refine FRZ 1000 (so (gs.map (gItem kind col))) rfl (so_leafy _) ?_
    have tk : List.take gs.length (List.map It.c (List.map (gItem kind col) gs)) = List.map It.c (List.map (gItem kind col) gs) := List.take_of_length_le (by simp)
    (simp -implicitDefEqProofs only [go_sem, so, tk]; repeat (refine GO ?_; simp -implicitDefEqProofs only [go_sem, so, tk]))
    have ho : ∀ t ∈ gs.map (gItem kind col), t.row.length < 4611686018427387904 := fun t ht => by
      obtain ⟨g, hgm, rfl⟩ := List.mem_map.1 ht
      have := hgs.atlen g hgm
      simp [gItem]; omega
    refine .pure _ (show Spec0 Try.prog 112 [setA (gs.map (gItem kind col))] _ from st54 _ _ (Nat.le_refl _) (by simp; omega) ho) rfl fun q hq _ => ?_
    obtain ⟨y2, rfl, hp2, hs2, _⟩ := hq
    have e2 := srt_made (gmap_made hgs) hp2 hs2
    subst e2
    (simp -implicitDefEqProofs only [go_sem, setA, iA]; repeat (refine GO ?_; simp -implicitDefEqProofs only [go_sem, setA, iA]))
    exact ⟨rfl, _, 0, rfl, .inr (.inr (.inr ⟨hk, hc12, hasks, gs, hgs, .inr ⟨fun g hgm => by
      obtain ⟨j, hj, rfl⟩ := List.mem_iff_getElem.1 hgm
      exact hv j hj hj, rfl, rfl⟩⟩))⟩
end Yt
namespace Yt
open Go Go.Vc Go.Proofs
set_option maxRecDepth 10000
set_option maxHeartbeats 8000000
set_option linter.unusedSimpArgs false
set_option linter.unusedVariables false
end Yt
namespace Go.Vc
theorem Es.app {st : St} {m : List (Nat × Option Nat)} {l1 l1' l2 l2' : List (List AV)} (h : Es st m l1 l1') (h2 : Es st m l2 l2') : Es st m (l1 ++ l2) (l1' ++ l2') := by
  obtain ⟨e1, e2⟩ := h.get
  obtain ⟨e3, e4⟩ := h2.get
  refine Es_all (by simp [e1, e3]) fun i q1 q2 => ?_
  by_cases hi : i < l1'.length
  · obtain ⟨cs, h3, h4⟩ := e2 i l1'[i] (List.getElem?_eq_getElem hi)
    obtain ⟨h5, h6⟩ := List.getElem?_eq_some_iff.1 h3
    rw [List.getElem_append_left h5, List.getElem_append_left hi, h6]; exact h4
  · have hi1 : ¬ i < l1.length := by omega
    rw [List.getElem_append_right (by omega), List.getElem_append_right (by omega)]
    have hlt : i - l1'.length < l2'.length := by rw [List.length_append] at q2; omega
    obtain ⟨cs, h3, h4⟩ := e4 (i - l1'.length) _ (List.getElem?_eq_getElem hlt)
    obtain ⟨h5, h6⟩ := List.getElem?_eq_some_iff.1 h3
    have e : i - l1.length = i - l1'.length := by omega
    simp only [e, h6]; exact h4
theorem nms_append {m m' : List (Nat × Option Nat)} {x : Nat} : nms (m ++ m') x = (match nms m x with | none => nms m' x | some y => some y) := by
  induction m with
  | nil => rfl
  | cons p r ih =>
    obtain ⟨a, b⟩ := p
    simp only [List.cons_append, nms]
    split
    · rfl
    · exact ih
theorem olds_append {m m' : List (Nat × Option Nat)} : olds (m ++ m') = olds m ++ olds m' := by
  induction m with
  | nil => rfl
  | cons p r ih =>
    obtain ⟨a, b⟩ := p
    cases b with
    | none => simpa [olds] using ih
    | some b => simpa [olds] using ih
end Go.Vc
namespace Yt
open Go Go.Vc Go.Proofs
set_option maxRecDepth 10000
set_option maxHeartbeats 1000000
set_option linter.unusedSimpArgs false
set_option linter.unusedVariables false
def famC (b : Nat) (z : List It) : List (List AV) := z.zipIdx.map fun p => [.rf (b + (p.2 + 1)) 0 p.1.row.length, iA p.1.w]
def famL (b : Nat) (z : List It) : List (Nat × Ob) := z.zipIdx.map fun p => (b + (p.2 + 1), ro3 p.1.row)
def famN (b n : Nat) : List Nat := (List.range n).map fun i => b + (i + 1)
def famM (b n : Nat) (ν : Nat → Nat) : List (Nat × Option Nat) := (List.range n).map fun i => (b + (i + 1), some (ν i))
theorem famC_len (b : Nat) (z : List It) : (famC b z).length = z.length := by simp [famC]
theorem famC_get {b : Nat} {z : List It} {i : Nat} (h : i < z.length) (h2 : i < (famC b z).length) : (famC b z)[i] = [.rf (b + (i + 1)) 0 z[i].row.length, iA z[i].w] := by simp [famC]
theorem famN_mem {b n x : Nat} : x ∈ famN b n ↔ ∃ i, i < n ∧ x = b + (i + 1) := by
  simp [famN, eq_comm]
theorem famM_nms {b n : Nat} {ν : Nat → Nat} {i : Nat} (h : i < n) : nms (famM b n ν) (b + (i + 1)) = some (some (ν i)) := by
  have key : ∀ (l : List Nat), i ∈ l → nms (l.map fun i => (b + (i + 1), some (ν i))) (b + (i + 1)) = some (some (ν i)) := by
    intro l
    induction l with
    | nil => intro h; cases h
    | cons x r ih =>
      intro hm
      simp only [List.map_cons, nms]
      split
      · rename_i e
        have : x = i := by omega
        rw [this]
      · rename_i e
        rcases List.mem_cons.1 hm with rfl | hm
        · exact absurd rfl e
        · exact ih hm
  exact key _ (List.mem_range.2 h)
theorem famM_none {b n : Nat} {ν : Nat → Nat} {x : Nat} (h : x ≤ b ∨ b + n < x) : nms (famM b n ν) x = none := by
  have key : ∀ (l : List Nat), (∀ i ∈ l, i < n) → nms (l.map fun i => (b + (i + 1), some (ν i))) x = none := by
    intro l
    induction l with
    | nil => intro _; rfl
    | cons y r ih =>
      intro hm
      simp only [List.map_cons, nms]
      have := hm y (by simp)
      rw [if_neg (by omega)]
      exact ih fun i hi => hm i (by simp [hi])
  exact key _ fun i hi => List.mem_range.1 hi
theorem famM_olds {b n : Nat} {ν : Nat → Nat} : olds (famM b n ν) = (List.range n).map ν := by
  have key : ∀ (l : List Nat), olds (l.map fun i => (b + (i + 1), some (ν i))) = l.map ν := by
    intro l
    induction l with
    | nil => rfl
    | cons y r ih => simp only [List.map_cons, olds, ih]
  exact key _
theorem famL_get {b : Nat} {z : List It} {i : Nat} (h : i < z.length) : mkO (famL b z) (b + (i + 1)) = some (ro3 z[i].row) := by
  have key : ∀ (l : List It) (k : Nat), k ≤ i → (h : i - k < l.length) → mkO ((l.zipIdx k).map fun p => (b + (p.2 + 1), ro3 p.1.row)) (b + (i + 1)) = some (ro3 (l[i - k]).row) := by
    intro l
    induction l with
    | nil => intro k _ h; simp at h
    | cons t r ih =>
      intro k hk h
      simp only [List.zipIdx_cons, List.map_cons, mkO, upd]
      by_cases e : k = i
      · subst e; simp
      · rw [if_neg (by omega), ih (k + 1) (by omega) (by simp at h; omega)]
        have : i - k = (i - (k + 1)) + 1 := by omega
        simp [this]
  have := key z 0 (Nat.zero_le _) (by simpa using h)
  simpa [famL] using this
theorem famL_none {b : Nat} {z : List It} {x : Nat} (h : x ≤ b ∨ b + z.length < x) : mkO (famL b z) x = none := by
  have key : ∀ (l : List It) (k : Nat), k + l.length ≤ z.length → mkO ((l.zipIdx k).map fun p => (b + (p.2 + 1), ro3 p.1.row)) x = none := by
    intro l
    induction l with
    | nil => intro _ _; rfl
    | cons t r ih =>
      intro k hk
      simp only [List.length_cons] at hk
      simp only [List.zipIdx_cons, List.map_cons, mkO, upd]
      rw [if_neg (by omega)]
      exact ih (k + 1) (by omega)
  exact key z 0 (by omega)
def famS (b : Nat) (z : List It) : List (Nat × Ob) := (b, ⟨2, famC b z⟩) :: famL b z
def famF (z : List It) : Nat → Option Ob := mkO (famS 0 z)
theorem famS_0 (b : Nat) (z : List It) : mkO (famS b z) b = some ⟨2, famC b z⟩ := by simp [famS, mkO, upd]
theorem famS_row {b : Nat} {z : List It} {i : Nat} (h : i < z.length) : mkO (famS b z) (b + (i + 1)) = some (ro3 z[i].row) := by
  simp only [famS, mkO, upd]
  rw [if_neg (by omega)]; exact famL_get h
theorem famS_none {b : Nat} {z : List It} {x : Nat} (h : x < b ∨ b + z.length < x) : mkO (famS b z) x = none := by
  simp only [famS, mkO, upd]
  rw [if_neg (by omega)]; exact famL_none (by omega)
theorem famS_cases {b : Nat} {z : List It} {x : Nat} {o : Ob} (h : mkO (famS b z) x = some o) : (x = b ∧ o = ⟨2, famC b z⟩) ∨ ∃ i, ∃ hi : i < z.length, x = b + (i + 1) ∧ o = ro3 z[i].row := by
  by_cases e : x = b
  · subst e; rw [famS_0] at h; cases h; exact .inl ⟨rfl, rfl⟩
  · by_cases e2 : x < b ∨ b + z.length < x
    · rw [famS_none e2] at h; cases h
    · obtain ⟨i, rfl⟩ : ∃ i, x = b + (i + 1) := ⟨x - b - 1, by omega⟩
      have hi : i < z.length := by omega
      rw [famS_row hi] at h; cases h
      exact .inr ⟨i, hi, rfl, rfl⟩
theorem ro3_rn (ρ : Nat → Nat) (r : List V) : (ro3 r).rn ρ = ro3 r := by
  simp only [ro3, Ob.rn, List.map_map]
  congr 1
theorem famC_rn (ρ : Nat → Nat) (b : Nat) (z : List It) (h : ∀ i, i < z.length → ρ (i + 1) = b + (i + 1)) : (famC 0 z).map (rns ρ) = famC b z := by
  refine List.ext_getElem (by simp [famC_len]) fun i q1 q2 => ?_
  have hi : i < z.length := by simpa [famC_len] using q1
  rw [List.getElem_map, famC_get hi, famC_get hi]
  simp only [rns, AV.rn, Nat.zero_add, h i hi]
  rfl
theorem famF_rn (b : Nat) (z : List It) (n : Nat) : (famF z n).map (Ob.rn fun i => b + i) = mkO (famS b z) (b + n) := by
  cases hn : famF z n with
  | none =>
    have : ¬ n ≤ z.length := fun h => by
      cases n with
      | zero => rw [famF, famS_0] at hn; cases hn
      | succ i =>
        have := famS_row (b := 0) (z := z) (i := i) (by omega)
        rw [Nat.zero_add] at this
        rw [famF, this] at hn; cases hn
    rw [famS_none (by omega)]; rfl
  | some o =>
    rcases famS_cases hn with ⟨rfl, rfl⟩ | ⟨i, hi, rfl, rfl⟩
    · rw [Nat.add_zero, famS_0]
      simp only [Option.map_some, Ob.rn]
      rw [famC_rn _ b z fun i _ => rfl]
    · rw [Nat.zero_add, famS_row hi, Option.map_some, ro3_rn]
def SpecF (P : Program) (f : Nat) (args : List AV) (R : AV → List It → Prop) : Prop := FunSpecD P f args noOb noOb [] fun r O' => ∃ z, (R r z ∧ r.only0 = true) ∧ O' = famF z
def famO (b : Nat) (z : List It) (objs : Nat → Option Ob) (n : Nat) : Option Ob := if b ≤ n then mkO (famS b z) n else objs n
@[go_sem] theorem famO_lo {b : Nat} {z : List It} {objs : Nat → Option Ob} {n : Nat} (h : (b ≤ n) = False) : famO b z objs n = objs n := by simp [famO, h]
@[go_sem] theorem famO_0 {b : Nat} {z : List It} {objs : Nat → Option Ob} : famO b z objs b = some ⟨2, famC b z⟩ := by simp [famO, famS_0]
theorem famO_row {b : Nat} {z : List It} {objs : Nat → Option Ob} {i : Nat} (h : i < z.length) : famO b z objs (b + (i + 1)) = some (ro3 z[i].row) := by
  rw [famO, if_pos (by omega), famS_row h]
def famU (b n : Nat) : List Nat := (List.range (n + 1)).map fun i => b + i
@[go_sem] theorem famU_lo {b n x : Nat} (h : (b ≤ x) = False) : (x ∈ famU b n) = False := by
  simp only [famU, List.mem_map, List.mem_range, eq_iff_iff, iff_false]
  rintro ⟨i, _, rfl⟩
  have : b ≤ b + i := Nat.le_add_right _ _
  rw [h] at this; exact this
mutual
theorem only0_in : ∀ (v : AV), v.only0 = true → v.inN (fun i => i = 0)
  | .un, _ => trivial
  | .pr v, _ => trivial
  | .nl, _ => trivial
  | .im a b, _ => trivial
  | .rf a b c, h => by simp only [AV.inN]; simpa [AV.only0] using h
  | .pt a b c, h => by simp only [AV.inN]; simpa [AV.only0] using h
  | .ro a b, _ => trivial
  | .ag cs, h => by simp only [AV.inN]; exact only0s_in cs (by simpa [AV.only0] using h)
  | .tu cs, h => by simp only [AV.inN]; exact only0s_in cs (by simpa [AV.only0] using h)
  | .fn f cs, h => by simp only [AV.inN]; exact only0s_in cs (by simpa [AV.only0] using h)
theorem only0s_in : ∀ (l : List AV), only0s l = true → inNs (fun i => i = 0) l
  | [], _ => trivial
  | x :: r, h => by
    simp only [only0s, Bool.and_eq_true] at h
    exact ⟨only0_in x h.1, only0s_in r h.2⟩
end
mutual
theorem inN_mono {p q : Nat → Prop} (hpq : ∀ i, p i → q i) : ∀ (v : AV), v.inN p → v.inN q
  | .un, _ => trivial
  | .pr v, _ => trivial
  | .nl, _ => trivial
  | .im a b, _ => trivial
  | .rf a b c, h => hpq _ h
  | .pt a b c, h => hpq _ h
  | .ro a b, _ => trivial
  | .ag cs, h => inNs_mono hpq cs h
  | .tu cs, h => inNs_mono hpq cs h
  | .fn f cs, h => inNs_mono hpq cs h
theorem inNs_mono {p q : Nat → Prop} (hpq : ∀ i, p i → q i) : ∀ (l : List AV), inNs p l → inNs q l
  | [], _ => trivial
  | x :: r, h => ⟨inN_mono hpq x h.1, inNs_mono hpq r h.2⟩
end
mutual
theorem noId_rn {ρ : Nat → Nat} {p : Nat → Prop} : ∀ (v : AV), v.noId = true → v.rn ρ = v ∧ v.inN p
  | .un, _ => ⟨rfl, trivial⟩
  | .pr v, _ => ⟨rfl, trivial⟩
  | .nl, _ => ⟨rfl, trivial⟩
  | .im a b, _ => ⟨rfl, trivial⟩
  | .rf a b c, h => by simp [AV.noId] at h
  | .pt a b c, h => by simp [AV.noId] at h
  | .ro a b, _ => ⟨rfl, trivial⟩
  | .ag cs, h => by
    obtain ⟨h1, h2⟩ := noIds_rn (ρ := ρ) (p := p) cs (by simpa [AV.noId] using h)
    exact ⟨by simp only [AV.rn, h1], h2⟩
  | .tu cs, h => by
    obtain ⟨h1, h2⟩ := noIds_rn (ρ := ρ) (p := p) cs (by simpa [AV.noId] using h)
    exact ⟨by simp only [AV.rn, h1], h2⟩
  | .fn f cs, h => by
    obtain ⟨h1, h2⟩ := noIds_rn (ρ := ρ) (p := p) cs (by simpa [AV.noId] using h)
    exact ⟨by simp only [AV.rn, h1], h2⟩
theorem noIds_rn {ρ : Nat → Nat} {p : Nat → Prop} : ∀ (l : List AV), noIds l = true → rns ρ l = l ∧ inNs p l
  | [], _ => ⟨rfl, trivial⟩
  | x :: r, h => by
    simp only [noIds, Bool.and_eq_true] at h
    obtain ⟨h1, h2⟩ := noId_rn (ρ := ρ) (p := p) x h.1
    obtain ⟨h3, h4⟩ := noIds_rn (ρ := ρ) (p := p) r h.2
    exact ⟨by simp only [rns, h1, h3], h2, h4⟩
end
theorem famU_mem {b n x : Nat} : x ∈ famU b n ↔ b ≤ x ∧ x ≤ b + n := by
  simp only [famU, List.mem_map, List.mem_range]
  constructor
  · rintro ⟨i, hi, rfl⟩; omega
  · intro h; exact ⟨x - b, by omega, by omega⟩
theorem famF_closed {z : List It} {i : Nat} {o : Ob} (h : famF z i = some o) : i ∈ famU 0 z.length ∧ ∀ x ∈ o.es, inNs (· ∈ famU 0 z.length) x := by
  rcases famS_cases h with ⟨rfl, rfl⟩ | ⟨i, hi, rfl, rfl⟩
  · refine ⟨famU_mem.2 (by omega), fun x hx => ?_⟩
    obtain ⟨j, hj, rfl⟩ := List.mem_iff_getElem.1 hx
    have hj' : j < z.length := by simpa [famC_len] using hj
    rw [famC_get hj']
    exact ⟨famU_mem.2 (by omega), trivial, trivial⟩
  · refine ⟨famU_mem.2 (by omega), fun x hx => ?_⟩
    obtain ⟨v, _, rfl⟩ := List.mem_map.1 hx
    exact ⟨trivial, trivial, trivial, trivial⟩
theorem kept_false (O : Nat → Option Ob) : kept false O = noOb := by
  funext i; simp [kept, noOb]
mutual
theorem flat_noId : ∀ (v : AV), v.flat = true → v.noId = true
  | .un, h => by simp [AV.flat] at h
  | .pr v, _ => rfl
  | .nl, _ => rfl
  | .im a b, _ => rfl
  | .rf a b c, h => by simp [AV.flat] at h
  | .pt a b c, h => by simp [AV.flat] at h
  | .ro a b, _ => rfl
  | .ag cs, h => by simp [AV.flat] at h
  | .tu cs, h => by simp only [AV.noId]; exact flats_noIds cs (by simpa [AV.flat] using h)
  | .fn f cs, h => by simp [AV.flat] at h
theorem flats_noIds : ∀ (l : List AV), flats l = true → noIds l = true
  | [], _ => rfl
  | x :: r, h => by
    simp only [flats, Bool.and_eq_true] at h
    simp only [noIds, Bool.and_eq_true]
    exact ⟨flat_noId x h.1, flats_noIds r h.2⟩
end
theorem CALL.fam {P : Program} {f : Nat} {args : List AV} {st : St} {x : Nat} {K : St → Prop} {R : AV → List It → Prop} (h : SpecF P f args R) (ha : noIds args = true) (b : Nat) (hb : ∀ n ∈ st.used, n < b)
    (k : ∀ r z, R r z → K { regs := upd st.regs x (r.rn fun i => b + i), objs := famO b z st.objs, used := famU b z.length ++ st.used }) : CALL P f args st (some x) K := by
  obtain ⟨g1, g2⟩ := noIds_rn (ρ := id) (p := (· ∈ ([] : List Nat))) args ha
  have h' : FunSpecD P f args (kept false noOb) noOb [] fun r O' => ∃ z, (R r z ∧ r.only0 = true) ∧ O' = famF z := by rw [kept_false]; exact h
  classical
  have key := dep_sem (objs := st.objs) (used := st.used) (args := args) h' id (by simp) (fun i o ho => by cases ho) (fun h => by cases h) (fun i o ho => by cases ho) (by simp) ⟨g1.symm, g2⟩ b hb
    (fun r O' => if h : ∃ z, (R r z ∧ r.only0 = true) ∧ O' = famF z then famU 0 h.choose.length else []) (fun r O' hR => by
      rw [dif_pos hR]
      obtain ⟨⟨_, q1⟩, q2⟩ := hR.choose_spec
      refine ⟨fun i o ho => ?_, inN_mono (fun i hi => famU_mem.2 (by omega)) _ (only0_in _ q1)⟩
      have ho2 : famF hR.choose i = some o := by rw [← q2]; exact ho
      exact famF_closed ho2)
  refine .sem _ key fun u O U hX => ?_
  obtain ⟨r, O', hR, rfl, rfl, rfl⟩ := hX
  rw [dif_pos hR]
  obtain ⟨⟨q0, q1⟩, q2⟩ := hR.choose_spec
  generalize hR.choose = z at q0 q2
  have e1 : nmD false (id 0) b = fun i => b + i := by funext i; simp [nmD]
  have e2 : depO false (id 0) b (List.map id []) O' st.objs = famO b z st.objs := by
    funext n
    simp only [depO, Bool.false_eq_true, false_and, if_false, List.map_nil, List.not_mem_nil, e1, famO]
    split
    · rename_i hn
      rw [q2, famF_rn, show b + (n - b) = n by omega]
    · rfl
  have e3 : List.map (fun i => b + i) (famU 0 z.length) = famU b z.length := by simp [famU]
  have := k r z q0
  simp only [St.to, St.put, e1, e2, e3]
  exact this
def dropO (b n K0 : Nat) (objs : Nat → Option Ob) (x : Nat) : Option Ob := if K0 ≤ x then none else if b ≤ x ∧ x ≤ b + n then none else objs x
@[go_sem] theorem dropO_lo {b n K0 : Nat} {objs : Nat → Option Ob} {x : Nat} (h : (K0 ≤ x) = False) (h2 : (b ≤ x) = False) : dropO b n K0 objs x = objs x := by simp [dropO, h, h2]
theorem CALL.take {P : Program} {f : Nat} {args args' : List AV} {st : St} {d : Option Nat} {K : St → Prop} {R : AV → Prop} {z : List It} (h : FunSpecD P f args' noOb (famF z) (famU 0 z.length) fun r O' => (R r ∧ r.flat = true) ∧ O' = noOb) (b : Nat)
    (hobj : ∀ n, b ≤ n → n ≤ b + z.length → st.objs n = mkO (famS b z) n) (hu : ∀ i, i ≤ z.length → b + i ∈ st.used) (ha : args = rns (fun i => b + i) args' ∧ inNs (· ∈ famU 0 z.length) args') (K0 : Nat) (hK : ∀ n ∈ st.used, n < K0)
    (k : ∀ r, R r → K { regs := (st.put d r).regs, objs := dropO b z.length K0 st.objs, used := st.used }) : CALL P f args st d K := by
  have h' : FunSpecD P f args' (kept false (famF z)) (famF z) (famU 0 z.length) fun r O' => (R r ∧ r.flat = true) ∧ O' = noOb := by rw [kept_false]; exact h
  have key := dep_sem (objs := st.objs) (used := st.used) (args := args) h' (fun i => b + i) (fun i _ j _ h => by omega) (fun i o ho => famF_closed ho) (fun h => by cases h)
    (fun i o ho => by
      have h1 := (famF_closed ho).1
      rw [famU_mem] at h1
      have h2 := famF_rn b z i
      rw [ho, Option.map_some] at h2
      rw [hobj (b + i) (by omega) (by omega), ← h2]) (fun i hi => hu i (by rw [famU_mem] at hi; omega)) ha K0 hK (fun _ _ => []) (fun r O' hR => by
      obtain ⟨⟨_, hf⟩, rfl⟩ := hR
      exact ⟨(fun i o ho => by cases ho), (noId_rn (ρ := id) _ (flat_noId _ hf)).2⟩)
  refine .sem _ key fun u O U hX => ?_
  obtain ⟨r, O', ⟨⟨hR, hf⟩, rfl⟩, rfl, rfl, rfl⟩ := hX
  have e1 : r.rn (nmD false (b + 0) K0) = r := (noId_rn (p := fun _ => True) _ (flat_noId _ hf)).1
  have e2 : depO false (b + 0) K0 (List.map (fun i => b + i) (famU 0 z.length)) noOb st.objs = dropO b z.length K0 st.objs := by
    funext n
    have : n ∈ List.map (fun i => b + i) (famU 0 z.length) ↔ b ≤ n ∧ n ≤ b + z.length := by
      simp only [List.mem_map]
      constructor
      · rintro ⟨i, hi, rfl⟩; rw [famU_mem] at hi; omega
      · intro h; exact ⟨n - b, famU_mem.2 (by omega), by omega⟩
    simp only [depO, Bool.false_eq_true, false_and, if_false, noOb, Option.map_none, this, dropO]
  have := k r hR
  simp only [e1, e2, List.map_nil, List.nil_append]
  exact this
theorem fam_eobs {st : St} {m : List (Nat × Option Nat)} {b : Nat} {ν : Nat → Nat} {z : List It} (h : ∀ i (h : i < z.length), nms m (b + (i + 1)) = some (some (ν i)) ∧ st.objs (ν i) = some (ro3 z[i].row)) : eobs st m (famL b z) := by
  have key : ∀ (l : List It) (k : Nat), (∀ i (h : i < l.length), nms m (b + (k + i + 1)) = some (some (ν (k + i))) ∧ st.objs (ν (k + i)) = some (ro3 l[i].row)) → eobs st m ((l.zipIdx k).map fun p => (b + (p.2 + 1), ro3 p.1.row)) := by
    intro l
    induction l with
    | nil => intro _ _; trivial
    | cons t r ih =>
      intro k hk
      simp only [List.zipIdx_cons, List.map_cons]
      refine ⟨?_, ih (k + 1) fun i hi => ?_⟩
      · obtain ⟨h1, h2⟩ := hk 0 (by simp)
        have h1 : nms m (b + (k + 1)) = some (some (ν k)) := h1
        have h2 : st.objs (ν k) = some (ro3 t.row) := h2
        rw [h1]
        exact ⟨_, h2, rfl, .same (ro3 t.row) _ _ (ro3_leafy _) rfl⟩
      · have := hk (i + 1) (by simp; omega)
        have e : k + (i + 1) = k + 1 + i := by omega
        rw [e] at this
        simpa using this
  refine key z 0 fun i hi => ?_
  simpa using h i hi
theorem fam_es {st : St} {m : List (Nat × Option Nat)} {b : Nat} {ν : Nat → Nat} {z : List It} {es : List (List AV)} (hes : es = z.zipIdx.map fun p => [.rf (ν p.2) 0 p.1.row.length, iA p.1.w]) (h : ∀ i, i < z.length → nms m (b + (i + 1)) = some (some (ν i))) : Es st m es (famC b z) := by
  subst hes
  refine Es_all (by simp [famC_len]) fun i q1 q2 => ?_
  have hi : i < z.length := by simpa using q1
  rw [famC_get hi]
  simp only [List.getElem_map, List.getElem_zipIdx, Nat.zero_add, wk.wks, wk, h i hi, iA]
  simp
theorem FINfam {T : Nat → Go.Vc.TI} {l : List ResultVar} {K : AV → (Nat → Option Ob) → Prop} {st : St} (a : Nat) (ν : Nat → Nat) (z : List It) (rl : List (Nat × AV)) {es : List (List AV)} (h1 : (a :: (List.range z.length).map ν).Nodup) (ha : st.objs a = some ⟨2, es⟩)
    (hes : es = z.zipIdx.map fun p => [.rf (ν p.2) 0 p.1.row.length, iA p.1.w]) (hrow : ∀ i (h : i < z.length), st.objs (ν i) = some (ro3 z[i].row)) (hr : ents st ((0, some a) :: famM 0 z.length ν) rl)
    (k : hRes T (mkS rl (famS 0 z) (0 :: famN 0 z.length)) l fun v => K v (famF z)) : FIN T noOb l K st := by
  have hn : ∀ i, i < z.length → nms ((0, some a) :: famM 0 z.length ν) (0 + (i + 1)) = some (some (ν i)) := fun i hi => by
    simp only [nms]
    rw [if_neg (by omega)]; exact famM_nms hi
  refine FINmk ((0, some a) :: famM 0 z.length ν) rl (famS 0 z) (0 :: famN 0 z.length) ?_ ⟨hr, ?_, fam_eobs fun i hi => ⟨hn i hi, hrow i hi⟩⟩ k
  · simp only [Bool.and_eq_true, decide_eq_true_eq, List.all_eq_true, olds, famM_olds]
    refine ⟨h1, fun x hx => ?_⟩
    rcases List.mem_cons.1 hx with rfl | hx
    · simp
    · obtain ⟨i, hi, rfl⟩ := List.mem_map.1 hx
      simp only [List.contains_eq_mem, decide_eq_true_eq]
      exact List.mem_cons_of_mem _ (famN_mem.2 ⟨i, List.mem_range.1 hi, rfl⟩)
  · simp only [nms, if_pos, eob]
    exact ⟨_, ha, rfl, fam_es hes hn⟩
theorem fam_nmOk {m1 : List (Nat × Option Nat)} {u1 : List Nat} {b n : Nat} {ν : Nat → Nat} (h : nmOk m1 u1 = true) (hnd : (olds m1 ++ (List.range n).map ν).Nodup) : nmOk (m1 ++ famM b n ν) (u1 ++ famN b n) = true := by
  simp only [nmOk, Bool.and_eq_true, decide_eq_true_eq, List.all_eq_true, List.contains_eq_mem] at h ⊢
  refine ⟨⟨by rw [olds_append, famM_olds]; exact hnd, fun x hx => ?_⟩, ?_⟩
  · rcases List.mem_append.1 hx with hx | hx
    · exact List.mem_append_left _ (h.1.2 x hx)
    · obtain ⟨i, hi, rfl⟩ := List.mem_map.1 hx
      exact List.mem_append_right _ (famN_mem.2 ⟨i, List.mem_range.1 hi, rfl⟩)
  · have h2 := h.2
    rw [nms_append]
    cases hm : nms m1 0 with
    | none => simp only [famM_none (Or.inl (Nat.zero_le b))]
    | some y => rw [hm] at h2; exact h2
theorem fam_nd {b n : Nat} {l : List Nat} (hl : l.Nodup) (h : ∀ x ∈ l, x ≤ b) : (l ++ (List.range n).map fun i => b + (i + 1)).Nodup := by
  rw [List.nodup_append]
  refine ⟨hl, ?_, fun x hx y hy e => ?_⟩
  · rw [List.Nodup, List.pairwise_map]
    exact List.nodup_range.imp fun {a c} hne e => hne (by omega)
  · obtain ⟨i, _, rfl⟩ := List.mem_map.1 hy
    have := h x hx
    omega
def nuX (b n x i : Nat) : Nat := if i < n then b + (i + 1) else x
theorem fam_nd2 {b n x : Nat} {l : List Nat} (hl : (x :: l).Nodup) (h : ∀ y ∈ x :: l, y ≤ b) : (l ++ (List.range (n + 1)).map (nuX b n x)).Nodup := by
  have e : (List.range (n + 1)).map (nuX b n x) = ((List.range n).map fun i => b + (i + 1)) ++ [x] := by
    rw [List.range_succ, List.map_append]
    congr 1
    · refine List.map_congr_left fun i hi => ?_
      simp [nuX, List.mem_range.1 hi]
    · simp [nuX]
  have h1 := fam_nd (n := n) (List.nodup_cons.1 hl).2 fun y hy => h y (by simp [hy])
  rw [e, ← List.append_assoc, List.nodup_append]
  refine ⟨h1, by simp, fun y hy z hz e2 => ?_⟩
  simp only [List.mem_singleton] at hz
  subst hz; subst e2
  rcases List.mem_append.1 hy with hy | hy
  · exact (List.nodup_cons.1 hl).1 hy
  · obtain ⟨i, _, e⟩ := List.mem_map.1 hy
    have := h y (by simp)
    omega
@[go_sem] theorem famN_lo {b n x : Nat} (h : (x ≤ b) = True) : (x ∈ famN b n) = False := by
  simp only [famN_mem, eq_iff_iff, iff_false]
  rintro ⟨i, _, rfl⟩
  have : b + (i + 1) ≤ b := by rw [h]; trivial
  omega
@[go_sem] theorem upd_fam {α : Type} {b i k : Nat} {f : Nat → α} {v : α} (h : (k ≤ b) = True) : upd f k v (b + (i + 1)) = f (b + (i + 1)) := by
  have : k ≤ b := by rw [h]; trivial
  exact upd_ne' _ _ (by omega)
theorem fam_nms {m1 : List (Nat × Option Nat)} {b n : Nat} {ν : Nat → Nat} {i : Nat} (h1 : ∀ x ∈ m1, x.1 ≤ b) (hi : i < n) : nms (m1 ++ famM b n ν) (b + (i + 1)) = some (some (ν i)) := by
  rw [nms_append]
  have : nms m1 (b + (i + 1)) = none := by
    cases h : nms m1 (b + (i + 1)) with
    | none => rfl
    | some y => have := h1 _ (nms_mem h); simp only at this; omega
  rw [this]; exact famM_nms hi
theorem nuX_lt {b n x i : Nat} (h : i < n) : nuX b n x i = b + (i + 1) := if_pos h
theorem nuX_n {b n x : Nat} : nuX b n x n = x := if_neg (Nat.lt_irrefl n)
theorem fam_ext {b x : Nat} {z : List It} {t : It} : famC b z ++ [[.rf x 0 t.row.length, iA t.w]] = (z ++ [t]).zipIdx.map fun p => [.rf (nuX b z.length x p.2) 0 p.1.row.length, iA p.1.w] := by
  rw [List.zipIdx_append, List.map_append, famC]
  congr 1
  · refine List.map_congr_left fun p hp => ?_
    rw [nuX_lt (zip_mem hp).1]
  · simp [nuX_n]
theorem fam_rows {st : St} {b x : Nat} {z : List It} {t : It} (h : ∀ i (h : i < z.length), st.objs (b + (i + 1)) = some (ro3 z[i].row)) (hx : st.objs x = some (ro3 t.row)) : ∀ i (h : i < (z ++ [t]).length), st.objs (nuX b z.length x i) = some (ro3 (z ++ [t])[i].row) := fun i hi => by
  by_cases e : i < z.length
  · rw [nuX_lt e, List.getElem_append_left e]; exact h i e
  · have : i = z.length := by simp at hi; omega
    subst this
    rw [nuX_n]; simpa using hx
end Yt
namespace Yt
open Go Go.Vc Go.Proofs
set_option maxRecDepth 10000
set_option maxHeartbeats 8000000
set_option linter.unusedSimpArgs false
set_option linter.unusedVariables false
theorem f76 (z : List It) (hl : z.length ≤ 1048576) (hr : ∀ t ∈ z, t.row.length < 1073741824) :
    SpecF Try.prog 76 [setA z] (fun r out => ∃ err : Int, r = .tu [.rf 0 0 out.length, iA err] ∧ MakeR z out err) := by
  refine funspecD_of_vc tabOk elems ord76 Try.func76 rfl (rl := [.tmp 2, .tmp 3]) rfl (by kernel_rfl) rfl (fun _ h => absurd rfl h) ?_
  (simp -implicitDefEqProofs only [go_sem, setA]; repeat (refine GO ?_; simp -implicitDefEqProofs only [go_sem, setA]))
  refine .pure _ (s34 z (fun t ht => by have := hr t ht; omega) (by omega)) rfl fun r hr' _ => ?_
  subst hr'
  (simp -implicitDefEqProofs only [go_sem, bA]; repeat (refine GO ?_; simp -implicitDefEqProofs only [go_sem, bA]))
  refine VIF.split (fun h => ?_) (fun hbad => ?_)
  · (simp -implicitDefEqProofs only [go_sem]; repeat (refine GO ?_; simp -implicitDefEqProofs only [go_sem]))
    refine FINmk [(0, none)] [(2, .rf 0 0 0), (3, iA 1)] [(0, so [])] [0] rfl ?_ ?_
    · (simp -implicitDefEqProofs only [go_sem, iA]; repeat (refine GO ?_; simp -implicitDefEqProofs only [go_sem, iA]))
      simp [so]
    · exact ⟨[], ⟨⟨1, rfl, .inl ⟨h, rfl, rfl⟩⟩, rfl⟩, rfl⟩
  · (simp -implicitDefEqProofs only [go_sem]; repeat (refine GO ?_; simp -implicitDefEqProofs only [go_sem]))
    refine .make 13 _ (s38 z (by omega)) rfl (by simp) rfl fun r o hro _ => ?_
    obtain ⟨rfl, rfl⟩ := hro
    (simp -implicitDefEqProofs only [go_sem]; repeat (refine GO ?_; simp -implicitDefEqProofs only [go_sem]))
    refine .obj 13 (so z) _ [.rf 0 0 z.length, .fn 121 []] (s39 121 cI cmp_cI (fun t => t.row.length < 4611686018427387904) (fun x y hx _ => s40 x y hx) z (fun t ht => by have := hr t ht; omega) (by omega)) rfl (so_leafy z) rfl rfl fun r o' hro _ _ => ?_
    obtain ⟨rfl, y, rfl, hw, hs⟩ := hro
    have hlen := hw.len
    have hry : ∀ t ∈ y, t.row.length < 1073741824 := fun t ht => hr t (hw.perm.mem_iff.1 ht)
    have hok : ∀ t ∈ y, okI t = true := fun t ht => by
      have h1 : ∀ u ∈ z, okI u = true := by simpa using hbad
      exact h1 t (hw.perm.mem_iff.1 ht)
    have hs : SR cI y 0 y.length := by rw [hlen]; exact hs
    rw [← hlen]
    (simp -implicitDefEqProofs only [go_sem]; repeat (refine GO ?_; simp -implicitDefEqProofs only [go_sem]))
    refine LOOP.mk (ι := { p : Nat × List It // GI y p.1 p.2 ∧ p.2.length ≤ p.1 }) (fun p => mkS [(4, .rf 1000 p.1.1 (y.length - p.1.1)), (5, .rf 1001 0 p.1.2.length)] ([(1000, so y), (1001, ⟨2, famC 2000 p.1.2⟩)] ++ famL 2000 p.1.2) ([1000, 1001] ++ famN 2000 p.1.2.length))
      (fun p => y.length - p.1.1) ⟨(0, []), .start y, Nat.le_refl _⟩ [(1000, some 13), (1001, none)] rfl rfl ?_ (fun p => ?_)
    · (simp -implicitDefEqProofs only [go_sem, so]; repeat (refine GO ?_; simp -implicitDefEqProofs only [go_sem, so]))
      exact ⟨id, .same (so y) _ _ (so_leafy y) rfl, rfl, trivial⟩
    · obtain ⟨⟨off, out⟩, g, hol⟩ := p
      have hle := g.le
      simp only at hle hol
      (simp -implicitDefEqProofs only [go_sem, so]; repeat (refine GO ?_; simp -implicitDefEqProofs only [go_sem, so]))
      refine VIF.split (fun h1 => ?_) (fun h1 => ?_)
      · have h0 : off < y.length := by simp at h1; omega
        (simp -implicitDefEqProofs only [go_sem]; repeat (refine GO ?_; simp -implicitDefEqProofs only [go_sem]))
        refine LOOP.join (ι := { q : Nat × Int × Int // TI y off q.1 q.2.1 q.2.2 ∧ Run y off (off + q.1) })
          (fun q => mkS [(4, .rf 1000 off (y.length - off)), (5, .rf 1001 0 out.length), (6, iA q.1.1), (7, .pt 1002 0 0)] ([(1000, so y), (1001, ⟨2, famC 2000 out⟩), (1002, to2 q.1.2.1 q.1.2.2)] ++ famL 2000 out) ([1000, 1001, 1002] ++ famN 2000 out.length)) ?_ (fun q => ?_)
        · refine LOOP.mk (ι := { q : Nat × Int × Int // TI y off q.1 q.2.1 q.2.2 })
            (fun q => mkS [(4, .rf 1000 off (y.length - off)), (5, .rf 1001 0 out.length), (6, iA q.1.1), (7, .pt 1002 0 0)] ([(1000, so y), (1001, ⟨2, famC 2000 out⟩), (1002, to2 q.1.2.1 q.1.2.2)] ++ famL 2000 out) ([1000, 1001, 1002] ++ famN 2000 out.length))
            (fun q => y.length - off - q.1.1) ⟨(0, 0, 0), .start hle⟩ ([(1000, some 1000), (1001, some 1001), (1002, some 7)] ++ famM 2000 out.length fun i => 2000 + (i + 1)) rfl (fam_nmOk rfl (fam_nd (by decide) (by decide))) ?_ (fun q => ?_)
          · (simp -implicitDefEqProofs only [go_sem, iA, to2, so]; repeat (refine GO ?_; simp -implicitDefEqProofs only [go_sem, iA, to2, so]))
            exact ⟨id, rfl, .same (so y) _ _ (so_leafy y) rfl, fam_es (ν := fun i => 2000 + (i + 1)) rfl (fun i hi => fam_nms (m1 := [(1000, some 1000), (1001, some 1001), (1002, some 7)]) (by simp) hi), .same (to2 0 0) _ _ (to2_leafy 0 0) rfl, fam_eobs (ν := fun i => 2000 + (i + 1)) fun i hi => ⟨fam_nms (m1 := [(1000, some 1000), (1001, some 1001), (1002, some 7)]) (by simp) hi, by (simp -implicitDefEqProofs only [go_sem]; repeat (refine GO ?_; simp -implicitDefEqProofs only [go_sem])); exact famL_get hi⟩⟩
          · obtain ⟨⟨i, h, l⟩, ti⟩ := q
            simp only at ti
            have til := ti.le
            (simp -implicitDefEqProofs only [go_sem, iA, to2, so]; repeat (refine GO ?_; simp -implicitDefEqProofs only [go_sem, iA, to2, so]))
            refine VIF.split (fun h2 => ?_) (fun h2 => ?_)
            · have hi : off + i < y.length := by simp at h2; omega
              (simp -implicitDefEqProofs only [go_sem]; repeat (refine GO ?_; simp -implicitDefEqProofs only [go_sem]))
              refine ⟨by omega, EL.map hi ?_⟩
              (simp -implicitDefEqProofs only [go_sem, It.c]; repeat (refine GO ?_; simp -implicitDefEqProofs only [go_sem, It.c]))
              refine ⟨by omega, EL.map (show off + 0 < y.length by omega) ?_⟩
              (simp -implicitDefEqProofs only [go_sem, It.c]; repeat (refine GO ?_; simp -implicitDefEqProofs only [go_sem, It.c]))
              refine .pure _ (s13 y[off + i].row y[off + Int.toNat 0].row (by have := hry y[off + i] (List.getElem_mem hi); omega)) rfl fun r hr _ => ?_
              subst hr
              (simp -implicitDefEqProofs only [go_sem]; repeat (refine GO ?_; simp -implicitDefEqProofs only [go_sem]))
              refine VIF.split (fun h3 => ?_) (fun h3 => ?_)
              · have h3 : cI y[off + i] y[off] = 0 := by simpa [cI] using h3
                (simp -implicitDefEqProofs only [go_sem]; repeat (refine GO ?_; simp -implicitDefEqProofs only [go_sem]))
                refine ⟨by omega, EL.map hi ?_⟩
                (simp -implicitDefEqProofs only [go_sem, It.c]; repeat (refine GO ?_; simp -implicitDefEqProofs only [go_sem, It.c]))
                have hbb : i ≤ 1048576 := by omega
                have hb1 := ti.hb
                have hb2 := ti.lb
                have hoi := hok y[off + i] (List.getElem_mem hi)
                have hwi : okW y[off + i].w = true := by
                  simp only [okI, Bool.and_eq_true] at hoi; exact hoi.2
                have hwl := okW_le hwi
                refine .obj 1002 (to2 h l) _ [.pt 0 0 0, iA y[off + i].w] (s41 h l y[off + i].w (by omega) (by omega) (by omega)) rfl (to2_leafy h l) rfl rfl fun r o' hr _ _ => ?_
                obtain ⟨rfl, rfl⟩ := hr
                have w3 := wrap_add1 (show i < 4611686018427387904 by omega)
                (simp -implicitDefEqProofs only [go_sem, w3]; repeat (refine GO ?_; simp -implicitDefEqProofs only [go_sem, w3]))
                refine BACK.mk ⟨(i + 1, h + y[off + i].w / 268435456, l + y[off + i].w % 268435456), ti.step hi (fun _ => h3) hwi⟩ ([(1000, some 1000), (1001, some 1001), (1002, some 1002)] ++ famM 2000 out.length fun i => 2000 + (i + 1)) rfl (fam_nmOk rfl (fam_nd (by decide) (by decide))) (by show y.length - off - (i + 1) < y.length - off - i; omega) ?_
                (simp -implicitDefEqProofs only [go_sem, iA, to2, so, w3]; repeat (refine GO ?_; simp -implicitDefEqProofs only [go_sem, iA, to2, so, w3]))
                exact ⟨id, .same (so y) _ _ (so_leafy y) rfl, fam_es (ν := fun i => 2000 + (i + 1)) rfl (fun i hi => fam_nms (m1 := [(1000, some 1000), (1001, some 1001), (1002, some 1002)]) (by simp) hi), .same (to2 (h + y[off + i].w / 268435456) (l + y[off + i].w % 268435456)) _ _ (to2_leafy (h + y[off + i].w / 268435456) (l + y[off + i].w % 268435456)) rfl, fam_eobs (ν := fun i => 2000 + (i + 1)) fun i hi => ⟨fam_nms (m1 := [(1000, some 1000), (1001, some 1001), (1002, some 1002)]) (by simp) hi, by (simp -implicitDefEqProofs only [go_sem]; repeat (refine GO ?_; simp -implicitDefEqProofs only [go_sem])); exact famL_get hi⟩⟩
              · have h3 : cI y[off + i] y[off] ≠ 0 := by simpa [cI] using h3
                (simp -implicitDefEqProofs only [go_sem]; repeat (refine GO ?_; simp -implicitDefEqProofs only [go_sem]))
                refine JB.mk ⟨(i, h, l), ti, ti.run h0 (fun hi => h3)⟩ ([(1000, some 1000), (1001, some 1001), (1002, some 1002)] ++ famM 2000 out.length fun i => 2000 + (i + 1)) rfl (fam_nmOk rfl (fam_nd (by decide) (by decide))) ?_
                (simp -implicitDefEqProofs only [go_sem, iA, to2, so]; repeat (refine GO ?_; simp -implicitDefEqProofs only [go_sem, iA, to2, so]))
                exact ⟨id, .same (so y) _ _ (so_leafy y) rfl, fam_es (ν := fun i => 2000 + (i + 1)) rfl (fun i hi => fam_nms (m1 := [(1000, some 1000), (1001, some 1001), (1002, some 1002)]) (by simp) hi), .same (to2 h l) _ _ (to2_leafy h l) rfl, fam_eobs (ν := fun i => 2000 + (i + 1)) fun i hi => ⟨fam_nms (m1 := [(1000, some 1000), (1001, some 1001), (1002, some 1002)]) (by simp) hi, by (simp -implicitDefEqProofs only [go_sem]; repeat (refine GO ?_; simp -implicitDefEqProofs only [go_sem])); exact famL_get hi⟩⟩
            · have hi : off + i = y.length := by simp at h2; omega
              (simp -implicitDefEqProofs only [go_sem]; repeat (refine GO ?_; simp -implicitDefEqProofs only [go_sem]))
              refine JB.mk ⟨(i, h, l), ti, ti.run h0 (fun hi => by omega)⟩ ([(1000, some 1000), (1001, some 1001), (1002, some 1002)] ++ famM 2000 out.length fun i => 2000 + (i + 1)) rfl (fam_nmOk rfl (fam_nd (by decide) (by decide))) ?_
              (simp -implicitDefEqProofs only [go_sem, iA, to2, so]; repeat (refine GO ?_; simp -implicitDefEqProofs only [go_sem, iA, to2, so]))
              exact ⟨id, .same (so y) _ _ (so_leafy y) rfl, fam_es (ν := fun i => 2000 + (i + 1)) rfl (fun i hi => fam_nms (m1 := [(1000, some 1000), (1001, some 1001), (1002, some 1002)]) (by simp) hi), .same (to2 h l) _ _ (to2_leafy h l) rfl, fam_eobs (ν := fun i => 2000 + (i + 1)) fun i hi => ⟨fam_nms (m1 := [(1000, some 1000), (1001, some 1001), (1002, some 1002)]) (by simp) hi, by (simp -implicitDefEqProofs only [go_sem]; repeat (refine GO ?_; simp -implicitDefEqProofs only [go_sem])); exact famL_get hi⟩⟩
        · obtain ⟨⟨i, h, l⟩, ti, ru⟩ := q
          simp only at ti ru
          (simp -implicitDefEqProofs only [go_sem, iA, to2, so]; repeat (refine GO ?_; simp -implicitDefEqProofs only [go_sem, iA, to2, so]))
          have hbb : i ≤ 1048576 := by have := ti.le; omega
          have hb1 := ti.hb
          have hb2 := ti.lb
          refine .pure _ (s42 h l (by omega) (by omega)) rfl fun r hr _ => ?_
          obtain ⟨v, rfl, hv⟩ := hr
          (simp -implicitDefEqProofs only [go_sem, iA, bA]; repeat (refine GO ?_; simp -implicitDefEqProofs only [go_sem, iA, bA]))
          have hoff : off + i - off = i := by omega
          have htot := g.total hs ru h0
          have hsum := ti.sum
          rw [hoff] at htot
          refine VIF.split (fun h3 => ?_) (fun h3 => ?_)
          · have h3 : okW (h * 268435456 + l) = false := by simpa using h3
            (simp -implicitDefEqProofs only [go_sem]; repeat (refine GO ?_; simp -implicitDefEqProofs only [go_sem]))
            refine FINmk [(0, none)] [(2, .rf 0 0 0), (3, iA 11)] [(0, so [])] [0] rfl ?_ ?_
            · (simp -implicitDefEqProofs only [go_sem, iA]; repeat (refine GO ?_; simp -implicitDefEqProofs only [go_sem, iA]))
              simp [so]
            · refine ⟨[], ⟨⟨11, rfl, .inr (.inl ⟨hbad, rfl, rfl, y[off].row, ?_⟩)⟩, rfl⟩, rfl⟩
              rw [← tot_perm hw.perm, htot, ← hsum]; exact h3
          · have h3 : okW (h * 268435456 + l) = true := by simpa using h3
            have hv := hv h3
            have gs := g.step hs ru h0 (by rw [hoff, ← hsum]; exact h3)
            rw [hoff, ← hsum, ← hv] at gs
            have hle2 := ru.le
            have hlt2 := ru.lt
            (simp -implicitDefEqProofs only [go_sem]; repeat (refine GO ?_; simp -implicitDefEqProofs only [go_sem]))
            refine VIF.split (fun h4 => ?_) (fun h4 => ?_)
            · have h4 : v ≠ 0 := by simpa using h4
              rw [if_neg h4] at gs
              (simp -implicitDefEqProofs only [go_sem]; repeat (refine GO ?_; simp -implicitDefEqProofs only [go_sem]))
              refine ⟨by omega, EL.map (show off + 0 < y.length by omega) ?_⟩
              (simp -implicitDefEqProofs only [go_sem, It.c]; repeat (refine GO ?_; simp -implicitDefEqProofs only [go_sem, It.c]))
              refine .make 61 _ (s43 y[off + Int.toNat 0].row (by have := hry y[off] (List.getElem_mem h0); simp; omega)) rfl (by simp [famN_lo (b := 2000) (x := 61) (eq_true (by decide))]) rfl fun r o hro _ => ?_
              obtain ⟨rfl, rfl⟩ := hro
              (simp -implicitDefEqProofs only [go_sem]; repeat (refine GO ?_; simp -implicitDefEqProofs only [go_sem]))
              refine ⟨by omega, ?_⟩
              (simp -implicitDefEqProofs only [go_sem]; repeat (refine GO ?_; simp -implicitDefEqProofs only [go_sem]))
              refine ⟨by omega, ?_⟩
              refine BACK.mk ⟨(off + i, out ++ [⟨y[off].row, v⟩]), gs, by simp; omega⟩ ([(1000, some 1000), (1001, some 65)] ++ famM 2000 (out.length + 1) (nuX 2000 out.length 61)) rfl (by rw [List.length_append]; exact fam_nmOk rfl (fam_nd2 (by decide) (by decide))) (by show y.length - (off + i) < y.length - off; omega) ?_
              (simp -implicitDefEqProofs only [go_sem, iA, so]; repeat (refine GO ?_; simp -implicitDefEqProofs only [go_sem, iA, so]))
              have h0' : y[off + Int.toNat 0] = y[off] := rfl
              refine ⟨id, ⟨by omega, by simp⟩, .same (so y) _ _ (so_leafy y) rfl, ?_, ?_⟩
              · rw [show List.take out.length (famC 2000 out) = famC 2000 out from List.take_of_length_le (by simp [famC_len])]
                exact fam_es (ν := nuX 2000 out.length 61) (fam_ext (t := ⟨y[off].row, v⟩)) fun i hi => fam_nms (m1 := [(1000, some 1000), (1001, some 65)]) (by simp) (by simpa using hi)
              · exact fam_eobs (ν := nuX 2000 out.length 61) fun i hi => ⟨fam_nms (m1 := [(1000, some 1000), (1001, some 65)]) (by simp) (by simpa using hi), fam_rows (t := ⟨y[off].row, v⟩) (fun i hi => by (simp -implicitDefEqProofs only [go_sem]; repeat (refine GO ?_; simp -implicitDefEqProofs only [go_sem])); exact famL_get hi) rfl i hi⟩
            · have h4 : v = 0 := by simpa using h4
              rw [if_pos h4] at gs
              (simp -implicitDefEqProofs only [go_sem]; repeat (refine GO ?_; simp -implicitDefEqProofs only [go_sem]))
              refine ⟨by omega, ?_⟩
              refine BACK.mk ⟨(off + i, out), gs, by show out.length ≤ off + i; omega⟩ ([(1000, some 1000), (1001, some 1001)] ++ famM 2000 out.length fun i => 2000 + (i + 1)) rfl (fam_nmOk rfl (fam_nd (by decide) (by decide))) (by show y.length - (off + i) < y.length - off; omega) ?_
              (simp -implicitDefEqProofs only [go_sem, iA, so]; repeat (refine GO ?_; simp -implicitDefEqProofs only [go_sem, iA, so]))
              exact ⟨id, by omega, .same (so y) _ _ (so_leafy y) rfl, fam_es (ν := fun i => 2000 + (i + 1)) rfl (fun i hi => fam_nms (m1 := [(1000, some 1000), (1001, some 1001)]) (by simp) hi), fam_eobs (ν := fun i => 2000 + (i + 1)) fun i hi => ⟨fam_nms (m1 := [(1000, some 1000), (1001, some 1001)]) (by simp) hi, by (simp -implicitDefEqProofs only [go_sem]; repeat (refine GO ?_; simp -implicitDefEqProofs only [go_sem])); exact famL_get hi⟩⟩
      · have h0 : off = y.length := by simp at h1; omega
        (simp -implicitDefEqProofs only [go_sem]; repeat (refine GO ?_; simp -implicitDefEqProofs only [go_sem]))
        subst h0
        have hgt := g.tot
        rw [List.take_length] at hgt
        refine FINfam 1001 (fun i => 2000 + (i + 1)) out [(2, .rf 0 0 out.length), (3, iA 0)] (es := famC 2000 out) (fam_nd (l := [1001]) (by decide) (by decide)) (by (simp -implicitDefEqProofs only [go_sem]; repeat (refine GO ?_; simp -implicitDefEqProofs only [go_sem]))) rfl (fun i hi => by (simp -implicitDefEqProofs only [go_sem]; repeat (refine GO ?_; simp -implicitDefEqProofs only [go_sem])); exact famL_get hi) ?_ ?_
        · (simp -implicitDefEqProofs only [go_sem, iA]; repeat (refine GO ?_; simp -implicitDefEqProofs only [go_sem, iA]))
        · refine ⟨out, ⟨⟨0, rfl, .inr (.inr ⟨hbad, rfl, g.made, fun r => (hgt r).trans (tot_perm hw.perm), fun t ht => ?_, by omega⟩)⟩, rfl⟩, rfl⟩
          obtain ⟨u, hu, e⟩ := g.src t ht
          have := hok u hu
          refine ⟨?_, u, hw.perm.mem_iff.1 hu, e⟩
          rw [← e]
          simp [okI] at this
          exact this.1
end Yt
namespace Yt
open Go Go.Vc Go.Proofs
set_option maxRecDepth 10000
set_option maxHeartbeats 4000000
set_option linter.unusedSimpArgs false
set_option linter.unusedVariables false
def zc : List AV := [.nl, iA 0]
def famT (b : Nat) (z : List It) (tl : Nat) : List (Nat × Ob) := (b, ⟨2, famC b z ++ List.replicate tl zc⟩) :: famL b z
def famG (z : List It) (tl : Nat) : Nat → Option Ob := mkO (famT 0 z tl)
theorem famT_0 (b : Nat) (z : List It) (tl : Nat) : mkO (famT b z tl) b = some ⟨2, famC b z ++ List.replicate tl zc⟩ := by simp [famT, mkO, upd]
theorem famT_row {b : Nat} {z : List It} {tl i : Nat} (h : i < z.length) : mkO (famT b z tl) (b + (i + 1)) = some (ro3 z[i].row) := by
  simp only [famT, mkO, upd]
  rw [if_neg (by omega)]; exact famL_get h
theorem famT_none {b : Nat} {z : List It} {tl x : Nat} (h : x < b ∨ b + z.length < x) : mkO (famT b z tl) x = none := by
  simp only [famT, mkO, upd]
  rw [if_neg (by omega)]; exact famL_none (by omega)
theorem famT_cases {b : Nat} {z : List It} {tl x : Nat} {o : Ob} (h : mkO (famT b z tl) x = some o) : (x = b ∧ o = ⟨2, famC b z ++ List.replicate tl zc⟩) ∨ ∃ i, ∃ hi : i < z.length, x = b + (i + 1) ∧ o = ro3 z[i].row := by
  by_cases e : x = b
  · subst e; rw [famT_0] at h; cases h; exact .inl ⟨rfl, rfl⟩
  · by_cases e2 : x < b ∨ b + z.length < x
    · rw [famT_none e2] at h; cases h
    · obtain ⟨i, rfl⟩ : ∃ i, x = b + (i + 1) := ⟨x - b - 1, by omega⟩
      have hi : i < z.length := by omega
      rw [famT_row hi] at h; cases h
      exact .inr ⟨i, hi, rfl, rfl⟩
theorem zc_rn (ρ : Nat → Nat) : rns ρ zc = zc := rfl
theorem famT_rn (b : Nat) (z : List It) (tl n : Nat) : (famG z tl n).map (Ob.rn fun i => b + i) = mkO (famT b z tl) (b + n) := by
  cases hn : famG z tl n with
  | none =>
    have : ¬ n ≤ z.length := fun h => by
      cases n with
      | zero => rw [famG, famT_0] at hn; cases hn
      | succ i =>
        have := famT_row (b := 0) (z := z) (tl := tl) (i := i) (by omega)
        rw [Nat.zero_add] at this
        rw [famG, this] at hn; cases hn
    rw [famT_none (by omega)]; rfl
  | some o =>
    rcases famT_cases hn with ⟨rfl, rfl⟩ | ⟨i, hi, rfl, rfl⟩
    · rw [Nat.add_zero, famT_0]
      simp only [Option.map_some, Ob.rn, List.map_append, List.map_replicate, zc_rn]
      rw [famC_rn _ b z fun i _ => rfl]
    · rw [Nat.zero_add, famT_row hi, Option.map_some, ro3_rn]
theorem famG_closed {z : List It} {tl i : Nat} {o : Ob} (h : famG z tl i = some o) : i ∈ famU 0 z.length ∧ ∀ x ∈ o.es, inNs (· ∈ famU 0 z.length) x := by
  rcases famT_cases h with ⟨rfl, rfl⟩ | ⟨i, hi, rfl, rfl⟩
  · refine ⟨famU_mem.2 (by omega), fun x hx => ?_⟩
    rcases List.mem_append.1 hx with hx | hx
    · obtain ⟨j, hj, rfl⟩ := List.mem_iff_getElem.1 hx
      have hj' : j < z.length := by simpa [famC_len] using hj
      rw [famC_get hj']
      exact ⟨famU_mem.2 (by omega), trivial, trivial⟩
    · rw [(List.mem_replicate.1 hx).2]
      exact ⟨trivial, trivial, trivial⟩
  · refine ⟨famU_mem.2 (by omega), fun x hx => ?_⟩
    obtain ⟨v, _, rfl⟩ := List.mem_map.1 hx
    exact ⟨trivial, trivial, trivial, trivial⟩
def famI (z : List It) (tl : Nat) : Nat → Option Ob := mkO ([(1000, ⟨2, famC 2000 z ++ List.replicate tl zc⟩)] ++ famL 2000 z)
def famW (n : Nat) : List Nat := [1000] ++ famN 2000 n
theorem famI_cases {z : List It} {tl x : Nat} {o : Ob} (h : famI z tl x = some o) : (x = 1000 ∧ o = ⟨2, famC 2000 z ++ List.replicate tl zc⟩) ∨ ∃ i, ∃ hi : i < z.length, x = 2000 + (i + 1) ∧ o = ro3 z[i].row := by
  simp only [famI, List.singleton_append, mkO, upd] at h
  split at h
  · rename_i e; cases h; first | exact .inl ⟨e, rfl⟩ | exact .inl ⟨e.symm, rfl⟩
  · by_cases e2 : x ≤ 2000 ∨ 2000 + z.length < x
    · rw [famL_none e2] at h; cases h
    · obtain ⟨i, rfl⟩ : ∃ i, x = 2000 + (i + 1) := ⟨x - 2000 - 1, by omega⟩
      have hi : i < z.length := by omega
      rw [famL_get hi] at h; cases h
      exact .inr ⟨i, hi, rfl, rfl⟩
theorem famW_mem {n x : Nat} : x ∈ famW n ↔ x = 1000 ∨ ∃ i, i < n ∧ x = 2000 + (i + 1) := by
  simp only [famW, List.mem_append, List.mem_singleton, famN_mem]
theorem famI_closed {z : List It} {tl i : Nat} {o : Ob} (h : famI z tl i = some o) : i ∈ famW z.length ∧ ∀ x ∈ o.es, inNs (· ∈ famW z.length) x := by
  rcases famI_cases h with ⟨rfl, rfl⟩ | ⟨i, hi, rfl, rfl⟩
  · refine ⟨famW_mem.2 (.inl rfl), fun x hx => ?_⟩
    rcases List.mem_append.1 hx with hx | hx
    · obtain ⟨j, hj, rfl⟩ := List.mem_iff_getElem.1 hx
      have hj' : j < z.length := by simpa [famC_len] using hj
      rw [famC_get hj']
      exact ⟨famW_mem.2 (.inr ⟨j, hj', rfl⟩), trivial, trivial⟩
    · rw [(List.mem_replicate.1 hx).2]
      exact ⟨trivial, trivial, trivial⟩
  · refine ⟨famW_mem.2 (.inr ⟨i, hi, rfl⟩), fun x hx => ?_⟩
    obtain ⟨v, _, rfl⟩ := List.mem_map.1 hx
    exact ⟨trivial, trivial, trivial, trivial⟩
def rhoF (a : Nat) (ν : Nat → Nat) (x : Nat) : Nat := if x = 1000 then a else ν (x - 2001)
theorem rhoF_0 {a : Nat} {ν : Nat → Nat} : rhoF a ν 1000 = a := rfl
theorem rhoF_row {a : Nat} {ν : Nat → Nat} {i : Nat} : rhoF a ν (2000 + (i + 1)) = ν i := by
  rw [rhoF, if_neg (by omega)]; congr 1; omega
def cellsN (ν : Nat → Nat) (z : List It) : List (List AV) := z.zipIdx.map fun p => [.rf (ν p.2) 0 p.1.row.length, iA p.1.w]
theorem famC_cells (b : Nat) (z : List It) : famC b z = cellsN (fun i => b + (i + 1)) z := rfl
theorem cellsN_len (ν : Nat → Nat) (z : List It) : (cellsN ν z).length = z.length := by simp [cellsN]
theorem famC_rho (a : Nat) (ν : Nat → Nat) (z : List It) : (famC 2000 z).map (rns (rhoF a ν)) = cellsN ν z := by
  refine List.ext_getElem (by simp [famC_len, cellsN_len]) fun i q1 q2 => ?_
  have hi : i < z.length := by simpa [famC_len] using q1
  rw [List.getElem_map, famC_get hi]
  simp only [rns, AV.rn, cellsN, List.getElem_map, List.getElem_zipIdx, rhoF_row, Nat.zero_add]
  rfl
def famP (b : Nat) (z : List It) (tl : Nat) (objs : Nat → Option Ob) (n : Nat) : Option Ob := if b ≤ n then mkO (famT b z tl) n else objs n
@[go_sem] theorem famP_0 {b : Nat} {z : List It} {tl : Nat} {objs : Nat → Option Ob} : famP b z tl objs b = some ⟨2, famC b z ++ List.replicate tl zc⟩ := by simp [famP, famT_0]
theorem famP_row {b : Nat} {z : List It} {tl : Nat} {objs : Nat → Option Ob} {i : Nat} (h : i < z.length) : famP b z tl objs (b + (i + 1)) = some (ro3 z[i].row) := by
  rw [famP, if_pos (by omega), famT_row h]
theorem CALL.fam2 {P : Program} {f : Nat} {args args' : List AV} {st : St} {x : Nat} {K : St → Prop} {R : AV → List It → Nat → Prop} {z : List It} {tl : Nat}
    (h : FunSpecD P f args' noOb (famI z tl) (famW z.length) fun r O' => ∃ z' tl', (R r z' tl' ∧ r.only0 = true) ∧ O' = famG z' tl') (a : Nat) (ν : Nat → Nat)
    (hnd : (a :: (List.range z.length).map ν).Nodup) {es : List (List AV)} (ha : st.objs a = some ⟨2, es⟩) (hes : es = cellsN ν z ++ List.replicate tl zc) (hrow : ∀ i (h : i < z.length), st.objs (ν i) = some (ro3 z[i].row))
    (hu : a ∈ st.used ∧ ∀ i < z.length, ν i ∈ st.used) (hargs : args = rns (rhoF a ν) args' ∧ inNs (· ∈ famW z.length) args') (b : Nat) (hb : ∀ n ∈ st.used, n < b)
    (k : ∀ r z' tl' O, R r z' tl' → K { regs := upd st.regs x (r.rn fun i => b + i), objs := famP b z' tl' O, used := famU b z'.length ++ st.used }) : CALL P f args st (some x) K := by
  subst hes
  have h' : FunSpecD P f args' (kept false (famI z tl)) (famI z tl) (famW z.length) fun r O' => ∃ z' tl', (R r z' tl' ∧ r.only0 = true) ∧ O' = famG z' tl' := by rw [kept_false]; exact h
  have inj : ∀ i ∈ famW z.length, ∀ j ∈ famW z.length, rhoF a ν i = rhoF a ν j → i = j := fun i hi j hj e => by
    rw [famW_mem] at hi hj
    rw [List.nodup_cons] at hnd
    have hν : ∀ i j, i < z.length → j < z.length → ν i = ν j → i = j := fun i j hi hj e => by
      have := hnd.2
      rw [List.Nodup, List.pairwise_map] at this
      rcases Nat.lt_trichotomy i j with h | h | h
      · have := List.pairwise_iff_getElem.1 this i j (by simpa using hi) (by simpa using hj) h
        simp only [List.getElem_range] at this; exact absurd e this
      · exact h
      · have := List.pairwise_iff_getElem.1 this j i (by simpa using hj) (by simpa using hi) h
        simp only [List.getElem_range] at this; exact absurd e.symm this
    have hn : ∀ i, i < z.length → ν i ≠ a := fun i hi e => hnd.1 (e ▸ List.mem_map_of_mem (List.mem_range.2 hi))
    rcases hi with rfl | ⟨i, hi, rfl⟩ <;> rcases hj with rfl | ⟨j, hj, rfl⟩
    · rfl
    · rw [rhoF_0, rhoF_row] at e; exact absurd e.symm (hn j hj)
    · rw [rhoF_0, rhoF_row] at e; exact absurd e (hn i hi)
    · rw [rhoF_row, rhoF_row] at e; rw [hν i j hi hj e]
  classical
  have key := dep_sem (objs := st.objs) (used := st.used) (args := args) h' (rhoF a ν) inj (fun i o ho => famI_closed ho) (fun h => by cases h)
    (fun i o ho => by
      rcases famI_cases ho with ⟨rfl, rfl⟩ | ⟨i, hi, rfl, rfl⟩
      · rw [rhoF_0, ha, Ob.rn]
        simp only [List.map_append, List.map_replicate, zc_rn, famC_rho]
      · rw [rhoF_row, ro3_rn]; exact hrow i hi)
    (fun i hi => by
      rcases famW_mem.1 hi with rfl | ⟨k, hk, rfl⟩
      · exact hu.1
      · rw [rhoF_row]; exact hu.2 k hk) hargs b hb
    (fun r O' => if h : ∃ z' tl', (R r z' tl' ∧ r.only0 = true) ∧ O' = famG z' tl' then famU 0 h.choose.length else []) (fun r O' hR => by
      rw [dif_pos hR]
      obtain ⟨tl', ⟨_, q1⟩, q2⟩ := hR.choose_spec
      refine ⟨fun i o ho => ?_, inN_mono (fun i hi => famU_mem.2 (by omega)) _ (only0_in _ q1)⟩
      have ho2 : famG hR.choose tl' i = some o := by rw [← q2]; exact ho
      exact famG_closed ho2)
  refine .sem _ key fun u O U hX => ?_
  obtain ⟨r, O', hR, rfl, rfl, rfl⟩ := hX
  rw [dif_pos hR]
  obtain ⟨tl', ⟨q0, q1⟩, q2⟩ := hR.choose_spec
  generalize hR.choose = z' at q0 q2
  have e1 : nmD false (rhoF a ν 0) b = fun i => b + i := by funext i; simp [nmD]
  have e2 : ∃ O2, depO false (rhoF a ν 0) b (List.map (rhoF a ν) (famW z.length)) O' st.objs = famP b z' tl' O2 := by
    refine ⟨depO false (rhoF a ν 0) b (List.map (rhoF a ν) (famW z.length)) O' st.objs, ?_⟩
    funext n
    simp only [famP]
    split
    · rename_i hn
      simp only [depO, Bool.false_eq_true, false_and, if_false, e1, if_pos hn]
      rw [q2, famT_rn, show b + (n - b) = n by omega]
    · rfl
  obtain ⟨O2, e2⟩ := e2
  have e3 : List.map (fun i => b + i) (famU 0 z'.length) = famU b z'.length := by simp [famU]
  have := k r z' tl' O2 q0
  simp only [St.to, St.put, e1, e2, e3]
  exact this
theorem zc_wks {st : St} {m : List (Nat × Option Nat)} : wk.wks st m zc zc := by simp [zc, iA, wk.wks, wk]
theorem Es_rep {st : St} {m : List (Nat × Option Nat)} (tl : Nat) : Es st m (List.replicate tl zc) (List.replicate tl zc) := by
  induction tl with
  | zero => exact .nil
  | succ n ih => exact .cons zc_wks ih
theorem FINfamT {T : Nat → Go.Vc.TI} {l : List ResultVar} {K : AV → (Nat → Option Ob) → Prop} {st : St} (a : Nat) (ν : Nat → Nat) (z : List It) (tl : Nat) (rl : List (Nat × AV)) {es : List (List AV)} (h1 : (a :: (List.range z.length).map ν).Nodup) (ha : st.objs a = some ⟨2, es⟩)
    (hes : es = cellsN ν z ++ List.replicate tl zc) (hrow : ∀ i (h : i < z.length), st.objs (ν i) = some (ro3 z[i].row)) (hr : ents st ((0, some a) :: famM 0 z.length ν) rl)
    (k : hRes T (mkS rl (famT 0 z tl) (0 :: famN 0 z.length)) l fun v => K v (famG z tl)) : FIN T noOb l K st := by
  have hn : ∀ i, i < z.length → nms ((0, some a) :: famM 0 z.length ν) (0 + (i + 1)) = some (some (ν i)) := fun i hi => by
    simp only [nms]
    rw [if_neg (by omega)]; exact famM_nms hi
  refine FINmk ((0, some a) :: famM 0 z.length ν) rl (famT 0 z tl) (0 :: famN 0 z.length) ?_ ⟨hr, ?_, fam_eobs fun i hi => ⟨hn i hi, hrow i hi⟩⟩ k
  · simp only [Bool.and_eq_true, decide_eq_true_eq, List.all_eq_true, olds, famM_olds]
    refine ⟨h1, fun x hx => ?_⟩
    rcases List.mem_cons.1 hx with rfl | hx
    · simp
    · obtain ⟨i, hi, rfl⟩ := List.mem_map.1 hx
      simp only [List.contains_eq_mem, decide_eq_true_eq]
      exact List.mem_cons_of_mem _ (famN_mem.2 ⟨i, List.mem_range.1 hi, rfl⟩)
  · simp only [nms, if_pos, eob]
    refine ⟨_, ha, rfl, ?_⟩
    subst hes
    exact Es.app (fam_es rfl hn) (Es_rep tl)
end Yt
namespace Yt
open Go Go.Vc Go.Proofs
set_option maxRecDepth 10000
set_option maxHeartbeats 8000000
set_option linter.unusedSimpArgs false
set_option linter.unusedVariables false
theorem famC_app {b : Nat} {z : List It} {tail : List (List AV)} {i : Nat} {K : List AV → Prop} (h : i < z.length) (k : K [.rf (b + (i + 1)) 0 z[i].row.length, iA z[i].w]) : EL (famC b z ++ tail) i K :=
  ⟨_, by rw [List.getElem?_append_left (by simpa [famC_len] using h), List.getElem?_eq_getElem (by simpa [famC_len] using h), famC_get h], k⟩
def twC (b : Nat) (z : List It) (i : Nat) : List (List AV) := famC b (z.take i) ++ (z.drop i).map It.c
theorem twC_get {b : Nat} {z : List It} {i : Nat} (h : i < z.length) : (twC b z i)[i]? = some (It.c z[i]) := by
  rw [twC, List.getElem?_append_right (by simp [famC_len]; omega)]
  simp [famC_len, Nat.min_eq_left (Nat.le_of_lt h), h]
theorem EL.tw {b : Nat} {z : List It} {i : Nat} {K : List AV → Prop} (h : i < z.length) (k : K (It.c z[i])) : EL (twC b z i) i K := ⟨_, twC_get h, k⟩
theorem twC_set {b x : Nat} {z : List It} {i : Nat} (h : i < z.length) : (twC b z i).set i [.rf x 0 z[i].row.length, iA z[i].w] = cellsN (nuX b i x) (z.take (i + 1)) ++ (z.drop (i + 1)).map It.c := by
  have hlen : (famC b (z.take i)).length = i := by rw [famC_len, List.length_take]; omega
  have htl : (z.take i).length = i := by rw [List.length_take]; omega
  rw [twC, List.set_append_right _ _ (by omega), hlen, Nat.sub_self, List.drop_eq_getElem_cons h, List.map_cons, List.set_cons_zero, List.take_succ_eq_append_getElem h]
  have := fam_ext (b := b) (x := x) (z := z.take i) (t := z[i])
  rw [htl] at this
  rw [cellsN, ← this]
  simp
theorem map_c_wks {st : St} {m : List (Nat × Option Nat)} (z : List It) : Es st m (z.map It.c) (z.map It.c) := Es_refl (so_leafy z)
theorem f83 (z : List It) (hl : z.length ≤ 1048576) (hr : ∀ t ∈ z, t.row.length < 1073741824) : SpecF Try.prog 83 [setA z] (fun r out => r = .rf 0 0 out.length ∧ out = z) := by
  refine funspecD_of_vc tabOk elems ord83 Try.func83 rfl (rl := [.tmp 2]) rfl (by kernel_rfl) rfl (fun _ h => absurd rfl h) ?_
  (simp -implicitDefEqProofs only [go_sem, setA]; repeat (refine GO ?_; simp -implicitDefEqProofs only [go_sem, setA]))
  refine .make 6 _ (s38 z (by omega)) rfl (by simp) rfl fun q o hq _ => ?_
  obtain ⟨rfl, rfl⟩ := hq
  (simp -implicitDefEqProofs only [go_sem]; repeat (refine GO ?_; simp -implicitDefEqProofs only [go_sem]))
  refine LOOP.mk (ι := { i : Nat // i ≤ z.length }) (fun p => mkS [(3, .rf 1000 0 z.length), (8, iA z.length), (9, iA p.1)] ([(1000, ⟨2, twC 2000 z p.1⟩)] ++ famL 2000 (z.take p.1)) ([1000] ++ famN 2000 p.1))
    (fun p => z.length - p.1) ⟨0, Nat.zero_le _⟩ [(1000, some 6)] rfl rfl ?_ (fun p => ?_)
  · (simp -implicitDefEqProofs only [go_sem, iA, so]; repeat (refine GO ?_; simp -implicitDefEqProofs only [go_sem, iA, so]))
    refine ⟨id, rfl, ?_⟩
    have e : twC 2000 z 0 = z.map It.c := by simp [twC, famC]
    rw [e]
    exact ⟨map_c_wks z, trivial⟩
  · obtain ⟨i, hi⟩ := p
    have htl : (z.take i).length = i := by rw [List.length_take]; omega
    (simp -implicitDefEqProofs only [go_sem, iA]; repeat (refine GO ?_; simp -implicitDefEqProofs only [go_sem, iA]))
    refine VIF.split (fun h => ?_) (fun h => ?_)
    · have h : i < z.length := by simpa using h
      have w1 := wrap_add1 (show i < 4611686018427387904 by omega)
      (simp -implicitDefEqProofs only [go_sem]; repeat (refine GO ?_; simp -implicitDefEqProofs only [go_sem]))
      refine ⟨by omega, EL.tw h ?_⟩
      (simp -implicitDefEqProofs only [go_sem, It.c]; repeat (refine GO ?_; simp -implicitDefEqProofs only [go_sem, It.c]))
      refine .make 19 _ (s43 z[i].row (by have := hr _ (List.getElem_mem h); omega)) rfl (by simp [famN_lo (b := 2000) (x := 19) (eq_true (by decide))]) rfl fun q o hq _ => ?_
      obtain ⟨rfl, rfl⟩ := hq
      (simp -implicitDefEqProofs only [go_sem, w1]; repeat (refine GO ?_; simp -implicitDefEqProofs only [go_sem, w1]))
      refine ⟨by omega, EL.tw h ?_⟩
      (simp -implicitDefEqProofs only [go_sem, It.c, w1]; repeat (refine GO ?_; simp -implicitDefEqProofs only [go_sem, It.c, w1]))
      refine BACK.mk ⟨i + 1, by omega⟩ ([(1000, some 1000)] ++ famM 2000 (i + 1) (nuX 2000 i 19)) rfl (fam_nmOk rfl (fam_nd2 (by decide) (by decide))) (by show z.length - (i + 1) < z.length - i; omega) ?_
      (simp -implicitDefEqProofs only [go_sem, iA, w1]; repeat (refine GO ?_; simp -implicitDefEqProofs only [go_sem, iA, w1]))
      have e1 : (z.take i) ++ [z[i]] = z.take (i + 1) := (List.take_succ_eq_append_getElem h).symm
      have hset := twC_set (b := 2000) (x := 19) h
      simp only [iA] at hset
      refine ⟨id, ?_, ?_⟩
      · rw [hset, twC]
        refine Es.app ?_ (map_c_wks _)
        exact fam_es rfl fun j hj => fam_nms (m1 := [(1000, some 1000)]) (by simp) (by simp at hj; omega)
      · rw [← e1]
        refine fam_eobs (ν := nuX 2000 i 19) fun j hj => ⟨fam_nms (m1 := [(1000, some 1000)]) (by simp) (by simp at hj; omega), ?_⟩
        have hν : nuX 2000 i 19 = nuX 2000 (z.take i).length 19 := by rw [htl]
        rw [hν]
        exact fam_rows (b := 2000) (x := 19) (z := z.take i) (t := z[i]) (fun j hj => by (simp -implicitDefEqProofs only [go_sem]; repeat (refine GO ?_; simp -implicitDefEqProofs only [go_sem])); exact famL_get hj) rfl j hj
    · have h : i = z.length := by simp at h; omega
      subst h
      (simp -implicitDefEqProofs only [go_sem]; repeat (refine GO ?_; simp -implicitDefEqProofs only [go_sem]))
      rw [List.take_length]
      refine FINfam 1000 (fun i => 2000 + (i + 1)) z [(2, .rf 0 0 z.length)] (es := famC 2000 z) (fam_nd (l := [1000]) (by decide) (by decide)) (by (simp -implicitDefEqProofs only [go_sem]; repeat (refine GO ?_; simp -implicitDefEqProofs only [go_sem])); simp [twC]) rfl (fun i hi => by (simp -implicitDefEqProofs only [go_sem]; repeat (refine GO ?_; simp -implicitDefEqProofs only [go_sem])); exact famL_get hi) ?_ ?_
      · (simp -implicitDefEqProofs only [go_sem]; repeat (refine GO ?_; simp -implicitDefEqProofs only [go_sem]))
      · exact ⟨z, ⟨⟨rfl, rfl⟩, rfl⟩, rfl⟩
theorem f85 (z : List It) (tl : Nat) (hl : z.length ≤ 1048576) : FunSpecD Try.prog 85 [.rf 1000 0 z.length] noOb (famI z tl) (famW z.length) fun r O' => ∃ z' tl', ((r = .rf 0 0 z'.length ∧ z' = z ∧ tl' = 0) ∧ r.only0 = true) ∧ O' = famG z' tl' := by
  refine funspecD_of_vc tabOk elems ord85 Try.func85 rfl (rl := [.tmp 2]) rfl (by kernel_rfl) rfl (fun _ h => absurd rfl h) ?_
  (simp -implicitDefEqProofs only [go_sem, famI, famW]; repeat (refine GO ?_; simp -implicitDefEqProofs only [go_sem, famI, famW]))
  refine ⟨⟨_, rfl⟩, fun b hb => ?_⟩
  refine VIF.split (fun h => ?_) (fun h => ?_)
  · have hz : z = [] := by simpa using hb (by simpa using h)
    subst hz
    (simp -implicitDefEqProofs only [go_sem]; repeat (refine GO ?_; simp -implicitDefEqProofs only [go_sem]))
    refine FINmk [(0, none)] [(2, .rf 0 0 0)] [(0, so [])] [0] rfl ?_ ?_
    · (simp -implicitDefEqProofs only [go_sem]; repeat (refine GO ?_; simp -implicitDefEqProofs only [go_sem]))
      simp [so]
    · refine ⟨[], 0, ⟨⟨rfl, rfl, rfl⟩, rfl⟩, ?_⟩
      rfl
  · have ht : List.take z.length (famC 2000 z ++ List.replicate tl zc) = famC 2000 z := by
      rw [List.take_append_of_le_length (by simp [famC_len]), List.take_of_length_le (by simp [famC_len])]
    (simp -implicitDefEqProofs only [go_sem, ht, famC_len]; repeat (refine GO ?_; simp -implicitDefEqProofs only [go_sem, ht, famC_len]))
    refine ⟨by omega, ?_⟩
    refine FINfamT 7 (fun i => 2000 + (i + 1)) z 0 [(2, .rf 0 0 z.length)] (es := famC 2000 z) (fam_nd (l := [7]) (by decide) (by decide)) (by (simp -implicitDefEqProofs only [go_sem]; repeat (refine GO ?_; simp -implicitDefEqProofs only [go_sem]))) (by simp; rfl) (fun i hi => by (simp -implicitDefEqProofs only [go_sem]; repeat (refine GO ?_; simp -implicitDefEqProofs only [go_sem])); exact famL_get hi) ?_ ?_
    · (simp -implicitDefEqProofs only [go_sem]; repeat (refine GO ?_; simp -implicitDefEqProofs only [go_sem]))
    · exact ⟨z, 0, ⟨⟨rfl, rfl, rfl⟩, rfl⟩, rfl⟩
end Yt
namespace Yt
open Go Go.Vc Go.Proofs
set_option maxRecDepth 10000
set_option maxHeartbeats 8000000
set_option linter.unusedSimpArgs false
set_option linter.unusedVariables false
structure Dg {α : Type} (p : α → Bool) (z y : List α) (i j : Nat) : Prop where
  ij : i < j
  jn : j ≤ z.length
  len : y.length = z.length
  kept : y.take i = (z.take j).filter fun t => !p t
  rest : y.drop j = z.drop j
theorem Dg.keep {α : Type} {p : α → Bool} {z y : List α} {i j : Nat} (d : Dg p z y i j) (hj : j < z.length) (hp : p z[j] = false) : Dg p z (y.set i z[j]) (i + 1) (j + 1) := by
  obtain ⟨h1, h2, h3, h4, h5⟩ := d
  refine ⟨by omega, by omega, by simp [h3], ?_, ?_⟩
  · rw [List.take_succ_eq_append_getElem (by simp; omega), List.take_succ_eq_append_getElem hj, List.filter_append, ← h4, List.take_set_of_le (Nat.le_refl _)]
    simp [hp]
  · rw [List.drop_set_of_lt (by omega)]
    have := congrArg (List.drop 1) h5
    simpa [List.drop_drop, Nat.add_comm] using this
theorem Dg.drop {α : Type} {p : α → Bool} {z y : List α} {i j : Nat} (d : Dg p z y i j) (hj : j < z.length) (hp : p z[j] = true) : Dg p z y i (j + 1) := by
  obtain ⟨h1, h2, h3, h4, h5⟩ := d
  refine ⟨by omega, by omega, h3, ?_, ?_⟩
  · rw [List.take_succ_eq_append_getElem hj, List.filter_append, ← h4]
    simp [hp]
  · have := congrArg (List.drop 1) h5
    simpa [List.drop_drop, Nat.add_comm] using this
theorem Dg.at {α : Type} {p : α → Bool} {z y : List α} {i j : Nat} (d : Dg p z y i j) (hj : j < z.length) (hy : j < y.length) : y[j] = z[j] := by
  have h : (y.drop j)[0]? = (z.drop j)[0]? := by rw [d.rest]
  simp only [List.getElem?_drop, Nat.add_zero, List.getElem?_eq_getElem hj, List.getElem?_eq_getElem hy, Option.some.injEq] at h
  exact h
theorem Dg.done {α : Type} {p : α → Bool} {z y : List α} {i : Nat} (d : Dg p z y i z.length) : y.take i = z.filter fun t => !p t := by
  rw [d.kept, List.take_length]
theorem lent_fam {objs : Nat → Option Ob} {a : Nat} {ν : Nat → Nat} {z : List It} {tail : List (List AV)} {es : List (List AV)} (ha : objs a = some ⟨2, es⟩) (hes : es = cellsN ν z ++ tail) (hrow : ∀ i (h : i < z.length), objs (ν i) = some (ro3 z[i].row)) : Lent objs (.rf a 0 z.length) (setA z) := by
  subst hes
  refine .rf (es := cellsN ν z) (es' := z.map It.c) ha ?_ (by simp [cellsN_len]) (fun x hx => by obtain ⟨t, _, rfl⟩ := List.mem_map.1 hx; rfl) (fun i j a' h => ?_) fun i j b b' h h' => ?_
  · rw [List.drop_zero, List.take_append_of_le_length (by simp [cellsN_len]), List.take_of_length_le (by simp [cellsN_len])]
  · exact leafy_get (so_leafy z) h
  · have hi : i < z.length := by
      rw [cellAt, List.getElem?_map] at h'
      cases hz : z[i]? with
      | none => rw [hz] at h'; cases h'
      | some t => exact (List.getElem?_eq_some_iff.1 hz).1
    have hc : i < (cellsN ν z).length := by rw [cellsN_len]; exact hi
    have e1 : (cellsN ν z)[i]? = some [.rf (ν i) 0 z[i].row.length, iA z[i].w] := by
      rw [List.getElem?_eq_getElem hc]; simp [cellsN]
    have e2 : (z.map It.c)[i]? = some (It.c z[i]) := by simp [hi]
    simp only [cellAt, e1, e2, Option.bind_some, It.c] at h h'
    match j with
    | 0 =>
      simp at h h'; subst h; subst h'
      exact lent_leafy (o := ro3 z[i].row) (hrow i hi) rfl (by simp) (ro3_leafy _) fun x hx => by obtain ⟨v, _, rfl⟩ := List.mem_map.1 hx; rfl
    | 1 => simp at h h'; subst h; subst h'; exact .same rfl
    | j + 2 => simp at h
theorem lents_same {objs : Nat → Option Ob} : ∀ {l : List AV}, noIds l = true → lents objs l l
  | [], _ => trivial
  | x :: r, h => by
    simp only [noIds, Bool.and_eq_true] at h
    exact ⟨.same h.1, lents_same h.2⟩
theorem lent_it {objs : Nat → Option Ob} {a : Nat} {t : It} (h : objs a = some (ro3 t.row)) : Lent objs (.ag [.rf a 0 t.row.length, iA t.w]) (.ag t.c) := by
  refine .ag rfl fun j b b' h1 h2 => ?_
  match j with
  | 0 =>
    simp [It.c] at h1 h2; subst h1; subst h2
    exact lent_leafy (o := ro3 t.row) h rfl (by simp) (ro3_leafy _) fun x hx => by obtain ⟨v, _, rfl⟩ := List.mem_map.1 hx; rfl
  | 1 => simp [It.c] at h1 h2; subst h1; subst h2; exact .same rfl
  | j + 2 => simp at h1
def zAt (z : List It) (i : Nat) : It := z.getD i ⟨[], 0⟩
theorem zAt_get {z : List It} {i : Nat} (h : i < z.length) : zAt z i = z[i] := by simp [zAt, h]
def cf (z : List It) (i : Nat) : List AV := [.rf (2000 + (i + 1)) 0 (zAt z i).row.length, iA (zAt z i).w]
theorem famC_cf (z : List It) : famC 2000 z = (List.range z.length).map (cf z) := by
  refine List.ext_getElem (by simp [famC_len]) fun i q1 q2 => ?_
  have hi : i < z.length := by simpa [famC_len] using q1
  rw [famC_get hi]
  simp [cf, zAt_get hi]
theorem zAt_filter (z : List It) (p : It → Bool) : ((List.range z.length).filter fun i => !p (zAt z i)).map (zAt z) = z.filter fun t => !p t := by
  have h : (List.range z.length).map (zAt z) = z := List.ext_getElem (by simp) fun i q1 q2 => by simp [zAt_get q2]
  conv => rhs; rw [← h]
  rw [List.filter_map]; rfl
theorem cf_cells {z : List It} {l : List Nat} (ν : Nat → Nat) (hν : ∀ k (h : k < l.length), ν k = 2000 + (l[k] + 1)) : l.map (cf z) = cellsN ν (l.map (zAt z)) := by
  refine List.ext_getElem (by simp [cellsN_len]) fun i q1 q2 => ?_
  have hi : i < l.length := by simpa using q1
  simp only [List.getElem_map, cellsN, List.getElem_zipIdx, Nat.zero_add, cf, hν i hi]
theorem cf_es {st : St} {m : List (Nat × Option Nat)} {n : Nat} {z : List It} {y : List Nat} (hm : ∀ i, i < n → nms m (2000 + (i + 1)) = some (some (2000 + (i + 1)))) (hy : ∀ x ∈ y, x < n) : Es st m (y.map (cf z)) (y.map (cf z)) := by
  induction y with
  | nil => exact .nil
  | cons x r ih =>
    refine .cons ?_ (ih fun u hu => hy u (by simp [hu]))
    simp only [cf, wk.wks, wk, hm x (hy x (by simp)), iA]
    simp
theorem f82 (g : Nat) (caps : List AV) (hc : noIds caps = true) (p : It → Bool) (B : It → Prop) (hg : ∀ t : It, B t → Spec0 Try.prog g (.ag t.c :: caps) (· = bA (p t))) (z : List It) (hB : ∀ t ∈ z, B t) (hl : z.length ≤ 1048576) :
    FunSpecD Try.prog 82 [.rf 1000 0 z.length, .fn g caps] noOb (famI z 0) (famW z.length) fun r O' => ∃ z' tl', ((r = .rf 0 0 z'.length ∧ z' = z.filter fun t => !p t) ∧ r.only0 = true) ∧ O' = famG z' tl' := by
  refine funspecD_of_vc tabOk elems ord82 Try.func82 rfl (rl := [.tmp 4]) rfl (by kernel_rfl) rfl (fun _ h => absurd rfl h) ?_
  (simp -implicitDefEqProofs only [go_sem, famI, famW, List.replicate_zero, List.append_nil]; repeat (refine GO ?_; simp -implicitDefEqProofs only [go_sem, famI, famW, List.replicate_zero, List.append_nil]))
  refine .lendR (args' := [setA z, .fn g caps]) (s47 g caps hc p B hg z hB (by omega)) ⟨lent_fam (es := famC 2000 z) (ν := fun i => 2000 + (i + 1)) (tail := []) (by (simp -implicitDefEqProofs only [go_sem]; repeat (refine GO ?_; simp -implicitDefEqProofs only [go_sem]))) (by simp [famC_cells]) (fun i hi => by (simp -implicitDefEqProofs only [go_sem]; repeat (refine GO ?_; simp -implicitDefEqProofs only [go_sem])); exact famL_get hi), .same (by simpa [AV.noId] using hc), trivial⟩ (by rintro _ rfl; rfl) fun q hq => ?_
  subst hq
  (simp -implicitDefEqProofs only [go_sem, idxA, iA]; repeat (refine GO ?_; simp -implicitDefEqProofs only [go_sem, idxA, iA]))
  refine VIF.split (fun h => ?_) (fun h => ?_)
  · have hn : z.findIdx? p = none := by
      cases hf : z.findIdx? p with
      | none => rfl
      | some i => rw [hf] at h; simp [idxI] at h
    rw [List.findIdx?_eq_none_iff] at hn
    have hz : (z.filter fun t => !p t) = z := List.filter_eq_self.2 fun t ht => by simp [hn t ht]
    (simp -implicitDefEqProofs only [go_sem]; repeat (refine GO ?_; simp -implicitDefEqProofs only [go_sem]))
    refine FINfamT 1000 (fun i => 2000 + (i + 1)) z 0 [(4, .rf 0 0 z.length)] (es := famC 2000 z) (fam_nd (l := [1000]) (by decide) (by decide)) (by (simp -implicitDefEqProofs only [go_sem]; repeat (refine GO ?_; simp -implicitDefEqProofs only [go_sem]))) (by simp; rfl) (fun i hi => by (simp -implicitDefEqProofs only [go_sem]; repeat (refine GO ?_; simp -implicitDefEqProofs only [go_sem])); exact famL_get hi) ?_ ?_
    · (simp -implicitDefEqProofs only [go_sem]; repeat (refine GO ?_; simp -implicitDefEqProofs only [go_sem]))
    · exact ⟨z, 0, ⟨⟨rfl, hz.symm⟩, rfl⟩, rfl⟩
  · obtain ⟨i, hf⟩ : ∃ i, z.findIdx? p = some i := by
      cases hf : z.findIdx? p with
      | none => rw [hf] at h; simp [idxI] at h
      | some i => exact ⟨i, rfl⟩
    rw [hf]
    rw [List.findIdx?_eq_some_iff_getElem] at hf
    obtain ⟨hi, hp, hlt⟩ := hf
    obtain ⟨pN, hpN⟩ : ∃ pN : Nat → Bool, pN = fun i => p (zAt z i) := ⟨_, rfl⟩
    have hpz : ∀ j (h : j < z.length), pN j = p z[j] := fun j h => by rw [hpN]; simp only [zAt_get h]
    have start : Dg pN (List.range z.length) (List.range z.length) i (i + 1) := by
      refine ⟨by omega, by simp; omega, rfl, ?_, rfl⟩
      rw [List.take_succ_eq_append_getElem (by simp; omega), List.filter_append]
      have : ((List.range z.length).take i).filter (fun t => !pN t) = (List.range z.length).take i := List.filter_eq_self.2 fun t ht => by
        obtain ⟨j, hj, rfl⟩ := List.mem_iff_getElem.1 ht
        rw [List.length_take, List.length_range] at hj
        rw [List.getElem_take, List.getElem_range, hpz j (by omega)]
        have := hlt j (by omega)
        simp [this]
      rw [this]
      simp [hpz i hi, hp]
    have w0 := wrap_add1 (show i < 4611686018427387904 by omega)
    (simp -implicitDefEqProofs only [go_sem, idxI, w0]; repeat (refine GO ?_; simp -implicitDefEqProofs only [go_sem, idxI, w0]))
    refine LOOP.mk (ι := { q : Nat × Nat × List Nat // Dg pN (List.range z.length) q.2.2 q.1 q.2.1 ∧ ∀ x ∈ q.2.2, x < z.length }) (fun q => mkS [(0, .rf 1000 0 z.length), (1, .fn g caps), (5, iA q.1.1), (6, iA q.1.2.1)] ([(1000, ⟨2, q.1.2.2.map (cf z)⟩)] ++ famL 2000 z) ([1000] ++ famN 2000 z.length))
      (fun q => z.length - q.1.2.1) ⟨(i, i + 1, List.range z.length), start, fun x hx => List.mem_range.1 hx⟩ ([(1000, some 1000)] ++ famM 2000 z.length fun i => 2000 + (i + 1)) rfl (fam_nmOk rfl (fam_nd (by decide) (by decide))) ?_ (fun q => ?_)
    · (simp -implicitDefEqProofs only [go_sem, iA]; repeat (refine GO ?_; simp -implicitDefEqProofs only [go_sem, iA]))
      refine ⟨id, wks_noId caps hc, ?_, fam_eobs (ν := fun i => 2000 + (i + 1)) fun i hi => ⟨fam_nms (m1 := [(1000, some 1000)]) (by simp) hi, by (simp -implicitDefEqProofs only [go_sem]; repeat (refine GO ?_; simp -implicitDefEqProofs only [go_sem])); exact famL_get hi⟩⟩
      rw [famC_cf]
      exact cf_es (n := z.length) (fun i hi => fam_nms (m1 := [(1000, some 1000)]) (by simp) hi) fun x hx => List.mem_range.1 hx
    · obtain ⟨⟨i, j, y⟩, d, hyn⟩ := q
      simp only at d hyn
      have dl := d.len
      have dij := d.ij
      have djn := d.jn
      simp only [List.length_range] at dl djn
      (simp -implicitDefEqProofs only [go_sem, iA]; repeat (refine GO ?_; simp -implicitDefEqProofs only [go_sem, iA]))
      refine VIF.split (fun h1 => ?_) (fun h1 => ?_)
      · have h1 : j < z.length := by simpa using h1
        have hjy : j < y.length := by omega
        have hat := d.at (by simpa using h1) hjy
        rw [List.getElem_range] at hat
        have w1 := wrap_add1 (show j < 4611686018427387904 by omega)
        have w2 := wrap_add1 (show i < 4611686018427387904 by omega)
        (simp -implicitDefEqProofs only [go_sem]; repeat (refine GO ?_; simp -implicitDefEqProofs only [go_sem]))
        refine ⟨by omega, EL.map hjy ?_⟩
        rw [hat]
        (simp -implicitDefEqProofs only [go_sem, cf, zAt_get h1]; repeat (refine GO ?_; simp -implicitDefEqProofs only [go_sem, cf, zAt_get h1]))
        refine .lendR (args' := .ag z[j].c :: caps) (hg z[j] (hB _ (List.getElem_mem h1))) ?_ (by rintro _ rfl; rfl) fun q hq => ?_
        · exact ⟨lent_it (t := z[j]) (by (simp -implicitDefEqProofs only [go_sem]; repeat (refine GO ?_; simp -implicitDefEqProofs only [go_sem])); exact famL_get h1), lents_same hc⟩
        subst hq
        (simp -implicitDefEqProofs only [go_sem, bA]; repeat (refine GO ?_; simp -implicitDefEqProofs only [go_sem, bA]))
        refine VIF.split (fun h2 => ?_) (fun h2 => ?_)
        · have h2 : p z[j] = false := by simpa using h2
          have d2 := d.keep (by simpa using h1) (by rw [List.getElem_range, hpz j h1]; exact h2)
          rw [List.getElem_range] at d2
          have hiy : i < y.length := by omega
          (simp -implicitDefEqProofs only [go_sem]; repeat (refine GO ?_; simp -implicitDefEqProofs only [go_sem]))
          refine ⟨by omega, EL.map hiy ?_⟩
          (simp -implicitDefEqProofs only [go_sem, cf, w1, w2]; repeat (refine GO ?_; simp -implicitDefEqProofs only [go_sem, cf, w1, w2]))
          refine BACK.mk ⟨(i + 1, j + 1, y.set i j), d2, fun x hx => ?_⟩ ([(1000, some 1000)] ++ famM 2000 z.length fun i => 2000 + (i + 1)) rfl (fam_nmOk rfl (fam_nd (by decide) (by decide))) (by show z.length - (j + 1) < z.length - j; omega) ?_
          · rcases List.mem_or_eq_of_mem_set hx with h | rfl
            · exact hyn x h
            · exact h1
          (simp -implicitDefEqProofs only [go_sem, iA, w1, w2]; repeat (refine GO ?_; simp -implicitDefEqProofs only [go_sem, iA, w1, w2]))
          have e1 : (List.map (cf z) y).set i [.rf (2000 + (j + 1)) 0 z[j].row.length, iA z[j].w] = List.map (cf z) (y.set i j) := by rw [List.map_set, cf, zAt_get h1]
          refine ⟨id, wks_noId caps hc, ?_, fam_eobs (ν := fun i => 2000 + (i + 1)) fun i hi => ⟨fam_nms (m1 := [(1000, some 1000)]) (by simp) hi, by (simp -implicitDefEqProofs only [go_sem]; repeat (refine GO ?_; simp -implicitDefEqProofs only [go_sem])); exact famL_get hi⟩⟩
          simp only [iA] at e1
          rw [e1]
          exact cf_es (n := z.length) (fun i hi => fam_nms (m1 := [(1000, some 1000)]) (by simp) hi) fun x hx => by
            rcases List.mem_or_eq_of_mem_set hx with h | rfl
            · exact hyn x h
            · exact h1
        · have h2 : p z[j] = true := by simpa using h2
          have d2 := d.drop (by simpa using h1) (by rw [List.getElem_range, hpz j h1]; exact h2)
          (simp -implicitDefEqProofs only [go_sem, w1, w2]; repeat (refine GO ?_; simp -implicitDefEqProofs only [go_sem, w1, w2]))
          refine BACK.mk ⟨(i, j + 1, y), d2, hyn⟩ ([(1000, some 1000)] ++ famM 2000 z.length fun i => 2000 + (i + 1)) rfl (fam_nmOk rfl (fam_nd (by decide) (by decide))) (by show z.length - (j + 1) < z.length - j; omega) ?_
          (simp -implicitDefEqProofs only [go_sem, iA, w1, w2]; repeat (refine GO ?_; simp -implicitDefEqProofs only [go_sem, iA, w1, w2]))
          refine ⟨id, wks_noId caps hc, ?_, fam_eobs (ν := fun i => 2000 + (i + 1)) fun i hi => ⟨fam_nms (m1 := [(1000, some 1000)]) (by simp) hi, by (simp -implicitDefEqProofs only [go_sem]; repeat (refine GO ?_; simp -implicitDefEqProofs only [go_sem])); exact famL_get hi⟩⟩
          exact cf_es (n := z.length) (fun i hi => fam_nms (m1 := [(1000, some 1000)]) (by simp) hi) hyn
      · have h1 : j = z.length := by simp at h1; omega
        subst h1
        have hk := d.kept
        rw [List.take_of_length_le (l := List.range z.length) (by simp)] at hk
        (simp -implicitDefEqProofs only [go_sem]; repeat (refine GO ?_; simp -implicitDefEqProofs only [go_sem]))
        refine ⟨by omega, by omega, by omega, ?_⟩
        obtain ⟨ν, hν⟩ : ∃ ν : Nat → Nat, ν = fun k => 2000 + (y.getD k 0 + 1) := ⟨_, rfl⟩
        have hlen : (y.take i).length = i := by rw [List.length_take]; omega
        have hνl : ∀ k (h : k < (y.take i).length), ν k = 2000 + ((y.take i)[k] + 1) := fun k h => by
          have : k < y.length := by omega
          rw [hν]; simp [this]
        have hout : (y.take i).map (zAt z) = z.filter fun t => !p t := by
          rw [hk, hpN, ← zAt_filter]
        have hol : (z.filter fun t => !p t).length = i := by rw [← hout, List.length_map, hlen]
        have hnd : (y.take i).Nodup := by rw [hk]; exact List.nodup_range.filter _
        have hfin : List.map (cf z) (y.take i) ++ List.replicate (z.length - i) zc = List.take i (List.map (cf z) y) ++ List.replicate (z.length - i) [.nl, iA 0] ++ List.drop (i + (z.length - i)) (List.map (cf z) y) := by
          rw [List.drop_eq_nil_of_le (by simp; omega), List.append_nil, List.map_take]; rfl
        refine FINfamT 1000 ν (z.filter fun t => !p t) (z.length - i) [(4, .rf 0 0 i)] (es := (y.take i).map (cf z) ++ List.replicate (z.length - i) zc) ?_ ?_ ?_ ?_ ?_ ?_
        · rw [hol, List.nodup_cons]
          refine ⟨fun h => ?_, ?_⟩
          · obtain ⟨k, _, e⟩ := List.mem_map.1 h
            rw [hν] at e; simp only at e; omega
          · have : (List.range i).map ν = (y.take i).map fun q => 2000 + (q + 1) := List.ext_getElem (by simp; omega) fun k q1 q2 => by
              have hk2 : k < (y.take i).length := by simpa using q2
              rw [List.getElem_map, List.getElem_range, hνl k hk2, List.getElem_map]
            rw [this, List.Nodup, List.pairwise_map]
            exact hnd.imp fun hne e => hne (by omega)
        · rw [hfin]
          rfl
        · rw [cf_cells ν hνl, hout]
        · intro k hk2
          have hk3 : k < (y.take i).length := by omega
          have hk4 : (y.take i)[k] < z.length := hyn _ (List.mem_of_mem_take (List.getElem_mem hk3))
          rw [hνl k hk3]
          (simp -implicitDefEqProofs only [go_sem]; repeat (refine GO ?_; simp -implicitDefEqProofs only [go_sem]))
          rw [famL_get hk4]
          congr 2
          have e : (z.filter fun t => !p t)[k] = ((y.take i).map (zAt z))[k]'(by simpa using hk3) := by congr 1 <;> exact hout.symm
          rw [e, List.getElem_map, zAt_get hk4]
        · (simp -implicitDefEqProofs only [go_sem]; repeat (refine GO ?_; simp -implicitDefEqProofs only [go_sem]))
          exact ⟨rfl, rfl⟩
        · exact ⟨_, z.length - i, ⟨⟨by rw [hol]; rfl, rfl⟩, rfl⟩, rfl⟩
end Yt
namespace Yt
open Go Go.Vc Go.Proofs
set_option maxRecDepth 10000
set_option maxHeartbeats 8000000
set_option linter.unusedSimpArgs false
set_option linter.unusedVariables false
theorem upto1_zero (y : List It) : upto1 y 0 = y := by simp [upto1]
theorem upto1_rows {y : List It} {i : Nat} (hi : i ≤ y.length) : ∀ j (h : j < y.length) (h2 : j < (upto1 y i).length), (upto1 y i)[j].row = y[j].row := fun j h h2 => by
  simp only [upto1]
  by_cases e : j < i
  · rw [List.getElem_append_left (by simp; omega)]; simp [oneI]
  · rw [List.getElem_append_right (by simp; omega)]
    simp only [List.length_map, List.length_take, Nat.min_eq_left hi, List.getElem_drop]
    congr 2; omega
theorem famC_set1 {b : Nat} {y : List It} {i : Nat} {tail : List (List AV)} (h : i < y.length) : (famC b (upto1 y i) ++ tail).set i [.rf (b + (i + 1)) 0 y[i].row.length, iA 1] = famC b (upto1 y (i + 1)) ++ tail := by
  have hl : (upto1 y i).length = y.length := upto1_len (by omega)
  have hl2 : (upto1 y (i + 1)).length = y.length := upto1_len (by omega)
  rw [List.set_append_left _ _ (by rw [famC_len, hl]; exact h)]
  congr 1
  rw [← upto1_set h]
  refine List.ext_getElem (by simp [famC_len]) fun j q1 q2 => ?_
  have hj : j < (upto1 y i).length := by simpa [famC_len] using q1
  have hj2 : j < ((upto1 y i).set i (oneI y[i].row)).length := by simpa using hj
  rw [List.getElem_set, famC_get hj2, famC_get hj]
  by_cases e : i = j
  · subst e; simp [oneI]
  · simp [e]
theorem f32 (z : List It) (hl : z.length ≤ 1048576) (hr : ∀ t ∈ z, t.row.length < 1073741824) :
    SpecF Try.prog 32 [setA z] (fun r out => ∃ err : Int, r = .tu [.rf 0 0 out.length, iA err] ∧ ((¬ Good z ∧ out = [] ∧ err = 1) ∨ (Good z ∧ out = distL z ∧ err = 0))) := by
  refine funspecD_of_vc tabOk elems ord32 Try.func32 rfl (rl := [.tmp 2, .tmp 3]) rfl (by kernel_rfl) rfl (fun _ h => absurd rfl h) ?_
  (simp -implicitDefEqProofs only [go_sem, setA]; repeat (refine GO ?_; simp -implicitDefEqProofs only [go_sem, setA]))
  refine .pure _ (s16 z (by omega) (fun t ht => by have := hr t ht; omega)) rfl fun q hq _ => ?_
  obtain ⟨e, rfl, he, hg⟩ := hq
  (simp -implicitDefEqProofs only [go_sem, iA]; repeat (refine GO ?_; simp -implicitDefEqProofs only [go_sem, iA]))
  refine VIF.split (fun h => ?_) (fun h => ?_)
  · have h : e ≠ 0 := by simpa using h
    have h1 : e = 1 := by omega
    subst h1
    (simp -implicitDefEqProofs only [go_sem]; repeat (refine GO ?_; simp -implicitDefEqProofs only [go_sem]))
    refine FINmk [(0, none)] [(2, .rf 0 0 0), (3, iA 1)] [(0, so [])] [0] rfl ?_ ?_
    · (simp -implicitDefEqProofs only [go_sem, iA]; repeat (refine GO ?_; simp -implicitDefEqProofs only [go_sem, iA]))
      simp [so]
    · exact ⟨[], ⟨⟨1, rfl, .inl ⟨fun g => h (hg.2 g), rfl, rfl⟩⟩, rfl⟩, rfl⟩
  · have h : e = 0 := by simpa using h
    have hg := hg.1 h
    (simp -implicitDefEqProofs only [go_sem]; repeat (refine GO ?_; simp -implicitDefEqProofs only [go_sem]))
    refine CALL.fam (f83 z hl hr) rfl 10000 (by simp) fun q z2 hq => ?_
    obtain ⟨rfl, rfl⟩ := hq
    simp -implicitDefEqProofs only [go_sem]
    refine GO ?_
    simp -implicitDefEqProofs only [go_sem, AV.rn, Nat.add_zero]
    refine CALL.fam2 (z := z2) (tl := 0) (f82 84 [] rfl (fun t => decide (t.w < 0)) (fun t => True) (fun t ht => c84 t) z2 (fun t ht => trivial) hl) 10000 (fun i => 10000 + (i + 1)) (fam_nd (l := [10000]) (by decide) (by decide)) (es := famC 10000 z2) (by (simp -implicitDefEqProofs only [go_sem]; repeat (refine GO ?_; simp -implicitDefEqProofs only [go_sem]))) (by simp [famC_cells]) (fun i hi => famO_row hi) ⟨famU_mem.2 (by omega), fun i hi => famU_mem.2 (by omega)⟩ ⟨rfl, famW_mem.2 (.inl rfl), trivial, trivial⟩ 20000000 ?_ fun q y tl' O hq => ?_
    · simp [famU_mem]; omega
    obtain ⟨rfl, hy⟩ := hq
    have hyl : y.length ≤ z2.length := by rw [hy]; exact List.length_filter_le _ _
    (simp -implicitDefEqProofs only [go_sem, AV.rn, Nat.add_zero]; repeat (refine GO ?_; simp -implicitDefEqProofs only [go_sem, AV.rn, Nat.add_zero]))
    refine LOOP.mk (ι := { i : Nat // i ≤ y.length }) (fun p => mkS [(5, .rf 1000 0 y.length), (16, iA y.length), (17, iA p.1)] ([(1000, ⟨2, famC 2000 (upto1 y p.1) ++ List.replicate tl' zc⟩)] ++ famL 2000 (upto1 y p.1)) ([1000] ++ famN 2000 y.length))
      (fun p => y.length - p.1) ⟨0, Nat.zero_le _⟩ ([(1000, some 20000000)] ++ famM 2000 y.length fun i => 20000000 + (i + 1)) rfl (fam_nmOk rfl (fam_nd (by decide) (by decide))) ?_ (fun p => ?_)
    · (simp -implicitDefEqProofs only [go_sem, iA, upto1_zero]; repeat (refine GO ?_; simp -implicitDefEqProofs only [go_sem, iA, upto1_zero]))
      refine ⟨by simp [famU_mem], rfl, Es.app (fam_es rfl fun i hi => fam_nms (m1 := [(1000, some 20000000)]) (by simp) hi) (Es_rep tl'), fam_eobs (ν := fun i => 20000000 + (i + 1)) fun i hi => ⟨fam_nms (m1 := [(1000, some 20000000)]) (by simp) hi, famP_row hi⟩⟩
    · obtain ⟨i, hi⟩ := p
      (simp -implicitDefEqProofs only [go_sem, iA]; repeat (refine GO ?_; simp -implicitDefEqProofs only [go_sem, iA]))
      refine VIF.split (fun h1 => ?_) (fun h1 => ?_)
      · have h1 : i < y.length := by simpa using h1
        have w1 := wrap_add1 (show i < 4611686018427387904 by omega)
        have hi2 : i < (upto1 y i).length := by rw [upto1_len hi]; exact h1
        (simp -implicitDefEqProofs only [go_sem]; repeat (refine GO ?_; simp -implicitDefEqProofs only [go_sem]))
        refine ⟨by omega, famC_app hi2 ?_⟩
        rw [upto1_get h1]
        (simp -implicitDefEqProofs only [go_sem, w1]; repeat (refine GO ?_; simp -implicitDefEqProofs only [go_sem, w1]))
        refine BACK.mk ⟨i + 1, by omega⟩ ([(1000, some 1000)] ++ famM 2000 y.length fun i => 2000 + (i + 1)) rfl (fam_nmOk rfl (fam_nd (by decide) (by decide))) (by show y.length - (i + 1) < y.length - i; omega) ?_
        (simp -implicitDefEqProofs only [go_sem, iA, w1]; repeat (refine GO ?_; simp -implicitDefEqProofs only [go_sem, iA, w1]))
        have e1 := famC_set1 (b := 2000) (tail := List.replicate tl' zc) h1
        simp only [iA] at e1
        rw [e1]
        have hl1 : (upto1 y (i + 1)).length = y.length := upto1_len (by omega)
        have hl0 : (upto1 y i).length = y.length := upto1_len (by omega)
        refine ⟨id, Es.app (fam_es rfl fun i hi => fam_nms (m1 := [(1000, some 1000)]) (by simp) (by rw [hl1] at hi; exact hi)) (Es_rep tl'), fam_eobs (ν := fun i => 2000 + (i + 1)) fun j hj => ⟨fam_nms (m1 := [(1000, some 1000)]) (by simp) (by rw [hl1] at hj; exact hj), ?_⟩⟩
        (simp -implicitDefEqProofs only [go_sem]; repeat (refine GO ?_; simp -implicitDefEqProofs only [go_sem]))
        rw [famL_get (by omega)]
        rw [upto1_rows (by omega) j (by omega), upto1_rows (by omega) j (by omega)]
      · have h1 : i = y.length := by simp at h1; omega
        subst h1
        have hd : upto1 y y.length = distL z2 := by
          simp only [upto1, List.take_length, List.drop_length, List.append_nil, distL, hy]
        rw [hd]
        have hdl : (distL z2).length = y.length := by rw [← hd, upto1_len (Nat.le_refl _)]
        (simp -implicitDefEqProofs only [go_sem]; repeat (refine GO ?_; simp -implicitDefEqProofs only [go_sem]))
        rw [← hdl]
        refine CALL.fam2 (z := distL z2) (tl := tl') (f85 (distL z2) tl' (by omega)) 1000 (fun i => 2000 + (i + 1)) (fam_nd (l := [1000]) (by decide) (by decide)) (es := famC 2000 (distL z2) ++ List.replicate tl' zc) (by (simp -implicitDefEqProofs only [go_sem]; repeat (refine GO ?_; simp -implicitDefEqProofs only [go_sem]))) (by simp [famC_cells]) (fun i hi => by (simp -implicitDefEqProofs only [go_sem]; repeat (refine GO ?_; simp -implicitDefEqProofs only [go_sem])); exact famL_get hi) ⟨by simp, fun i hi => by simp [famN_mem, hi]⟩ ⟨rfl, famW_mem.2 (.inl rfl), trivial⟩ 30000000 ?_ fun q y2 tl2 O hq => ?_
        · simp [famN_mem]; omega
        obtain ⟨rfl, rfl, rfl⟩ := hq
        (simp -implicitDefEqProofs only [go_sem, AV.rn, Nat.add_zero, List.replicate_zero, List.append_nil]; repeat (refine GO ?_; simp -implicitDefEqProofs only [go_sem, AV.rn, Nat.add_zero, List.replicate_zero, List.append_nil]))
        refine FINfam 30000000 (fun i => 30000000 + (i + 1)) (distL z2) [(2, .rf 0 0 (distL z2).length), (3, iA 0)] (es := famC 30000000 (distL z2)) (fam_nd (l := [30000000]) (by decide) (by decide)) (by show famP 30000000 (distL z2) 0 O 30000000 = _; rw [famP_0, List.replicate_zero, List.append_nil]) rfl (fun i hi => famP_row hi) ?_ ?_
        · (simp -implicitDefEqProofs only [go_sem, iA]; repeat (refine GO ?_; simp -implicitDefEqProofs only [go_sem, iA]))
        · exact ⟨_, ⟨⟨0, rfl, .inr ⟨hg, rfl, rfl⟩⟩, rfl⟩, rfl⟩
theorem f51 (z : List It) (p : Pr) (hl : z.length ≤ 1048576) (hr : ∀ t ∈ z, t.row.length < 1073741824) :
    SpecF Try.prog 51 [setA z, .ag p.c] (fun r out => ∃ err : Int, r = .tu [.rf 0 0 out.length, iA err] ∧ ((¬ Good z ∧ out = [] ∧ err = 1) ∨ (Good z ∧ out = (z.filter fun t => holdsP p t.row) ∧ err = 0))) := by
  refine funspecD_of_vc tabOk elems ord51 Try.func51 rfl (rl := [.tmp 4, .tmp 5]) rfl (by kernel_rfl) rfl (fun _ h => absurd rfl h) ?_
  (simp -implicitDefEqProofs only [go_sem, setA, Pr.c]; repeat (refine GO ?_; simp -implicitDefEqProofs only [go_sem, setA, Pr.c]))
  refine .pure _ (s16 z (by omega) (fun t ht => by have := hr t ht; omega)) rfl fun q hq _ => ?_
  obtain ⟨e, rfl, he, hg⟩ := hq
  (simp -implicitDefEqProofs only [go_sem, iA]; repeat (refine GO ?_; simp -implicitDefEqProofs only [go_sem, iA]))
  refine VIF.split (fun h => ?_) (fun h => ?_)
  · have h : e ≠ 0 := by simpa using h
    have h1 : e = 1 := by omega
    subst h1
    (simp -implicitDefEqProofs only [go_sem]; repeat (refine GO ?_; simp -implicitDefEqProofs only [go_sem]))
    refine FINmk [(0, none)] [(4, .rf 0 0 0), (5, iA 1)] [(0, so [])] [0] rfl ?_ ?_
    · (simp -implicitDefEqProofs only [go_sem, iA]; repeat (refine GO ?_; simp -implicitDefEqProofs only [go_sem, iA]))
      simp [so]
    · exact ⟨[], ⟨⟨1, rfl, .inl ⟨fun g => h (hg.2 g), rfl, rfl⟩⟩, rfl⟩, rfl⟩
  · have h : e = 0 := by simpa using h
    have hg := hg.1 h
    (simp -implicitDefEqProofs only [go_sem]; repeat (refine GO ?_; simp -implicitDefEqProofs only [go_sem]))
    refine CALL.fam (f83 z hl hr) rfl 10000 (by simp) fun q z2 hq => ?_
    obtain ⟨rfl, rfl⟩ := hq
    simp -implicitDefEqProofs only [go_sem, AV.rn, Nat.add_zero]
    refine TO ([(14, some 10000)] ++ famM 20000 z2.length fun i => 10000 + (i + 1)) [(14, .rf 14 0 z2.length), (15, .fn 95 [.ro p.c 0])] ([(14, ⟨2, famC 20000 z2⟩)] ++ famL 20000 z2) ([14] ++ famN 20000 z2.length) (fam_nmOk rfl (fam_nd (by decide) (by decide))) ?_ ?_
    · (simp -implicitDefEqProofs only [go_sem, Pr.c]; repeat (refine GO ?_; simp -implicitDefEqProofs only [go_sem, Pr.c]))
      refine ⟨by simp [famU_mem], ⟨by simp [olds, famM_olds]; omega, _, rfl, by simp [Ob.leafy, AV.leaf], rfl⟩, fam_es rfl fun i hi => fam_nms (m1 := [(14, some 10000)]) (by simp) hi, fam_eobs (ν := fun i => 10000 + (i + 1)) fun i hi => ⟨fam_nms (m1 := [(14, some 10000)]) (by simp) hi, by (simp -implicitDefEqProofs only [go_sem]; repeat (refine GO ?_; simp -implicitDefEqProofs only [go_sem])); exact famO_row hi⟩⟩
    (simp -implicitDefEqProofs only [go_sem]; repeat (refine GO ?_; simp -implicitDefEqProofs only [go_sem]))
    refine CALL.fam2 (z := z2) (tl := 0) (f82 95 [.ro p.c 0] rfl (fun t => !holdsP p t.row) (fun t => t.row.length < 4611686018427387904) (fun t ht => c95 p t ht) z2 (fun t ht => by have := hr t ht; omega) hl) 14 (fun i => 20000 + (i + 1)) (fam_nd (l := [14]) (by decide) (by decide)) (es := famC 20000 z2) (by (simp -implicitDefEqProofs only [go_sem]; repeat (refine GO ?_; simp -implicitDefEqProofs only [go_sem]))) (by simp [famC_cells]) (fun i hi => by (simp -implicitDefEqProofs only [go_sem]; repeat (refine GO ?_; simp -implicitDefEqProofs only [go_sem])); exact famL_get hi) ⟨by simp, fun i hi => by simp [famN_mem, hi]⟩ ⟨rfl, famW_mem.2 (.inl rfl), ⟨trivial, trivial⟩, trivial⟩ 20000000 ?_ fun q y tl' O hq => ?_
    · simp [famN_mem]; omega
    obtain ⟨rfl, hy⟩ := hq
    have hy : y = z2.filter fun t => holdsP p t.row := by rw [hy]; congr 1; funext t; simp
    have hyl : y.length ≤ z2.length := by rw [hy]; exact List.length_filter_le _ _
    (simp -implicitDefEqProofs only [go_sem, AV.rn, Nat.add_zero]; repeat (refine GO ?_; simp -implicitDefEqProofs only [go_sem, AV.rn, Nat.add_zero]))
    refine CALL.fam2 (z := y) (tl := tl') (f85 y tl' (by omega)) 20000000 (fun i => 20000000 + (i + 1)) (fam_nd (l := [20000000]) (by decide) (by decide)) (es := famC 20000000 y ++ List.replicate tl' zc) (by (simp -implicitDefEqProofs only [go_sem]; repeat (refine GO ?_; simp -implicitDefEqProofs only [go_sem]))) (by simp [famC_cells]) (fun i hi => famP_row hi) ⟨by simp [famU_mem], fun i hi => by simp [famU_mem]; omega⟩ ⟨rfl, famW_mem.2 (.inl rfl), trivial⟩ 30000000 ?_ fun q y2 tl2 O hq => ?_
    · simp [famU_mem, famN_mem]; omega
    obtain ⟨rfl, rfl, rfl⟩ := hq
    (simp -implicitDefEqProofs only [go_sem, AV.rn, Nat.add_zero]; repeat (refine GO ?_; simp -implicitDefEqProofs only [go_sem, AV.rn, Nat.add_zero]))
    refine FINfam 30000000 (fun i => 30000000 + (i + 1)) y2 [(4, .rf 0 0 y2.length), (5, iA 0)] (es := famC 30000000 y2) (fam_nd (l := [30000000]) (by decide) (by decide)) (by show famP 30000000 y2 0 O 30000000 = _; rw [famP_0, List.replicate_zero, List.append_nil]) rfl (fun i hi => famP_row hi) ?_ ?_
    · (simp -implicitDefEqProofs only [go_sem, iA]; repeat (refine GO ?_; simp -implicitDefEqProofs only [go_sem, iA]))
    · exact ⟨_, ⟨⟨0, rfl, .inr ⟨hg, hy, rfl⟩⟩, rfl⟩, rfl⟩
def spV : V := ⟨9, -7, ByteArray.empty⟩
theorem s89 (r : List V) (hl : r.length ≤ 1073741824) : SpecO Try.prog 89 [.rf 0 0 r.length] (ro3 r) (fun v o' => v = .tu [] ∧ ∃ r' : List V, r'.length = r.length ∧ o' = ro3 r') := by
  refine specO_of_vc tabOk elems ord89 Try.func89 rfl (rl := []) rfl (by kernel_rfl) rfl ?_
  (simp -implicitDefEqProofs only [go_sem, ro3]; repeat (refine GO ?_; simp -implicitDefEqProofs only [go_sem, ro3]))
  refine LOOP.mk (ι := { p : Nat × List V // p.1 ≤ r.length ∧ p.2.length = r.length }) (fun p => mkS [(0, .rf 0 0 r.length), (2, iA p.1.1)] [(0, ro3 p.1.2)] [0]) (fun p => r.length - p.1.1) ⟨(0, r), Nat.zero_le _, rfl⟩ [(0, some 0)] rfl rfl ?_ (fun p => ?_)
  · (simp -implicitDefEqProofs only [go_sem, iA, ro3]; repeat (refine GO ?_; simp -implicitDefEqProofs only [go_sem, iA, ro3]))
    exact ⟨rfl, .same (ro3 r) _ _ (ro3_leafy r) rfl⟩
  · obtain ⟨⟨i, l⟩, hi, hll⟩ := p
    simp only at hi hll
    (simp -implicitDefEqProofs only [go_sem, iA, ro3]; repeat (refine GO ?_; simp -implicitDefEqProofs only [go_sem, iA, ro3]))
    refine VIF.split (fun h1 => ?_) (fun h1 => ?_)
    · have h1 : i < r.length := by simpa using h1
      have h2 : i < l.length := by omega
      have w1 := wrap_add1 (show i < 4611686018427387904 by omega)
      (simp -implicitDefEqProofs only [go_sem]; repeat (refine GO ?_; simp -implicitDefEqProofs only [go_sem]))
      refine ⟨by omega, EL.map h2 ?_⟩
      (simp -implicitDefEqProofs only [go_sem, w1]; repeat (refine GO ?_; simp -implicitDefEqProofs only [go_sem, w1]))
      refine ⟨Nat.le_refl 3, ?_⟩
      refine BACK.mk ⟨(i + 1, l.set i spV), by omega, by simp [hll]⟩ [(0, some 0)] rfl rfl (by show r.length - (i + 1) < r.length - i; omega) ?_
      (simp -implicitDefEqProofs only [go_sem, iA, ro3, w1]; repeat (refine GO ?_; simp -implicitDefEqProofs only [go_sem, iA, ro3, w1]))
      have e1 : (List.map V.c l).set i (V.c spV) = List.map V.c (l.set i spV) := by rw [List.map_set]
      have e2 : List.drop 3 l[i].c = [] := rfl
      rw [e2]
      exact .same (ro3 []) _ _ (fun x hx => ro3_leafy (l.set i spV) x (by rw [ro3]; exact e1 ▸ hx)) e1
    · (simp -implicitDefEqProofs only [go_sem]; repeat (refine GO ?_; simp -implicitDefEqProofs only [go_sem]))
      refine FIN_O rfl rfl (ro3_leafy l) ?_
      exact ⟨ro3 l, ⟨⟨rfl, l, hll, rfl⟩, rfl⟩, ro3_leafy l, rfl⟩
end Yt
namespace Yt
open Go Go.Vc Go.Proofs
set_option maxRecDepth 10000
set_option maxHeartbeats 8000000
set_option linter.unusedSimpArgs false
set_option linter.unusedVariables false
theorem CALL.takeI {P : Program} {f : Nat} {args args' : List AV} {st : St} {d : Option Nat} {K : St → Prop} {R : AV → Prop} {z : List It} (h : FunSpecD P f args' noOb (famI z 0) (famW z.length) fun r O' => (R r ∧ r.flat = true) ∧ O' = noOb) (a : Nat) (ν : Nat → Nat)
    (hnd : (a :: (List.range z.length).map ν).Nodup) {es : List (List AV)} (ha : st.objs a = some ⟨2, es⟩) (hes : es = cellsN ν z) (hrow : ∀ i (h : i < z.length), st.objs (ν i) = some (ro3 z[i].row))
    (hu : a ∈ st.used ∧ ∀ i < z.length, ν i ∈ st.used) (hargs : args = rns (rhoF a ν) args' ∧ inNs (· ∈ famW z.length) args') (b : Nat) (hb : ∀ n ∈ st.used, n < b)
    (k : ∀ r O, R r → (∀ n, n < b → n ≠ a → (∀ i < z.length, n ≠ ν i) → O n = st.objs n) → K { regs := (st.put d r).regs, objs := O, used := st.used }) : CALL P f args st d K := by
  subst hes
  have h' : FunSpecD P f args' (kept false (famI z 0)) (famI z 0) (famW z.length) fun r O' => (R r ∧ r.flat = true) ∧ O' = noOb := by rw [kept_false]; exact h
  have inj : ∀ i ∈ famW z.length, ∀ j ∈ famW z.length, rhoF a ν i = rhoF a ν j → i = j := fun i hi j hj e => by
    rw [famW_mem] at hi hj
    rw [List.nodup_cons] at hnd
    have hν : ∀ i j, i < z.length → j < z.length → ν i = ν j → i = j := fun i j hi hj e => by
      have := hnd.2
      rw [List.Nodup, List.pairwise_map] at this
      rcases Nat.lt_trichotomy i j with h | h | h
      · have := List.pairwise_iff_getElem.1 this i j (by simpa using hi) (by simpa using hj) h
        simp only [List.getElem_range] at this; exact absurd e this
      · exact h
      · have := List.pairwise_iff_getElem.1 this j i (by simpa using hj) (by simpa using hi) h
        simp only [List.getElem_range] at this; exact absurd e.symm this
    have hn : ∀ i, i < z.length → ν i ≠ a := fun i hi e => hnd.1 (e ▸ List.mem_map_of_mem (List.mem_range.2 hi))
    rcases hi with rfl | ⟨i, hi, rfl⟩ <;> rcases hj with rfl | ⟨j, hj, rfl⟩
    · rfl
    · rw [rhoF_0, rhoF_row] at e; exact absurd e.symm (hn j hj)
    · rw [rhoF_0, rhoF_row] at e; exact absurd e (hn i hi)
    · rw [rhoF_row, rhoF_row] at e; rw [hν i j hi hj e]
  have key := dep_sem (objs := st.objs) (used := st.used) (args := args) h' (rhoF a ν) inj (fun i o ho => famI_closed ho) (fun h => by cases h)
    (fun i o ho => by
      rcases famI_cases ho with ⟨rfl, rfl⟩ | ⟨i, hi, rfl, rfl⟩
      · rw [rhoF_0, ha, Ob.rn]
        simp only [List.map_append, List.map_replicate, zc_rn, famC_rho, List.replicate_zero, List.append_nil]
      · rw [rhoF_row, ro3_rn]; exact hrow i hi)
    (fun i hi => by
      rcases famW_mem.1 hi with rfl | ⟨k, hk, rfl⟩
      · exact hu.1
      · rw [rhoF_row]; exact hu.2 k hk) hargs b hb
    (fun _ _ => []) (fun r O' hR => by
      obtain ⟨⟨_, hf⟩, rfl⟩ := hR
      exact ⟨(fun i o ho => by cases ho), (noId_rn (ρ := id) _ (flat_noId _ hf)).2⟩)
  refine .sem _ key fun u O U hX => ?_
  obtain ⟨r, O', ⟨⟨hR, hf⟩, rfl⟩, rfl, rfl, rfl⟩ := hX
  have e1 : r.rn (nmD false (rhoF a ν 0) b) = r := (noId_rn (p := fun _ => True) _ (flat_noId _ hf)).1
  have := k r (depO false (rhoF a ν 0) b (List.map (rhoF a ν) (famW z.length)) noOb st.objs) hR fun n hn h1 h2 => by
    simp only [depO, Bool.false_eq_true, false_and, if_false]
    rw [if_neg (by omega), if_neg]
    intro hm
    obtain ⟨i, hi, rfl⟩ := List.mem_map.1 hm
    rcases famW_mem.1 hi with rfl | ⟨k, hk, rfl⟩
    · exact h1 rhoF_0
    · exact h2 k hk rhoF_row
  simp only [e1, List.map_nil, List.nil_append]
  exact this
theorem EL_fam {b : Nat} {z : List It} {i : Nat} {K : List AV → Prop} (h : i < z.length) (k : K [.rf (b + (i + 1)) 0 z[i].row.length, iA z[i].w]) : EL (famC b z) i K :=
  ⟨_, by rw [List.getElem?_eq_getElem (by simpa [famC_len] using h), famC_get h], k⟩
@[go_sem] theorem upd_fam' {α : Type} {b i k : Nat} {f : Nat → α} {v : α} (h : (k ≤ b) = True) : upd f (b + (i + 1)) v k = f k := by
  have : k ≤ b := by rw [h]; trivial
  exact upd_ne' _ _ (by omega)
theorem famC_put {b : Nat} {y : List It} {i : Nat} {r : List V} {w : Int} (h : i < y.length) (hr : r.length = y[i].row.length) : (famC b y).set i [.rf (b + (i + 1)) 0 y[i].row.length, iA w] = famC b (y.set i ⟨r, w⟩) := by
  refine List.ext_getElem (by simp [famC_len]) fun j q1 q2 => ?_
  have hj : j < y.length := by simpa [famC_len] using q1
  rw [List.getElem_set, famC_get (z := y) hj, famC_get (z := y.set i ⟨r, w⟩) (by simpa using hj)]
  by_cases e : i = j
  · subst e; simp [hr]
  · simp [e]
theorem f37 (z : List It) (hl : z.length ≤ 1048576) (hr : ∀ t ∈ z, t.row.length ≤ 1073741824) : FunSpecD Try.prog 37 [.rf 1000 0 z.length] noOb (famI z 0) (famW z.length) fun r O' => (r = .tu [] ∧ r.flat = true) ∧ O' = noOb := by
  refine funspecD_of_vc tabOk elems ord37 Try.func37 rfl (rl := []) rfl (by kernel_rfl) rfl (fun _ h => absurd rfl h) ?_
  (simp -implicitDefEqProofs only [go_sem, famI, famW, List.replicate_zero, List.append_nil]; repeat (refine GO ?_; simp -implicitDefEqProofs only [go_sem, famI, famW, List.replicate_zero, List.append_nil]))
  refine LOOP.mk (ι := { p : Nat × List It // p.1 ≤ z.length ∧ p.2.length = z.length ∧ ∀ j (h1 : j < p.2.length) (h2 : j < z.length), p.2[j].row.length = z[j].row.length }) (fun p => mkS [(0, .rf 1000 0 z.length), (2, iA p.1.1)] ([(1000, ⟨2, famC 2000 p.1.2⟩)] ++ famL 2000 p.1.2) ([1000] ++ famN 2000 z.length)) (fun p => z.length - p.1.1) ⟨(0, z), Nat.zero_le _, rfl, fun _ _ _ => rfl⟩ ([(1000, some 1000)] ++ famM 2000 z.length fun i => 2000 + (i + 1)) rfl (fam_nmOk rfl (fam_nd (by decide) (by decide))) ?_ (fun p => ?_)
  · (simp -implicitDefEqProofs only [go_sem, iA]; repeat (refine GO ?_; simp -implicitDefEqProofs only [go_sem, iA]))
    exact ⟨id, rfl, fam_es rfl fun i hi => fam_nms (m1 := [(1000, some 1000)]) (by simp) hi, fam_eobs (ν := fun i => 2000 + (i + 1)) fun i hi => ⟨fam_nms (m1 := [(1000, some 1000)]) (by simp) hi, by (simp -implicitDefEqProofs only [go_sem]; repeat (refine GO ?_; simp -implicitDefEqProofs only [go_sem])); exact famL_get hi⟩⟩
  · obtain ⟨⟨i, y⟩, hi, hyl, hyr⟩ := p
    simp only at hi hyl hyr
    (simp -implicitDefEqProofs only [go_sem, iA]; repeat (refine GO ?_; simp -implicitDefEqProofs only [go_sem, iA]))
    refine VIF.split (fun h1 => ?_) (fun h1 => ?_)
    · have h1 : i < z.length := by simpa using h1
      have h2 : i < y.length := by omega
      have w1 := wrap_add1 (show i < 4611686018427387904 by omega)
      have hlen := hyr i h2 h1
      have hrz := hr _ (List.getElem_mem h1)
      (simp -implicitDefEqProofs only [go_sem]; repeat (refine GO ?_; simp -implicitDefEqProofs only [go_sem]))
      refine ⟨by omega, ?_⟩
      refine EL_fam h2 ?_
      (simp -implicitDefEqProofs only [go_sem]; repeat (refine GO ?_; simp -implicitDefEqProofs only [go_sem]))
      refine .obj (2000 + (i + 1)) (ro3 y[i].row) _ [.rf 0 0 y[i].row.length] (s89 y[i].row (by omega)) (by (simp -implicitDefEqProofs only [go_sem]; repeat (refine GO ?_; simp -implicitDefEqProofs only [go_sem])); exact famL_get h2) (ro3_leafy _) rfl rfl fun r o' hr _ _ => ?_
      obtain ⟨rfl, r', hr', rfl⟩ := hr
      (simp -implicitDefEqProofs only [go_sem]; repeat (refine GO ?_; simp -implicitDefEqProofs only [go_sem]))
      refine ⟨by omega, EL_fam h2 ?_⟩
      (simp -implicitDefEqProofs only [go_sem, w1]; repeat (refine GO ?_; simp -implicitDefEqProofs only [go_sem, w1]))
      refine BACK.mk ⟨(i + 1, y.set i ⟨r', -7777⟩), by omega, by simp [hyl], fun j q1 q2 => ?_⟩ ([(1000, some 1000)] ++ famM 2000 z.length fun i => 2000 + (i + 1)) rfl (fam_nmOk rfl (fam_nd (by decide) (by decide))) (by show z.length - (i + 1) < z.length - i; omega) ?_
      · show (y.set i ⟨r', -7777⟩)[j].row.length = _
        rw [List.getElem_set]
        by_cases e : i = j
        · subst e; simp only [if_pos]; omega
        · rw [if_neg e]; exact hyr j (by omega) q2
      (simp -implicitDefEqProofs only [go_sem, iA, w1]; repeat (refine GO ?_; simp -implicitDefEqProofs only [go_sem, iA, w1]))
      have e1 := famC_put (b := 2000) (i := i) (y := y) (r := r') (w := -7777) h2 hr'
      simp only [iA] at e1
      rw [e1]
      refine ⟨id, fam_es rfl fun i hi => fam_nms (m1 := [(1000, some 1000)]) (by simp) (by simp at hi; omega), fam_eobs (ν := fun i => 2000 + (i + 1)) fun j hj => ⟨fam_nms (m1 := [(1000, some 1000)]) (by simp) (by simp at hj; omega), ?_⟩⟩
      have hj' : j < y.length := by simpa using hj
      rw [List.getElem_set]
      by_cases e : i = j
      · subst e
        simp only [if_pos]
        show upd (upd _ (2000 + (i + 1)) (some (ro3 r'))) 1000 _ (2000 + (i + 1)) = _
        rw [upd_ne' _ _ (by omega)]; simp [upd]
      · simp only [if_neg e]
        show upd (upd _ (2000 + (i + 1)) (some (ro3 r'))) 1000 _ (2000 + (j + 1)) = _
        rw [upd_ne' _ _ (by omega), upd_ne' _ _ (by omega)]
        (simp -implicitDefEqProofs only [go_sem]; repeat (refine GO ?_; simp -implicitDefEqProofs only [go_sem]))
        exact famL_get hj'
    · (simp -implicitDefEqProofs only [go_sem]; repeat (refine GO ?_; simp -implicitDefEqProofs only [go_sem]))
      refine FINmk [] [] [] [] rfl ⟨trivial, trivial⟩ ?_
      exact ⟨⟨rfl, rfl⟩, rfl⟩
end Yt
namespace Yt
open Go Go.Vc Go.Proofs
set_option maxRecDepth 10000
set_option maxHeartbeats 8000000
set_option linter.unusedSimpArgs false
set_option linter.unusedVariables false
theorem makeR_same {z o o' : List It} {e e' : Int} (h : MakeR z o e) (h' : MakeR z o' e') : o = o' ∧ e = e' := by
  rcases h with ⟨h1, rfl, rfl⟩ | ⟨h1, rfl, rfl, r, hr⟩ | ⟨h1, rfl, hm, ht, _⟩
  · obtain ⟨h2, h3⟩ := makeR_bad h' h1
    exact ⟨h2.symm, h3.symm⟩
  · obtain ⟨h2, h3⟩ := makeR_over h' h1 hr
    exact ⟨h2.symm, h3.symm⟩
  · obtain ⟨h2, h3⟩ := makeR_ok h' h1 hm ht
    exact ⟨h2.symm, h3.symm⟩
theorem Spec1.rowC {f : Nat} {args : List AV} {z : List V} (h : Spec1 Try.prog f args (fun r o => r = .rf 0 0 z.length ∧ o = ro3 z)) : Spec0 Try.prog f args (· = rowA z) :=
  (Spec1.fz h).mono fun r O' ⟨⟨⟨r0, o, ⟨e1, e2⟩, _, _, e3⟩, hn⟩, hO⟩ => by
    subst e1; subst e2; subst e3
    exact ⟨⟨fz_ro3 z, hn⟩, hO⟩
theorem c31 (z : List It) (hl : z.length ≤ 1048576) (hr : ∀ t ∈ z, t.row.length < 1073741824) :
    Spec1 Try.prog 31 [setA z] (fun r o => r = .rf 0 0 z.length ∧ o = so z) := by
  refine spec1_of_vc tabOk elems ord31 Try.func31 rfl (rl := [.tmp 2]) rfl (by kernel_rfl) rfl ?_
  (simp -implicitDefEqProofs only [go_sem, setA]; repeat (refine GO ?_; simp -implicitDefEqProofs only [go_sem, setA]))
  refine LOOP.mk (ι := { i : Nat // i ≤ z.length }) (fun p => mkS [(0, setA z), (3, .rf 1000 0 p.1), (4, iA p.1)] [(1000, so (z.take p.1))] [1000]) (fun p => z.length - p.1) ⟨0, Nat.zero_le _⟩ [(1000, none)] rfl rfl ?_ (fun p => ?_)
  · (simp -implicitDefEqProofs only [go_sem, setA, iA, so]; repeat (refine GO ?_; simp -implicitDefEqProofs only [go_sem, setA, iA, so]))
    simp
  obtain ⟨i, hi⟩ := p
  (simp -implicitDefEqProofs only [go_sem, setA, iA, so]; repeat (refine GO ?_; simp -implicitDefEqProofs only [go_sem, setA, iA, so]))
  refine VIF.split (fun h1 => ?_) (fun h1 => ?_)
  · have h1 : i < z.length := by simpa using h1
    have w1 := wrap_add1 (show i < 4611686018427387904 by omega)
    (simp -implicitDefEqProofs only [go_sem]; repeat (refine GO ?_; simp -implicitDefEqProofs only [go_sem]))
    refine EL.map h1 ?_
    (simp -implicitDefEqProofs only [go_sem, It.c]; repeat (refine GO ?_; simp -implicitDefEqProofs only [go_sem, It.c]))
    refine EL.map h1 ?_
    (simp -implicitDefEqProofs only [go_sem, It.c]; repeat (refine GO ?_; simp -implicitDefEqProofs only [go_sem, It.c]))
    refine .pure _ (show Spec0 Try.prog 45 [.im 3 (List.map V.c z[i].row)] _ from Spec1.rowC (s52 z[i].row (by have := hr _ (List.getElem_mem h1); omega))) rfl fun r hq _ => ?_
    subst hq
    (simp -implicitDefEqProofs only [go_sem, rowA, iA]; repeat (refine GO ?_; simp -implicitDefEqProofs only [go_sem, rowA, iA]))
    refine ⟨by omega, ?_⟩
    (simp -implicitDefEqProofs only [go_sem, w1]; repeat (refine GO ?_; simp -implicitDefEqProofs only [go_sem, w1]))
    refine BACK.mk ⟨i + 1, by omega⟩ [(1000, some 25)] rfl rfl (by show z.length - (i + 1) < z.length - i; omega) ?_
    (simp -implicitDefEqProofs only [go_sem, setA, iA, so, w1]; repeat (refine GO ?_; simp -implicitDefEqProofs only [go_sem, setA, iA, so, w1]))
    rw [List.take_of_length_le (l := List.map It.c (List.take i z)) (by simp; omega)]
    exact ⟨id, so_snoc (l := z.take i) (t := z[i]) (List.take_succ_eq_append_getElem h1)⟩
  · have h1 : i = z.length := by simp at h1; omega
    subst h1
    (simp -implicitDefEqProofs only [go_sem, List.take_length]; repeat (refine GO ?_; simp -implicitDefEqProofs only [go_sem, List.take_length]))
    refine FINmk [(0, some 1000)] [(2, .rf 0 0 z.length)] [(0, so z)] [0] rfl ?_ ?_
    · (simp -implicitDefEqProofs only [go_sem, so]; repeat (refine GO ?_; simp -implicitDefEqProofs only [go_sem, so]))
      exact .same (so z) _ _ (so_leafy z) rfl
    · exact ⟨so z, ⟨⟨rfl, rfl⟩, rfl⟩, so_leafy z, rfl⟩
def posL (z : List It) : List It := (z.filter fun t => decide (0 < t.w)).map fun t => oneI t.row
theorem c36 (z : List It) (hl : z.length ≤ 1048576) (hr : ∀ t ∈ z, t.row.length < 1073741824) :
    Spec1 Try.prog 36 [setA z] (fun r o => ∃ out : List It, r = .rf 0 0 out.length ∧ o = so out ∧ out = posL z) := by
  refine spec1_of_vc tabOk elems ord36 Try.func36 rfl (rl := [.tmp 2]) rfl (by kernel_rfl) rfl ?_
  (simp -implicitDefEqProofs only [go_sem, setA]; repeat (refine GO ?_; simp -implicitDefEqProofs only [go_sem, setA]))
  refine LOOP.mk (ι := { i : Nat // i ≤ z.length }) (fun p => mkS [(0, setA z), (3, .rf 1000 0 (posL (z.take p.1)).length), (4, iA p.1)] [(1000, so (posL (z.take p.1)))] [1000]) (fun p => z.length - p.1) ⟨0, Nat.zero_le _⟩ [(1000, none)] rfl rfl ?_ (fun p => ?_)
  · (simp -implicitDefEqProofs only [go_sem, setA, iA, so]; repeat (refine GO ?_; simp -implicitDefEqProofs only [go_sem, setA, iA, so]))
    simp [posL]
  obtain ⟨i, hi⟩ := p
  (simp -implicitDefEqProofs only [go_sem, setA, iA, so]; repeat (refine GO ?_; simp -implicitDefEqProofs only [go_sem, setA, iA, so]))
  refine VIF.split (fun h1 => ?_) (fun h1 => ?_)
  · have h1 : i < z.length := by simpa using h1
    have w1 := wrap_add1 (show i < 4611686018427387904 by omega)
    (simp -implicitDefEqProofs only [go_sem]; repeat (refine GO ?_; simp -implicitDefEqProofs only [go_sem]))
    refine EL.map h1 ?_
    (simp -implicitDefEqProofs only [go_sem, It.c, iA]; repeat (refine GO ?_; simp -implicitDefEqProofs only [go_sem, It.c, iA]))
    refine VIF.split (fun h2 => ?_) (fun h2 => ?_)
    · have h2 : 0 < z[i].w := by simpa using h2
      have hp : posL (z.take (i + 1)) = posL (z.take i) ++ [oneI z[i].row] := by
        rw [posL, List.take_succ_eq_append_getElem h1, List.filter_append, List.map_append]; simp [posL, h2]
      (simp -implicitDefEqProofs only [go_sem]; repeat (refine GO ?_; simp -implicitDefEqProofs only [go_sem]))
      refine EL.map h1 ?_
      (simp -implicitDefEqProofs only [go_sem, It.c, iA, rowA]; repeat (refine GO ?_; simp -implicitDefEqProofs only [go_sem, It.c, iA, rowA]))
      refine .pure _ (show Spec0 Try.prog 45 [.im 3 (List.map V.c z[i].row)] _ from Spec1.rowC (s52 z[i].row (by have := hr _ (List.getElem_mem h1); omega))) rfl fun r hq _ => ?_
      subst hq
      (simp -implicitDefEqProofs only [go_sem, rowA, w1]; repeat (refine GO ?_; simp -implicitDefEqProofs only [go_sem, rowA, w1]))
      have hpl : (posL (z.take i)).length ≤ z.length := by
        rw [posL, List.length_map]; exact Nat.le_trans (List.length_filter_le _ _) (by rw [List.length_take]; omega)
      refine ⟨by omega, ?_⟩
      (simp -implicitDefEqProofs only [go_sem, w1]; repeat (refine GO ?_; simp -implicitDefEqProofs only [go_sem, w1]))
      refine BACK.mk ⟨i + 1, by omega⟩ [(1000, some 26)] rfl rfl (by show z.length - (i + 1) < z.length - i; omega) ?_
      (simp -implicitDefEqProofs only [go_sem, setA, iA, so, w1]; repeat (refine GO ?_; simp -implicitDefEqProofs only [go_sem, setA, iA, so, w1]))
      have hl1 : (posL (z.take (i + 1))).length = (posL (z.take i)).length + 1 := by rw [hp]; simp
      refine ⟨id, by rw [hl1], so_snoc (l := posL (z.take i)) (t := oneI z[i].row) hp⟩
    · have h2 : ¬ 0 < z[i].w := by simpa using h2
      have hp : posL (z.take (i + 1)) = posL (z.take i) := by
        rw [posL, List.take_succ_eq_append_getElem h1, List.filter_append, List.map_append]; simp [posL, h2]
      (simp -implicitDefEqProofs only [go_sem, w1]; repeat (refine GO ?_; simp -implicitDefEqProofs only [go_sem, w1]))
      refine BACK.mk ⟨i + 1, by omega⟩ [(1000, some 1000)] rfl rfl (by show z.length - (i + 1) < z.length - i; omega) ?_
      (simp -implicitDefEqProofs only [go_sem, setA, iA, so, w1, hp]; repeat (refine GO ?_; simp -implicitDefEqProofs only [go_sem, setA, iA, so, w1, hp]))
      exact ⟨id, .same (so (posL (z.take i))) _ _ (so_leafy _) rfl⟩
  · have h1 : i = z.length := by simp at h1; omega
    subst h1
    (simp -implicitDefEqProofs only [go_sem, List.take_length]; repeat (refine GO ?_; simp -implicitDefEqProofs only [go_sem, List.take_length]))
    refine FINmk [(0, some 1000)] [(2, .rf 0 0 (posL z).length)] [(0, so (posL z))] [0] rfl ?_ ?_
    · (simp -implicitDefEqProofs only [go_sem, so]; repeat (refine GO ?_; simp -implicitDefEqProofs only [go_sem, so]))
      exact .same (so (posL z)) _ _ (so_leafy (posL z)) rfl
    · exact ⟨so (posL z), ⟨⟨posL z, rfl, rfl, rfl⟩, rfl⟩, so_leafy (posL z), rfl⟩
theorem c38 (a b : List It) (hl : a.length + b.length ≤ 1048576) (ha : ∀ t ∈ a, t.row.length < 1073741824) (hb : ∀ t ∈ b, t.row.length < 1073741824) :
    Spec0 Try.prog 38 [setA a, setA b] (fun r => ∃ (out : List It) (err : Int), r = .tu [setA out, iA err] ∧ MakeR (a ++ b) out err) := by
  refine spec0_of_vc tabOk elems ord38 Try.func38 rfl (rl := [.tmp 4, .tmp 5]) rfl (by kernel_rfl) rfl ?_
  (simp -implicitDefEqProofs only [go_sem, setA]; repeat (refine GO ?_; simp -implicitDefEqProofs only [go_sem, setA]))
  refine ⟨by omega, by omega, ?_⟩
  simp -implicitDefEqProofs only [go_sem]
  refine TO [] [(11, setA (a ++ b))] [] [] rfl ?_ ?_
  · (simp -implicitDefEqProofs only [go_sem, setA]; repeat (refine GO ?_; simp -implicitDefEqProofs only [go_sem, setA]))
    exact ⟨id, by simp [olds], _, rfl, by have := so_leafy (a ++ b); rwa [so, List.map_append] at this, rfl, by rw [List.map_append, List.take_of_length_le (by simp)]⟩
  (simp -implicitDefEqProofs only [go_sem, setA]; repeat (refine GO ?_; simp -implicitDefEqProofs only [go_sem, setA]))
  refine .pure _ (show Spec0 Try.prog 79 [.im 2 (List.map It.c (a ++ b))] _ from Spec1.setE (s26 (a ++ b) (by simpa using hl) (fun t ht => by rcases List.mem_append.1 ht with h | h; exact ha t h; exact hb t h))) rfl fun q hq _ => ?_
  obtain ⟨out, err, rfl, hm⟩ := hq
  (simp -implicitDefEqProofs only [go_sem, iA, setA]; repeat (refine GO ?_; simp -implicitDefEqProofs only [go_sem, iA, setA]))
  exact ⟨rfl, out, err, rfl, hm⟩
theorem c90 (z : List It) (hl : z.length ≤ 1048576) (hr : ∀ t ∈ z, t.row.length < 1073741824) (hw : ∀ t ∈ z, -72057594037927936 ≤ t.w ∧ t.w ≤ 72057594037927936) :
    Spec1 Try.prog 90 [setA z] (fun r o => ∃ out : List It, r = .rf 0 0 out.length ∧ o = so out ∧ out = z.map negI) := by
  refine spec1_of_vc tabOk elems ord90 Try.func90 rfl (rl := [.tmp 2]) rfl (by kernel_rfl) rfl ?_
  (simp -implicitDefEqProofs only [go_sem, setA]; repeat (refine GO ?_; simp -implicitDefEqProofs only [go_sem, setA]))
  refine .make 6 _ (show Spec1 Try.prog 31 [.im 2 (List.map It.c z)] _ from c31 z hl hr) rfl (by simp) rfl fun q o hq _ => ?_
  obtain ⟨rfl, rfl⟩ := hq
  (simp -implicitDefEqProofs only [go_sem]; repeat (refine GO ?_; simp -implicitDefEqProofs only [go_sem]))
  refine LOOP.mk (ι := { p : Nat × List It // p.1 ≤ z.length ∧ p.2.length = z.length ∧ ∀ j (h1 : j < p.2.length) (h2 : j < z.length), p.2[j] = if j < p.1 then negI z[j] else z[j] }) (fun p => mkS [(3, .rf 1000 0 z.length), (4, iA p.1.1)] [(1000, so p.1.2)] [1000])
    (fun p => z.length - p.1.1) ⟨(0, z), Nat.zero_le _, rfl, fun j h1 h2 => by rw [if_neg (Nat.not_lt_zero _)]⟩ [(1000, some 6)] rfl rfl ?_ (fun p => ?_)
  · (simp -implicitDefEqProofs only [go_sem, iA, so]; repeat (refine GO ?_; simp -implicitDefEqProofs only [go_sem, iA, so]))
    exact ⟨id, rfl, .same (so z) _ _ (so_leafy z) rfl⟩
  · obtain ⟨⟨i, o⟩, hi, hol, hos⟩ := p
    simp only at hi hol hos
    (simp -implicitDefEqProofs only [go_sem, iA, so]; repeat (refine GO ?_; simp -implicitDefEqProofs only [go_sem, iA, so]))
    refine VIF.split (fun h => ?_) (fun h => ?_)
    · have h : i < z.length := by simpa using h
      have ho : i < o.length := by omega
      have hoi : o[i] = z[i] := by rw [hos i ho h, if_neg (Nat.lt_irrefl _)]
      have w1 := wrap_add1 (show i < 4611686018427387904 by omega)
      have hw1 := hw _ (List.getElem_mem h)
      have w2 : IntKind.i64.wrap (0 - z[i].w) = -z[i].w := by rw [wrap_i64] <;> omega
      have w3 : IntKind.i64.wrap (0 - o[i].w) = -z[i].w := by rw [hoi]; exact w2
      (simp -implicitDefEqProofs only [go_sem]; repeat (refine GO ?_; simp -implicitDefEqProofs only [go_sem]))
      refine ⟨by omega, EL.map ho ?_⟩
      (simp -implicitDefEqProofs only [go_sem, It.c, iA, w1, w2, w3]; repeat (refine GO ?_; simp -implicitDefEqProofs only [go_sem, It.c, iA, w1, w2, w3]))
      refine ⟨by omega, EL.map ho ?_⟩
      (simp -implicitDefEqProofs only [go_sem, It.c, iA, w1]; repeat (refine GO ?_; simp -implicitDefEqProofs only [go_sem, It.c, iA, w1]))
      refine BACK.mk ⟨(i + 1, o.set i (negI z[i])), by omega, by simp [hol], fun j h1 h2 => ?_⟩ [(1000, some 1000)] rfl rfl (by show z.length - (i + 1) < z.length - i; omega) ?_
      · show (o.set i (negI z[i]))[j] = _
        rw [List.getElem_set]
        by_cases e1 : i = j
        · subst e1; rw [if_pos rfl, if_pos (by omega)]
        · rw [if_neg e1, hos j (by omega) h2]
          by_cases e2 : j < i
          · rw [if_pos e2, if_pos (by omega)]
          · rw [if_neg e2, if_neg (by omega)]
      (simp -implicitDefEqProofs only [go_sem, iA, so, w1]; repeat (refine GO ?_; simp -implicitDefEqProofs only [go_sem, iA, so, w1]))
      have e1 : (List.map It.c o).set i [rowA o[i].row, iA (-z[i].w)] = List.map It.c (o.set i (negI z[i])) := by
        rw [List.map_set, hoi]; rfl
      exact ⟨id, .same (so []) _ _ (fun x hx => so_leafy (o.set i (negI z[i])) x (by rw [so]; exact e1 ▸ hx)) e1⟩
    · have h : i = z.length := by simp at h; omega
      have ho : o = z.map negI := List.ext_getElem (by simp [hol]) fun j h1 h2 => by
        rw [hos j h1 (by omega), if_pos (by omega), List.getElem_map]
      (simp -implicitDefEqProofs only [go_sem]; repeat (refine GO ?_; simp -implicitDefEqProofs only [go_sem]))
      refine FINmk [(0, some 1000)] [(2, .rf 0 0 z.length)] [(0, so (z.map negI))] [0] rfl ?_ ?_
      · (simp -implicitDefEqProofs only [go_sem, so, iA]; repeat (refine GO ?_; simp -implicitDefEqProofs only [go_sem, so, iA]))
        rw [ho]
        exact .same (so (z.map negI)) _ _ (so_leafy (z.map negI)) rfl
      · exact ⟨so (z.map negI), ⟨⟨z.map negI, by rw [List.length_map]; rfl, rfl, rfl⟩, rfl⟩, so_leafy (z.map negI), rfl⟩
theorem c39 (a b : List It) (hl : a.length + b.length ≤ 1048576) (ha : ∀ t ∈ a, t.row.length < 1073741824) (hb : ∀ t ∈ b, t.row.length < 1073741824) (hw : ∀ t ∈ b, -72057594037927936 ≤ t.w ∧ t.w ≤ 72057594037927936) :
    Spec0 Try.prog 39 [setA a, setA b] (fun r => ∃ (out : List It) (err : Int), r = .tu [setA out, iA err] ∧ MakeR (a ++ b.map negI) out err) := by
  refine spec0_of_vc tabOk elems ord39 Try.func39 rfl (rl := [.tmp 4, .tmp 5]) rfl (by kernel_rfl) rfl ?_
  (simp -implicitDefEqProofs only [go_sem, setA]; repeat (refine GO ?_; simp -implicitDefEqProofs only [go_sem, setA]))
  refine .pure _ (show Spec0 Try.prog 90 [.im 2 (List.map It.c b)] _ from Spec1.set1 (c90 b (by omega) hb hw)) rfl fun q hq _ => ?_
  obtain ⟨_, rfl, rfl⟩ := hq
  (simp -implicitDefEqProofs only [go_sem, setA]; repeat (refine GO ?_; simp -implicitDefEqProofs only [go_sem, setA]))
  refine .pure _ (show Spec0 Try.prog 38 [setA a, setA (b.map negI)] _ from c38 a (b.map negI) (by simpa using hl) ha (fun t ht => by obtain ⟨u, hu, rfl⟩ := List.mem_map.1 ht; exact hb u hu)) rfl fun q hq _ => ?_
  obtain ⟨out, err, rfl, hm⟩ := hq
  (simp -implicitDefEqProofs only [go_sem, iA, setA]; repeat (refine GO ?_; simp -implicitDefEqProofs only [go_sem, iA, setA]))
  exact ⟨rfl, out, err, rfl, hm⟩
end Yt
namespace Yt
open Go Go.Vc Go.Proofs
set_option maxRecDepth 10000
set_option maxHeartbeats 8000000
set_option linter.unusedSimpArgs false
set_option linter.unusedVariables false
theorem posL_dist {z : List It} (h : Good z) : posL z = distL z := by
  rw [posL, distL]
  congr 1
  refine List.filter_congr fun t ht => ?_
  have := ((good_made.1 h).1.nz t ht).1
  by_cases h1 : t.w < 0
  · have : ¬ 0 < t.w := by omega
    simp [h1, this]
  · have : 0 < t.w := by omega
    simp [h1, this]
theorem good_distL {z : List It} (h : Good z) : Good (distL z) := good_made.2 ⟨made_dist (good_made.1 h).1, fun t ht => by
  obtain ⟨u, hu, rfl⟩ := List.mem_map.1 ht
  exact (good_made.1 h).2 u (List.mem_filter.1 hu).1⟩
theorem good_anyI {z : List It} (h : Good z) : (z.any fun t => !okI t) = false := by
  rw [List.any_eq_false]
  intro t ht
  have h1 := (good_made.1 h).2 t ht
  have h2 := ((good_made.1 h).1.nz t ht).2
  simp [okI, h1, h2]
theorem any_app {a b : List It} (ha : (a.any fun t => !okI t) = false) (hb : (b.any fun t => !okI t) = false) : ((a ++ b).any fun t => !okI t) = false := by
  rw [List.any_append, ha, hb]; rfl
theorem dist_minus {s z b : List It} {f : Int} (hs : Good s) (hz : Good z) (h : MakeR (distL s ++ (distL z).map negI) b f) : f = 0 ∧ b.length ≤ s.length + z.length := by
  obtain ⟨h1, _, _, _, h2⟩ := makeR_fine h (any_app (good_anyI (good_distL hs)) (good_anyI (good_neg (good_distL hz)))) fun r => by
    rw [tot_append, tot_neg, tot_dist (good_made.1 hs).1, tot_dist (good_made.1 hz).1]
    rcases sg_cases (tot r s) with ⟨_, e1⟩ | ⟨_, e1⟩ <;> rcases sg_cases (tot r z) with ⟨_, e2⟩ | ⟨_, e2⟩ <;> rw [e1, e2] <;> decide
  have h3 := distL_len s
  have h4 := distL_len z
  rw [List.length_append, List.length_map] at h2
  exact ⟨h1, by omega⟩
theorem c4 (z dz : List It) (hl : ∀ l ∈ [z, dz], l.length < 4611686018427387904) (hr : ∀ l ∈ [z, dz], ∀ t ∈ l, t.row.length < 4611686018427387904) :
    Spec0 Try.prog 4 [setA z, setA dz] (· = bA true) := by
  refine spec0_of_vc tabOk elems ord4 Try.func4 rfl (rl := [.tmp 4]) rfl (by kernel_rfl) rfl ?_
  (simp -implicitDefEqProofs only [go_sem, setA]; repeat (refine GO ?_; simp -implicitDefEqProofs only [go_sem, setA]))
  refine .lendTo (s10 [z, dz] (by simp) hl hr) ?_ (by rintro _ rfl; rfl) fun r hq => ?_
  · (simp -implicitDefEqProofs only [go_sem, setsA, setA]; repeat (refine GO ?_; simp -implicitDefEqProofs only [go_sem, setsA, setA]))
    rfl
  subst hq
  (simp -implicitDefEqProofs only [go_sem, bA]; repeat (refine GO ?_; simp -implicitDefEqProofs only [go_sem, bA]))
  refine VIF.split (fun hb => ?_) (fun hb => ?_)
  · (simp -implicitDefEqProofs only [go_sem, bA]; repeat (refine GO ?_; simp -implicitDefEqProofs only [go_sem, bA]))
  have hb : heavyS z = false ∧ heavyS dz = false := by simpa [List.any_cons] using hb
  obtain ⟨hl0, hr0⟩ := not_heavyS hb.1
  obtain ⟨hl1, hr1⟩ := not_heavyS hb.2
  have hz : ∀ t ∈ z, t.row.length < 1073741824 := fun t ht => by have := hr0 t ht; omega
  have hd : ∀ t ∈ dz, t.row.length < 1073741824 := fun t ht => by have := hr1 t ht; omega
  simp -implicitDefEqProofs only [go_sem]
  refine TO [] [(0, setA z), (1, setA dz)] [] [] rfl ?_ ?_
  · (simp -implicitDefEqProofs only [go_sem, setA]; repeat (refine GO ?_; simp -implicitDefEqProofs only [go_sem, setA]))
    exact id
  (simp -implicitDefEqProofs only [go_sem, setA]; repeat (refine GO ?_; simp -implicitDefEqProofs only [go_sem, setA]))
  refine .pure _ (show Spec0 Try.prog 31 [setA z] _ from Spec1.setC (c31 z (by omega) hz)) rfl fun r hq _ => ?_
  subst hq
  (simp -implicitDefEqProofs only [go_sem, setA]; repeat (refine GO ?_; simp -implicitDefEqProofs only [go_sem, setA]))
  refine .pure _ (show Spec0 Try.prog 31 [setA dz] _ from Spec1.setC (c31 dz (by omega) hd)) rfl fun r hq _ => ?_
  subst hq
  (simp -implicitDefEqProofs only [go_sem, setA]; repeat (refine GO ?_; simp -implicitDefEqProofs only [go_sem, setA]))
  refine CALL.fam (show SpecF Try.prog 32 [setA z] _ from f32 z (by omega) hz) rfl 10000 (by simp) fun q a hq => ?_
  obtain ⟨e, rfl, ha⟩ := hq
  have hal : a.length ≤ z.length := by
    rcases ha with ⟨_, rfl, _⟩ | ⟨_, rfl, _⟩
    · simp
    · exact distL_len z
  (simp -implicitDefEqProofs only [go_sem, AV.rn, rns, Nat.add_zero, iA, setA]; repeat (refine GO ?_; simp -implicitDefEqProofs only [go_sem, AV.rn, rns, Nat.add_zero, iA, setA]))
  refine .pure _ (show Spec0 Try.prog 33 [setA z, setA dz] _ from c33 z dz (by omega) hz hd) rfl fun q hq _ => ?_
  obtain ⟨b, f, rfl, hbb⟩ := hq
  (simp -implicitDefEqProofs only [go_sem, iA, setA]; repeat (refine GO ?_; simp -implicitDefEqProofs only [go_sem, iA, setA]))
  refine .pure _ (show Spec0 Try.prog 28 [setA z, setA z] _ from s18 z z (by omega) (by omega) (fun t ht => by have := hz t ht; omega)) rfl fun r hq _ => ?_
  obtain ⟨t1, rfl, ht1⟩ := hq
  rw [ht1.2 rfl]
  (simp -implicitDefEqProofs only [go_sem, bA, setA]; repeat (refine GO ?_; simp -implicitDefEqProofs only [go_sem, bA, setA]))
  refine .pure _ (show Spec0 Try.prog 28 [setA dz, setA dz] _ from s18 dz dz (by omega) (by omega) (fun t ht => by have := hd t ht; omega)) rfl fun r hq _ => ?_
  obtain ⟨t2, rfl, ht2⟩ := hq
  rw [ht2.2 rfl]
  (simp -implicitDefEqProofs only [go_sem, bA, setA]; repeat (refine GO ?_; simp -implicitDefEqProofs only [go_sem, bA, setA]))
  refine .pure _ (show Spec0 Try.prog 34 [setA z] _ from s30 z (by omega) (fun t ht => by have := hz t ht; omega)) rfl fun r hq _ => ?_
  obtain ⟨g1, rfl, hg1⟩ := hq
  (simp -implicitDefEqProofs only [go_sem, bA, setA]; repeat (refine GO ?_; simp -implicitDefEqProofs only [go_sem, bA, setA]))
  refine VIF.split (fun h => ?_) (fun h => ?_)
  · have hn : ¬ Good z := fun g => by rw [hg1.2 g] at h; simp at h
    obtain ⟨rfl, rfl⟩ : a = [] ∧ e = 1 := by
      rcases ha with ⟨_, h1, h2⟩ | ⟨h1, _⟩
      · exact ⟨h1, h2⟩
      · exact absurd h1 hn
    obtain ⟨rfl, rfl⟩ : b = [] ∧ f = 1 := by
      obtain ⟨now, e', h1, h2⟩ := hbb
      rcases h1 with ⟨_, _, rfl⟩ | ⟨h1, _⟩
      · rcases h2 with ⟨_, h3, h4⟩ | ⟨h3, _⟩
        · exact ⟨h3, h4⟩
        · cases h3
      · exact absurd h1 hn
    (simp -implicitDefEqProofs only [go_sem]; repeat (refine GO ?_; simp -implicitDefEqProofs only [go_sem]))
    (first | (refine VIF.tt ?_ ?_; (· first | rfl | (simp; done) | (simp; omega))) | (refine VIF.ff ?_ ?_; (· first | rfl | (simp; done) | (simp; omega))))
    (simp -implicitDefEqProofs only [go_sem]; repeat (refine GO ?_; simp -implicitDefEqProofs only [go_sem]))
    (first | (refine VIF.tt ?_ ?_; (· first | rfl | (simp; done) | (simp; omega))) | (refine VIF.ff ?_ ?_; (· first | rfl | (simp; done) | (simp; omega))))
    (simp -implicitDefEqProofs only [go_sem]; repeat (refine GO ?_; simp -implicitDefEqProofs only [go_sem]))
    (first | (refine VIF.tt ?_ ?_; (· first | rfl | (simp; done) | (simp; omega))) | (refine VIF.ff ?_ ?_; (· first | rfl | (simp; done) | (simp; omega))))
    (simp -implicitDefEqProofs only [go_sem]; repeat (refine GO ?_; simp -implicitDefEqProofs only [go_sem]))
    refine .pure _ c35 rfl fun r hq _ => ?_
    subst hq
    (simp -implicitDefEqProofs only [go_sem, bA]; repeat (refine GO ?_; simp -implicitDefEqProofs only [go_sem, bA]))
  · have hz2 : Good z := hg1.1 (by simpa using h)
    obtain ⟨rfl, rfl⟩ := dist_ok hz2 ha
    (simp -implicitDefEqProofs only [go_sem]; repeat (refine GO ?_; simp -implicitDefEqProofs only [go_sem]))
    (first | (refine VIF.tt ?_ ?_; (· first | rfl | (simp; done) | (simp; omega))) | (refine VIF.ff ?_ ?_; (· first | rfl | (simp; done) | (simp; omega))))
    (simp -implicitDefEqProofs only [go_sem]; repeat (refine GO ?_; simp -implicitDefEqProofs only [go_sem]))
    refine .pure _ (show Spec0 Try.prog 36 [setA z] _ from Spec1.set1 (c36 z (by omega) hz)) rfl fun r hq _ => ?_
    obtain ⟨_, rfl, rfl⟩ := hq
    rw [posL_dist hz2]
    (simp -implicitDefEqProofs only [go_sem, setA]; repeat (refine GO ?_; simp -implicitDefEqProofs only [go_sem, setA]))
    refine .lendR (args' := [setA (distL z), setA (distL z)]) (s18 (distL z) (distL z) (by omega) (by omega) (fun t ht => by have := distL_rows (P := fun r => r.length < 1073741824) hz t ht; omega)) ⟨lent_fam (es := famC 10000 (distL z)) (ν := fun i => 10000 + (i + 1)) (tail := []) (by (simp -implicitDefEqProofs only [go_sem]; repeat (refine GO ?_; simp -implicitDefEqProofs only [go_sem]))) (by simp [famC_cells]) (fun i hi => by (simp -implicitDefEqProofs only [go_sem]; repeat (refine GO ?_; simp -implicitDefEqProofs only [go_sem])); exact famO_row hi), .same rfl, trivial⟩ (by rintro _ ⟨t, rfl, _⟩; rfl) fun r hq => ?_
    obtain ⟨t3, rfl, ht3⟩ := hq
    rw [ht3.2 rfl]
    (simp -implicitDefEqProofs only [go_sem, bA, setA]; repeat (refine GO ?_; simp -implicitDefEqProofs only [go_sem, bA, setA]))
    refine CALL.takeI (f37 (distL z) (by omega) (fun t ht => Nat.le_of_lt (distL_rows (P := fun r => r.length < 1073741824) hz t ht))) 10000 (fun i => 10000 + (i + 1)) (fam_nd (l := [10000]) (by decide) (by decide)) (es := famC 10000 (distL z)) (by (simp -implicitDefEqProofs only [go_sem]; repeat (refine GO ?_; simp -implicitDefEqProofs only [go_sem]))) rfl (fun i hi => famO_row hi) ⟨famU_mem.2 (by omega), fun i hi => famU_mem.2 (by omega)⟩ ⟨rfl, famW_mem.2 (.inl rfl), trivial⟩ 20000000 ?_ fun r O hq _ => ?_
    · simp [famU_mem]; omega
    subst hq
    simp -implicitDefEqProofs only [go_sem]
    refine TO [] [(0, setA z), (1, setA dz), (5, setA z), (6, setA dz), (9, setA b), (10, iA f), (75, setA dz)] [] [] rfl ?_ ?_
    · (simp -implicitDefEqProofs only [go_sem, setA, iA]; repeat (refine GO ?_; simp -implicitDefEqProofs only [go_sem, setA, iA]))
      exact id
    (simp -implicitDefEqProofs only [go_sem, setA, iA]; repeat (refine GO ?_; simp -implicitDefEqProofs only [go_sem, setA, iA]))
    refine .pure _ (show Spec0 Try.prog 34 [setA dz] _ from s30 dz (by omega) (fun t ht => by have := hd t ht; omega)) rfl fun r hq _ => ?_
    obtain ⟨g2, rfl, hg2⟩ := hq
    (simp -implicitDefEqProofs only [go_sem, bA, setA]; repeat (refine GO ?_; simp -implicitDefEqProofs only [go_sem, bA, setA]))
    refine VIF.split (fun h2 => ?_) (fun h2 => ?_)
    · have hn : ¬ Good dz := fun g => by rw [hg2.2 g] at h2; simp at h2
      obtain ⟨rfl, rfl⟩ : b = [] ∧ f = 1 := by
        obtain ⟨now, e', h1, h2⟩ := hbb
        rcases h1 with ⟨_, _, rfl⟩ | ⟨_, h1, _⟩
        · rcases h2 with ⟨_, h3, h4⟩ | ⟨h3, _⟩
          · exact ⟨h3, h4⟩
          · cases h3
        · exact absurd h1 hn
      (simp -implicitDefEqProofs only [go_sem]; repeat (refine GO ?_; simp -implicitDefEqProofs only [go_sem]))
      (first | (refine VIF.tt ?_ ?_; (· first | rfl | (simp; done) | (simp; omega))) | (refine VIF.ff ?_ ?_; (· first | rfl | (simp; done) | (simp; omega))))
      (simp -implicitDefEqProofs only [go_sem]; repeat (refine GO ?_; simp -implicitDefEqProofs only [go_sem]))
      (first | (refine VIF.tt ?_ ?_; (· first | rfl | (simp; done) | (simp; omega))) | (refine VIF.ff ?_ ?_; (· first | rfl | (simp; done) | (simp; omega))))
      (simp -implicitDefEqProofs only [go_sem]; repeat (refine GO ?_; simp -implicitDefEqProofs only [go_sem]))
      refine .pure _ (show Spec0 Try.prog 28 [setA z, setA z] _ from s18 z z (by omega) (by omega) (fun t ht => by have := hz t ht; omega)) rfl fun r hq _ => ?_
      obtain ⟨t1, rfl, ht1⟩ := hq
      rw [ht1.2 rfl]
      (simp -implicitDefEqProofs only [go_sem, bA, setA]; repeat (refine GO ?_; simp -implicitDefEqProofs only [go_sem, bA, setA]))
      refine .pure _ c35 rfl fun r hq _ => ?_
      subst hq
      (simp -implicitDefEqProofs only [go_sem, bA]; repeat (refine GO ?_; simp -implicitDefEqProofs only [go_sem, bA]))
    · have hd2 : Good dz := hg2.1 (by simpa using h2)
      (simp -implicitDefEqProofs only [go_sem]; repeat (refine GO ?_; simp -implicitDefEqProofs only [go_sem]))
      refine .pure _ (show Spec0 Try.prog 38 [setA z, setA dz] _ from c38 z dz (by omega) hz hd) rfl fun r hq _ => ?_
      obtain ⟨s, g, rfl, hs⟩ := hq
      have hsl := makeR_rows hs
      rw [List.length_append] at hsl
      have hsr : ∀ t ∈ s, t.row.length < 1073741824 := fun t ht => by
        obtain ⟨u, hu, e⟩ := hsl.2 t ht
        rw [← e]
        rcases List.mem_append.1 hu with h | h
        · exact hz u h
        · exact hd u h
      obtain ⟨now, e', h1, h3⟩ := hbb
      rcases h1 with ⟨h4, _⟩ | ⟨_, _, h1⟩
      · exact absurd ⟨hz2, hd2⟩ h4
      obtain ⟨rfl, rfl⟩ := makeR_same hs h1
      (simp -implicitDefEqProofs only [go_sem, setA, iA]; repeat (refine GO ?_; simp -implicitDefEqProofs only [go_sem, setA, iA]))
      refine VIF.split (fun h4 => ?_) (fun h4 => ?_)
      · have h4 : g ≠ 0 := by simpa using h4
        obtain ⟨rfl, rfl⟩ : b = [] ∧ f = g := by
          rcases h3 with ⟨_, h5, h6⟩ | ⟨h5, _⟩
          · exact ⟨h5, h6⟩
          · exact absurd h5 h4
        (simp -implicitDefEqProofs only [go_sem]; repeat (refine GO ?_; simp -implicitDefEqProofs only [go_sem]))
        (first | (refine VIF.tt ?_ ?_; (· first | rfl | (simp; done) | (simp; omega))) | (refine VIF.ff ?_ ?_; (· first | rfl | (simp; done) | (simp; omega))))
        (simp -implicitDefEqProofs only [go_sem]; repeat (refine GO ?_; simp -implicitDefEqProofs only [go_sem]))
        (first | (refine VIF.tt ?_ ?_; (· first | rfl | (simp; done) | (simp; omega))) | (refine VIF.ff ?_ ?_; (· first | rfl | (simp; done) | (simp; omega))))
        (simp -implicitDefEqProofs only [go_sem]; repeat (refine GO ?_; simp -implicitDefEqProofs only [go_sem]))
        refine .pure _ c35 rfl fun r hq _ => ?_
        subst hq
        (simp -implicitDefEqProofs only [go_sem, bA]; repeat (refine GO ?_; simp -implicitDefEqProofs only [go_sem, bA]))
      · have h4 : g = 0 := by simpa using h4
        subst h4
        obtain ⟨_, _, ms, gs, _⟩ := addR_good (.inr ⟨hz2, hd2, hs⟩) rfl
        have hm : MakeR (distL s ++ (distL z).map negI) b f := by
          rcases h3 with ⟨h5, _⟩ | ⟨_, h5⟩
          · exact absurd rfl h5
          · rcases h5 with ⟨h6, _⟩ | ⟨_, _, h6⟩
            · exact absurd ⟨good_distL gs, good_distL hz2⟩ h6
            · exact h6
        obtain ⟨rfl, hbl⟩ := dist_minus gs hz2 hm
        have lds := distL_len s
        have ldz := distL_len z
        have hbr := makeR_rows hm
        (simp -implicitDefEqProofs only [go_sem]; repeat (refine GO ?_; simp -implicitDefEqProofs only [go_sem]))
        refine .pure _ (show Spec0 Try.prog 36 [setA s] _ from Spec1.set1 (c36 s (by omega) hsr)) rfl fun r hq _ => ?_
        obtain ⟨_, rfl, rfl⟩ := hq
        rw [posL_dist gs]
        (simp -implicitDefEqProofs only [go_sem, setA]; repeat (refine GO ?_; simp -implicitDefEqProofs only [go_sem, setA]))
        refine .pure _ (show Spec0 Try.prog 36 [setA z] _ from Spec1.set1 (c36 z (by omega) hz)) rfl fun r hq _ => ?_
        obtain ⟨_, rfl, rfl⟩ := hq
        rw [posL_dist hz2]
        (simp -implicitDefEqProofs only [go_sem, setA]; repeat (refine GO ?_; simp -implicitDefEqProofs only [go_sem, setA]))
        refine .pure _ (show Spec0 Try.prog 39 [setA (distL s), setA (distL z)] _ from c39 (distL s) (distL z) (by omega) (distL_rows (P := fun r => r.length < 1073741824) hsr) (distL_rows (P := fun r => r.length < 1073741824) hz) (fun t ht => good_w (good_distL hz2) ht)) rfl fun r hq _ => ?_
        obtain ⟨w, h, rfl, hw⟩ := hq
        obtain ⟨rfl, rfl⟩ := makeR_same hm hw
        (simp -implicitDefEqProofs only [go_sem, setA, iA]; repeat (refine GO ?_; simp -implicitDefEqProofs only [go_sem, setA, iA]))
        (first | (refine VIF.tt ?_ ?_; (· first | rfl | (simp; done) | (simp; omega))) | (refine VIF.ff ?_ ?_; (· first | rfl | (simp; done) | (simp; omega))))
        (simp -implicitDefEqProofs only [go_sem]; repeat (refine GO ?_; simp -implicitDefEqProofs only [go_sem]))
        have hb3 : ∀ t ∈ b, t.row.length < 4611686018427387904 := fun t ht => by
          obtain ⟨u, hu, e⟩ := hbr.2 t ht
          rw [← e]
          rcases List.mem_append.1 hu with h | h
          · have := distL_rows (P := fun r => r.length < 1073741824) hsr u h; omega
          · obtain ⟨v, hv, rfl⟩ := List.mem_map.1 h
            have := distL_rows (P := fun r => r.length < 1073741824) hz v hv
            show v.row.length < _
            omega
        refine .pure _ (show Spec0 Try.prog 28 [setA b, setA b] _ from s18 b b (by omega) (by omega) hb3) rfl fun r hq _ => ?_
        obtain ⟨t5, rfl, ht5⟩ := hq
        rw [ht5.2 rfl]
        (simp -implicitDefEqProofs only [go_sem, bA, setA]; repeat (refine GO ?_; simp -implicitDefEqProofs only [go_sem, bA, setA]))
        refine .pure _ (show Spec0 Try.prog 28 [setA z, setA z] _ from s18 z z (by omega) (by omega) (fun t ht => by have := hz t ht; omega)) rfl fun r hq _ => ?_
        obtain ⟨t1, rfl, ht1⟩ := hq
        rw [ht1.2 rfl]
        (simp -implicitDefEqProofs only [go_sem, bA, setA]; repeat (refine GO ?_; simp -implicitDefEqProofs only [go_sem, bA, setA]))
        refine .pure _ c35 rfl fun r hq _ => ?_
        subst hq
        (simp -implicitDefEqProofs only [go_sem, bA]; repeat (refine GO ?_; simp -implicitDefEqProofs only [go_sem, bA]))
end Yt
namespace Yt
open Go Go.Vc Go.Proofs
set_option maxRecDepth 10000
set_option maxHeartbeats 8000000
set_option linter.unusedSimpArgs false
set_option linter.unusedVariables false
theorem intsL_leafy (l : List Int) : (Ob.mk 1 (l.map fun n => [iA n])).leafy := by
  rw [leafy_do]
  exact leafs2_map fun x _ => by simp [leafs, iA, AV.leaf]
theorem c53 (l : List Int) (hl : l.length < 1073741824) : Spec0 Try.prog 53 [intsL l] (· = intsL l) := by
  refine spec0_of_vc tabOk elems ord53 Try.func53 rfl (rl := [.tmp 2]) rfl (by kernel_rfl) rfl ?_
  (simp -implicitDefEqProofs only [go_sem, intsL]; repeat (refine GO ?_; simp -implicitDefEqProofs only [go_sem, intsL]))
  refine ⟨by omega, ?_⟩
  simp -implicitDefEqProofs only [go_sem]
  refine TO [] [(2, intsL l)] [] [] rfl ?_ ?_
  · (simp -implicitDefEqProofs only [go_sem, intsL]; repeat (refine GO ?_; simp -implicitDefEqProofs only [go_sem, intsL]))
    exact ⟨id, by simp [olds], _, rfl, intsL_leafy l, rfl, List.take_of_length_le (by simp)⟩
  (simp -implicitDefEqProofs only [go_sem, intsL]; repeat (refine GO ?_; simp -implicitDefEqProofs only [go_sem, intsL]))
theorem c56 (l : List Int) (hl : l.length < 1073741824) : Spec0 Try.prog 56 [intsL l, intsL l] (· = bA true) := by
  refine spec0_of_vc tabOk elems ord56 Try.func56 rfl (rl := [.tmp 4]) rfl (by kernel_rfl) rfl ?_
  (simp -implicitDefEqProofs only [go_sem, intsL]; repeat (refine GO ?_; simp -implicitDefEqProofs only [go_sem, intsL]))
  (first | (refine VIF.tt ?_ ?_; (· first | rfl | (simp; done) | (simp; omega))) | (refine VIF.ff ?_ ?_; (· first | rfl | (simp; done) | (simp; omega))))
  (simp -implicitDefEqProofs only [go_sem]; repeat (refine GO ?_; simp -implicitDefEqProofs only [go_sem]))
  refine LOOP.mk (ι := { i : Nat // i ≤ l.length }) (fun p => mkS [(0, intsL l), (1, intsL l), (5, iA p.1)] [] []) (fun p => l.length - p.1) ⟨0, Nat.zero_le _⟩ [] rfl rfl ?_ (fun p => ?_)
  · (simp -implicitDefEqProofs only [go_sem, intsL, iA]; repeat (refine GO ?_; simp -implicitDefEqProofs only [go_sem, intsL, iA]))
    exact ⟨id, rfl⟩
  obtain ⟨i, hi⟩ := p
  (simp -implicitDefEqProofs only [go_sem, intsL, iA]; repeat (refine GO ?_; simp -implicitDefEqProofs only [go_sem, intsL, iA]))
  refine VIF.split (fun h1 => ?_) (fun h1 => ?_)
  · have h1 : i < l.length := by simpa using h1
    have w1 := wrap_add1 (show i < 4611686018427387904 by omega)
    (simp -implicitDefEqProofs only [go_sem]; repeat (refine GO ?_; simp -implicitDefEqProofs only [go_sem]))
    refine EL.map h1 ?_
    (simp -implicitDefEqProofs only [go_sem, iA]; repeat (refine GO ?_; simp -implicitDefEqProofs only [go_sem, iA]))
    refine EL.map h1 ?_
    (simp -implicitDefEqProofs only [go_sem, iA]; repeat (refine GO ?_; simp -implicitDefEqProofs only [go_sem, iA]))
    (first | (refine VIF.tt ?_ ?_; (· first | rfl | (simp; done) | (simp; omega))) | (refine VIF.ff ?_ ?_; (· first | rfl | (simp; done) | (simp; omega))))
    (simp -implicitDefEqProofs only [go_sem, w1]; repeat (refine GO ?_; simp -implicitDefEqProofs only [go_sem, w1]))
    refine BACK.mk ⟨i + 1, by omega⟩ [] rfl rfl (by show l.length - (i + 1) < l.length - i; omega) ?_
    (simp -implicitDefEqProofs only [go_sem, intsL, iA, w1]; repeat (refine GO ?_; simp -implicitDefEqProofs only [go_sem, intsL, iA, w1]))
    exact id
  · (simp -implicitDefEqProofs only [go_sem]; repeat (refine GO ?_; simp -implicitDefEqProofs only [go_sem]))
    rfl
end Yt
namespace Yt
open Go Go.Vc Go.Proofs
set_option maxRecDepth 10000
set_option maxHeartbeats 8000000
set_option linter.unusedSimpArgs false
set_option linter.unusedVariables false
end Yt
namespace Yt
open Go Go.Vc Go.Proofs
set_option maxRecDepth 10000
set_option maxHeartbeats 8000000
set_option linter.unusedSimpArgs false
set_option linter.unusedVariables false
theorem minR_same {a b o o' : List It} {e e' : Int} (ga : Good a) (gb : Good b) (h : MinR a b o e) (h' : MakeR (a ++ b.map negI) o' e') : o = o' ∧ e = e' := by
  rcases h with ⟨h1, _⟩ | ⟨_, _, h1⟩
  · exact absurd ⟨ga, gb⟩ h1
  · exact makeR_same h1 h'
theorem addR_same {a b o o' : List It} {e e' : Int} (ga : Good a) (gb : Good b) (h : AddR a b o e) (h' : MakeR (a ++ b) o' e') : o = o' ∧ e = e' := by
  rcases h with ⟨h1, _⟩ | ⟨_, _, h1⟩
  · exact absurd ⟨ga, gb⟩ h1
  · exact makeR_same h1 h'
theorem addR_bad {a b o : List It} {e : Int} (h : AddR a b o e) (hn : ¬ (Good a ∧ Good b)) : o = [] ∧ e = 1 := by
  rcases h with ⟨_, h⟩ | ⟨h1, h2, _⟩
  · exact h
  · exact absurd ⟨h1, h2⟩ hn
end Yt
namespace Yt
open Go Go.Vc Go.Proofs
set_option maxRecDepth 10000
set_option maxHeartbeats 16000000
set_option linter.unusedSimpArgs false
set_option linter.unusedVariables false
end Yt
namespace Yt
open Go Go.Vc Go.Proofs
set_option maxRecDepth 10000
set_option maxHeartbeats 16000000
set_option linter.unusedSimpArgs false
set_option linter.unusedVariables false
end Yt
namespace Yt
open Go Go.Vc Go.Proofs
set_option maxRecDepth 10000
set_option maxHeartbeats 16000000
set_option linter.unusedSimpArgs false
set_option linter.unusedVariables false
end Yt
namespace Yt
open Go Go.Vc Go.Proofs
set_option maxRecDepth 10000
set_option maxHeartbeats 16000000
set_option linter.unusedSimpArgs false
set_option linter.unusedVariables false
theorem f67 (z : List It) (cols : List Int) (kind col : Int) (hl : z.length ≤ 1048576) (hr : ∀ t ∈ z, t.row.length < 1073741824) (hc : cols.length < 1073741824) :
    SpecF Try.prog 67 [setA z, intsL cols, iA kind, iA col] (fun r out => ∃ err : Int, r = .tu [.rf 0 0 out.length, iA err] ∧ GroupR z cols kind col out err) := by
  refine funspecD_of_vc tabOk elems ord67 Try.func67 rfl (rl := [.tmp 8, .tmp 9]) rfl (by kernel_rfl) rfl (fun _ h => absurd rfl h) ?_
  (simp -implicitDefEqProofs only [go_sem, setA, intsL, iA]; repeat (refine GO ?_; simp -implicitDefEqProofs only [go_sem, setA, intsL, iA]))
  refine .pure _ (show Spec0 Try.prog 106 [setA z, intsL cols, iA kind, iA col] _ from c106 z cols kind col (by omega) hr hc) rfl fun r hq _ => ?_
  obtain ⟨e, rfl, he, he0, he2⟩ := hq
  (simp -implicitDefEqProofs only [go_sem, iA]; repeat (refine GO ?_; simp -implicitDefEqProofs only [go_sem, iA]))
  refine VIF.split (fun h => ?_) (fun h => ?_)
  · have h : e ≠ 0 := by simpa using h
    (simp -implicitDefEqProofs only [go_sem]; repeat (refine GO ?_; simp -implicitDefEqProofs only [go_sem]))
    refine FINmk [(0, none)] [(8, .rf 0 0 0), (9, iA e)] [(0, so [])] [0] rfl ?_ ?_
    · (simp -implicitDefEqProofs only [go_sem, iA]; repeat (refine GO ?_; simp -implicitDefEqProofs only [go_sem, iA]))
      simp [so]
    · exact ⟨[], ⟨⟨e, rfl, .inl ⟨fun g => h (he0.2 g), rfl, by omega, he2⟩⟩, rfl⟩, rfl⟩
  have h : e = 0 := by simpa using h
  have hw := he0.1 h
  subst h
  (simp -implicitDefEqProofs only [go_sem]; repeat (refine GO ?_; simp -implicitDefEqProofs only [go_sem]))
  refine .pure _ (show Spec0 Try.prog 107 [setA z, intsL cols] _ from c107 z cols hl hr hc (fun t ht => (hw.2.2.2.2 t ht).1)) rfl fun r hq _ => ?_
  obtain ⟨gs, rfl, hg, hgl⟩ := hq
  (simp -implicitDefEqProofs only [go_sem, gsA, iA]; repeat (refine GO ?_; simp -implicitDefEqProofs only [go_sem, gsA, iA]))
  refine LOOP.mk (ι := { i : Nat // i ≤ gs.length ∧ ∀ j (h : j < gs.length), j < i → gval kind col gs[j] ≠ none }) (fun p => mkS [(2, iA kind), (3, iA col), (11, .rf 1000 0 p.1), (26, gsA gs), (27, iA gs.length), (28, iA p.1)] [(1000, so ((gs.take p.1).map (gItem kind col)))] [1000])
    (fun p => gs.length - p.1) ⟨0, Nat.zero_le _, fun j _ h => absurd h (Nat.not_lt_zero _)⟩ [(1000, none)] rfl rfl ?_ (fun p => ?_)
  · (simp -implicitDefEqProofs only [go_sem, gsA, iA, so]; repeat (refine GO ?_; simp -implicitDefEqProofs only [go_sem, gsA, iA, so]))
    simp
  obtain ⟨i, hi, hv⟩ := p
  (simp -implicitDefEqProofs only [go_sem, gsA, iA]; repeat (refine GO ?_; simp -implicitDefEqProofs only [go_sem, gsA, iA]))
  refine VIF.split (fun h => ?_) (fun h => ?_)
  · have h : i < gs.length := by simpa using h
    have hm := List.getElem_mem h
    have w1 := wrap_add1 (show i < 4611686018427387904 by omega)
    (simp -implicitDefEqProofs only [go_sem]; repeat (refine GO ?_; simp -implicitDefEqProofs only [go_sem]))
    refine EL.map h ?_
    (simp -implicitDefEqProofs only [go_sem, Gp.c, iA]; repeat (refine GO ?_; simp -implicitDefEqProofs only [go_sem, Gp.c, iA]))
    have hgi : ∀ t ∈ gs[i].items, t ∈ z := fun t ht => by rw [hg.items _ hm, List.mem_filter] at ht; exact ht.1
    have hgl2 : gs[i].items.length ≤ z.length := by rw [hg.items _ hm]; exact List.length_filter_le _ _
    have hal : gs[i].at_.length = cols.length := by
      obtain ⟨t, ht⟩ := List.exists_mem_of_ne_nil _ (hg.some _ hm)
      rw [hg.items _ hm, List.mem_filter] at ht
      have h4 : cmpR (pickR t.row cols) gs[i].at_ = 0 := by have := ht.2; simp at this; exact this.2
      rw [← lin_cmpR.eq _ _ h4]; simp [pickR]
    have hcc : kind ≠ 1 → ∀ t ∈ gs[i].items, inC col t.row.length = true := fun hk t ht => (hw.2.2.2.2 t (hgi t ht)).2 hk
    refine .pure _ (show Spec0 Try.prog 108 [.ag gs[i].c, iA kind, iA col] _ from c108 gs[i] kind col (by omega) hcc) rfl fun r hq _ => ?_
    subst hq
    (simp -implicitDefEqProofs only [go_sem, V.c, iA]; repeat (refine GO ?_; simp -implicitDefEqProofs only [go_sem, V.c, iA]))
    have hwb : ∀ t ∈ gs[i].items, -72057594037927936 ≤ t.w ∧ t.w ≤ 72057594037927936 := fun t ht => good_w hw.1 (hgi t ht)
    have hvb : ∀ t ∈ gs[i].items, ∀ v ∈ t.row, -4611686018427387904 ≤ v.i ∧ v.i ≤ 4611686018427387904 := fun t ht v hv => by
      have h3 := (good_made.1 hw.1).2 t (hgi t ht)
      exact okR_bound h3 v hv
    have s109 : Spec0 Try.prog 109 [.ag [.im 3 (gs[i].at_.map V.c), .im 2 (gs[i].items.map It.c)], .pr (.int .i64 kind), .pr (.int .i64 col)] _ := c109 gs[i] kind col (by omega) (fun t ht => by have := hr t (hgi t ht); omega) hwb hvb hcc
    have hor : ∀ h : kind = 1 ∨ kind = 2, gval kind col gs[i] = (sumF kind col gs[i].items 0).map fun n => ⟨3, n, ByteArray.empty⟩ := fun h => if_pos h
    have bad : gval kind col gs[i] = none → ∃ z_1, ((∃ err : Int, AV.tu [.rf 0 0 0, .pr (.int .i64 11)] = .tu [.rf 0 0 z_1.length, iA err] ∧ GroupR z cols kind col z_1 err) ∧ AV.only0 (.tu [.rf 0 0 0, .pr (.int .i64 11)]) = true) ∧ upd noOb 0 (some (so [])) = famF z_1 := fun hn =>
      ⟨[], ⟨⟨11, rfl, .inr ⟨hw, gs, hg, hgl, .inl ⟨⟨_, hm, hn⟩, rfl, rfl⟩⟩⟩, rfl⟩, rfl⟩
    refine VIF.split (fun h1 => ?_) (fun h1 => ?_)
    · have h1 : kind = 1 := by simpa using h1
      (simp -implicitDefEqProofs only [go_sem, V.c, iA, rowA, setA]; repeat (refine GO ?_; simp -implicitDefEqProofs only [go_sem, V.c, iA, rowA, setA]))
      refine .pure _ s109 rfl fun r hq _ => ?_
      subst hq
      (simp -implicitDefEqProofs only [go_sem, V.c, iA, bA]; repeat (refine GO ?_; simp -implicitDefEqProofs only [go_sem, V.c, iA, bA]))
      refine VIF.split (fun h3 => ?_) (fun h3 => ?_)
      · have h3 : (sumF kind col gs[i].items 0).isSome = false := by simpa only [Bool.not_eq_true'] using h3
        have hno : gval kind col gs[i] = none := by
          rw [hor (.inl h1)]
          cases hs : sumF kind col gs[i].items 0 with
          | none => rfl
          | some n => rw [hs] at h3; cases h3
        (simp -implicitDefEqProofs only [go_sem]; repeat (refine GO ?_; simp -implicitDefEqProofs only [go_sem]))
        refine FINmk [(0, none)] [(8, .rf 0 0 0), (9, iA 11)] [(0, so [])] [0] rfl ?_ ?_
        · (simp -implicitDefEqProofs only [go_sem, iA]; repeat (refine GO ?_; simp -implicitDefEqProofs only [go_sem, iA]))
          simp [so]
        · exact bad hno
      have h3 : (sumF kind col gs[i].items 0).isSome = true := by simpa only [Bool.not_eq_false'] using h3
      obtain ⟨n, hs⟩ := Option.isSome_iff_exists.1 h3
      have hgv : gval kind col gs[i] = some ⟨3, n, ByteArray.empty⟩ := by rw [hor (.inl h1), hs]; rfl
      rw [hs]
      obtain ⟨v, hv'⟩ : ∃ v : V, v = ⟨3, n, ByteArray.empty⟩ := ⟨_, rfl⟩
      rw [← hv'] at hgv
      rw [show sumV (some n) = v from hv'.symm]
      simp -implicitDefEqProofs only [go_sem, V.c, iA, rowA, setA]
      refine TO [(1000, some 1000)] [(2, iA kind), (3, iA col), (11, .rf 1000 0 i), (13, .ro gs[i].c 0), (14, .ro v.c 0), (26, gsA gs), (27, iA gs.length), (28, iA i)] [(1000, so ((gs.take i).map (gItem kind col)))] [1000] rfl ?_ ?_
      · (simp -implicitDefEqProofs only [go_sem, V.c, iA, Gp.c, gsA, bA]; repeat (refine GO ?_; simp -implicitDefEqProofs only [go_sem, V.c, iA, Gp.c, gsA, bA]))
        exact ⟨id, ⟨⟨by decide, _, rfl, by simp [Ob.leafy, AV.leaf, rowA, setA], rfl⟩, by decide, _, rfl, by simp [Ob.leafy, AV.leaf], rfl⟩, .same (so ((gs.take i).map (gItem kind col))) _ _ (so_leafy _) rfl⟩
      (simp -implicitDefEqProofs only [go_sem, V.c, iA, Gp.c, rowA, bA]; repeat (refine GO ?_; simp -implicitDefEqProofs only [go_sem, V.c, iA, Gp.c, rowA, bA]))
      have hla : gs[i].at_.length ≤ 1073741823 := by omega
      have s43' : Spec1 Try.prog 110 [.im 3 (gs[i].at_.map V.c)] _ := s43 gs[i].at_ (by omega)
      refine ⟨.make 54 _ s43' rfl (by simp) rfl fun q o hq _ => ?_, .make 54 _ s43' rfl (by simp) rfl fun q o hq _ => ?_⟩
      all_goals obtain ⟨rfl, rfl⟩ := hq
      all_goals (simp -implicitDefEqProofs only [go_sem, V.c, iA, Gp.c, ro3, so, w1]; repeat (refine GO ?_; simp -implicitDefEqProofs only [go_sem, V.c, iA, Gp.c, ro3, so, w1]))
      all_goals refine ⟨hla, by omega, ?_⟩
      all_goals refine BACK.mk ⟨i + 1, by omega, fun j hj hji => if e : j = i then (by subst e; rw [hgv]; simp) else hv j hj (by omega)⟩ [(1000, some 60)] rfl rfl (by show gs.length - (i + 1) < gs.length - i; omega) ?_
      all_goals (simp -implicitDefEqProofs only [go_sem, gsA, iA, so, w1]; repeat (refine GO ?_; simp -implicitDefEqProofs only [go_sem, gsA, iA, so, w1]))
      all_goals
        refine ⟨id, ?_⟩
        rw [List.take_succ_eq_append_getElem h, List.map_append, List.map_append, List.map_cons, List.map_nil, List.map_cons, List.map_nil, List.take_of_length_le (l := List.map It.c (List.map (gItem kind col) (List.take i gs))) (by simp; omega)]
        refine Es_snoc (l := List.map It.c (List.map (gItem kind col) (List.take i gs))) (fun x hx a ha => so_leafy ((gs.take i).map (gItem kind col)) x hx a ha) ?_
        (simp -implicitDefEqProofs only [go_sem, It.c, gItem, hgv, rowA, iA]; repeat (refine GO ?_; simp -implicitDefEqProofs only [go_sem, It.c, gItem, hgv, rowA, iA]))
        exact ⟨by decide, ro3 (gs[i].at_ ++ [v]), by rw [ro3, List.map_append]; rfl, ro3_leafy _, rfl, List.take_of_length_le (by simp [ro3])⟩
    have h1 : kind ≠ 1 := by simpa using h1
    (simp -implicitDefEqProofs only [go_sem, V.c, iA]; repeat (refine GO ?_; simp -implicitDefEqProofs only [go_sem, V.c, iA]))
    refine VIF.split (fun h2 => ?_) (fun h2 => ?_)
    · have h2 : kind = 2 := by simpa using h2
      (simp -implicitDefEqProofs only [go_sem, V.c, iA, rowA, setA]; repeat (refine GO ?_; simp -implicitDefEqProofs only [go_sem, V.c, iA, rowA, setA]))
      refine .pure _ s109 rfl fun r hq _ => ?_
      subst hq
      (simp -implicitDefEqProofs only [go_sem, V.c, iA, bA]; repeat (refine GO ?_; simp -implicitDefEqProofs only [go_sem, V.c, iA, bA]))
      refine VIF.split (fun h3 => ?_) (fun h3 => ?_)
      · have h3 : (sumF kind col gs[i].items 0).isSome = false := by simpa only [Bool.not_eq_true'] using h3
        have hno : gval kind col gs[i] = none := by
          rw [hor (.inr h2)]
          cases hs : sumF kind col gs[i].items 0 with
          | none => rfl
          | some n => rw [hs] at h3; cases h3
        (simp -implicitDefEqProofs only [go_sem]; repeat (refine GO ?_; simp -implicitDefEqProofs only [go_sem]))
        refine FINmk [(0, none)] [(8, .rf 0 0 0), (9, iA 11)] [(0, so [])] [0] rfl ?_ ?_
        · (simp -implicitDefEqProofs only [go_sem, iA]; repeat (refine GO ?_; simp -implicitDefEqProofs only [go_sem, iA]))
          simp [so]
        · exact bad hno
      have h3 : (sumF kind col gs[i].items 0).isSome = true := by simpa only [Bool.not_eq_false'] using h3
      obtain ⟨n, hs⟩ := Option.isSome_iff_exists.1 h3
      have hgv : gval kind col gs[i] = some ⟨3, n, ByteArray.empty⟩ := by rw [hor (.inr h2), hs]; rfl
      rw [hs]
      obtain ⟨v, hv'⟩ : ∃ v : V, v = ⟨3, n, ByteArray.empty⟩ := ⟨_, rfl⟩
      rw [← hv'] at hgv
      rw [show sumV (some n) = v from hv'.symm]
      simp -implicitDefEqProofs only [go_sem, V.c, iA, rowA, setA]
      refine TO [(1000, some 1000)] [(2, iA kind), (3, iA col), (11, .rf 1000 0 i), (13, .ro gs[i].c 0), (14, .ro v.c 0), (26, gsA gs), (27, iA gs.length), (28, iA i)] [(1000, so ((gs.take i).map (gItem kind col)))] [1000] rfl ?_ ?_
      · (simp -implicitDefEqProofs only [go_sem, V.c, iA, Gp.c, gsA, bA]; repeat (refine GO ?_; simp -implicitDefEqProofs only [go_sem, V.c, iA, Gp.c, gsA, bA]))
        exact ⟨id, ⟨⟨by decide, _, rfl, by simp [Ob.leafy, AV.leaf, rowA, setA], rfl⟩, by decide, _, rfl, by simp [Ob.leafy, AV.leaf], rfl⟩, .same (so ((gs.take i).map (gItem kind col))) _ _ (so_leafy _) rfl⟩
      (simp -implicitDefEqProofs only [go_sem, V.c, iA, Gp.c, rowA, bA]; repeat (refine GO ?_; simp -implicitDefEqProofs only [go_sem, V.c, iA, Gp.c, rowA, bA]))
      have hla : gs[i].at_.length ≤ 1073741823 := by omega
      have s43' : Spec1 Try.prog 110 [.im 3 (gs[i].at_.map V.c)] _ := s43 gs[i].at_ (by omega)
      refine ⟨.make 54 _ s43' rfl (by simp) rfl fun q o hq _ => ?_, .make 54 _ s43' rfl (by simp) rfl fun q o hq _ => ?_⟩
      all_goals obtain ⟨rfl, rfl⟩ := hq
      all_goals (simp -implicitDefEqProofs only [go_sem, V.c, iA, Gp.c, ro3, so, w1]; repeat (refine GO ?_; simp -implicitDefEqProofs only [go_sem, V.c, iA, Gp.c, ro3, so, w1]))
      all_goals refine ⟨hla, by omega, ?_⟩
      all_goals refine BACK.mk ⟨i + 1, by omega, fun j hj hji => if e : j = i then (by subst e; rw [hgv]; simp) else hv j hj (by omega)⟩ [(1000, some 60)] rfl rfl (by show gs.length - (i + 1) < gs.length - i; omega) ?_
      all_goals (simp -implicitDefEqProofs only [go_sem, gsA, iA, so, w1]; repeat (refine GO ?_; simp -implicitDefEqProofs only [go_sem, gsA, iA, so, w1]))
      all_goals
        refine ⟨id, ?_⟩
        rw [List.take_succ_eq_append_getElem h, List.map_append, List.map_append, List.map_cons, List.map_nil, List.map_cons, List.map_nil, List.take_of_length_le (l := List.map It.c (List.map (gItem kind col) (List.take i gs))) (by simp; omega)]
        refine Es_snoc (l := List.map It.c (List.map (gItem kind col) (List.take i gs))) (fun x hx a ha => so_leafy ((gs.take i).map (gItem kind col)) x hx a ha) ?_
        (simp -implicitDefEqProofs only [go_sem, It.c, gItem, hgv, rowA, iA]; repeat (refine GO ?_; simp -implicitDefEqProofs only [go_sem, It.c, gItem, hgv, rowA, iA]))
        exact ⟨by decide, ro3 (gs[i].at_ ++ [v]), by rw [ro3, List.map_append]; rfl, ro3_leafy _, rfl, List.take_of_length_le (by simp [ro3])⟩
    have h2 : kind ≠ 2 := by simpa using h2
    rw [if_neg h1]
    have hgv : gval kind col gs[i] = some (bestF kind col gs[i].items V.nul) := by simp [gval, h1, h2]
    simp -implicitDefEqProofs only [go_sem, V.c, iA]
    generalize bestF kind col gs[i].items V.nul = v at hgv ⊢
    refine TO [(1000, some 1000)] [(2, iA kind), (3, iA col), (11, .rf 1000 0 i), (13, .ro gs[i].c 0), (14, .ro v.c 0), (15, bA true), (26, gsA gs), (27, iA gs.length), (28, iA i)] [(1000, so ((gs.take i).map (gItem kind col)))] [1000] rfl ?_ ?_
    · (simp -implicitDefEqProofs only [go_sem, V.c, iA, Gp.c, gsA, bA]; repeat (refine GO ?_; simp -implicitDefEqProofs only [go_sem, V.c, iA, Gp.c, gsA, bA]))
      exact ⟨id, ⟨⟨by decide, _, rfl, by simp [Ob.leafy, AV.leaf, rowA, setA], rfl⟩, by decide, _, rfl, by simp [Ob.leafy, AV.leaf], rfl⟩, .same (so ((gs.take i).map (gItem kind col))) _ _ (so_leafy _) rfl⟩
    (simp -implicitDefEqProofs only [go_sem, V.c, iA, Gp.c, rowA, bA]; repeat (refine GO ?_; simp -implicitDefEqProofs only [go_sem, V.c, iA, Gp.c, rowA, bA]))
    have hla : gs[i].at_.length ≤ 1073741823 := by omega
    have s43' : Spec1 Try.prog 110 [.im 3 (gs[i].at_.map V.c)] _ := s43 gs[i].at_ (by omega)
    refine ⟨.make 54 _ s43' rfl (by simp) rfl fun q o hq _ => ?_, .make 54 _ s43' rfl (by simp) rfl fun q o hq _ => ?_⟩
    all_goals obtain ⟨rfl, rfl⟩ := hq
    all_goals (simp -implicitDefEqProofs only [go_sem, V.c, iA, Gp.c, ro3, so, w1]; repeat (refine GO ?_; simp -implicitDefEqProofs only [go_sem, V.c, iA, Gp.c, ro3, so, w1]))
    all_goals refine ⟨hla, by omega, ?_⟩
    all_goals refine BACK.mk ⟨i + 1, by omega, fun j hj hji => if e : j = i then (by subst e; rw [hgv]; simp) else hv j hj (by omega)⟩ [(1000, some 60)] rfl rfl (by show gs.length - (i + 1) < gs.length - i; omega) ?_
    all_goals (simp -implicitDefEqProofs only [go_sem, gsA, iA, so, w1]; repeat (refine GO ?_; simp -implicitDefEqProofs only [go_sem, gsA, iA, so, w1]))
    all_goals
      refine ⟨id, ?_⟩
      rw [List.take_succ_eq_append_getElem h, List.map_append, List.map_append, List.map_cons, List.map_nil, List.map_cons, List.map_nil, List.take_of_length_le (l := List.map It.c (List.map (gItem kind col) (List.take i gs))) (by simp; omega)]
      refine Es_snoc (l := List.map It.c (List.map (gItem kind col) (List.take i gs))) (fun x hx a ha => so_leafy ((gs.take i).map (gItem kind col)) x hx a ha) ?_
      (simp -implicitDefEqProofs only [go_sem, It.c, gItem, hgv, rowA, iA]; repeat (refine GO ?_; simp -implicitDefEqProofs only [go_sem, It.c, gItem, hgv, rowA, iA]))
      exact ⟨by decide, ro3 (gs[i].at_ ++ [v]), by rw [ro3, List.map_append]; rfl, ro3_leafy _, rfl, List.take_of_length_le (by simp [ro3])⟩
  · have h : i = gs.length := by simp at h; omega
    subst h
    rw [List.take_length]
    simp -implicitDefEqProofs only [go_sem]
    refine FRZ 1000 (so (gs.map (gItem kind col))) rfl (so_leafy _) ?_
    have tk : List.take gs.length (List.map It.c (List.map (gItem kind col) gs)) = List.map It.c (List.map (gItem kind col) gs) := List.take_of_length_le (by simp)
    (simp -implicitDefEqProofs only [go_sem, so, tk]; repeat (refine GO ?_; simp -implicitDefEqProofs only [go_sem, so, tk]))
    have hgr : ∀ t ∈ gs.map (gItem kind col), t.row.length < 1073741824 := fun t ht => by
      obtain ⟨g, hgm, rfl⟩ := List.mem_map.1 ht
      have := hg.atlen g hgm
      simp [gItem]; omega
    refine CALL.fam (show SpecF Try.prog 76 [setA (gs.map (gItem kind col))] _ from f76 (gs.map (gItem kind col)) (by simp; omega) hgr) rfl 100000 (by simp) fun r out hq => ?_
    obtain ⟨err, rfl, hm⟩ := hq
    (simp -implicitDefEqProofs only [go_sem, AV.rn, rns, Nat.add_zero, iA]; repeat (refine GO ?_; simp -implicitDefEqProofs only [go_sem, AV.rn, rns, Nat.add_zero, iA]))
    refine FINfam 100000 (fun i => 100000 + (i + 1)) out [(8, .rf 0 0 out.length), (9, iA err)] (es := famC 100000 out) (fam_nd (l := [100000]) (by decide) (by decide)) (by (simp -implicitDefEqProofs only [go_sem]; repeat (refine GO ?_; simp -implicitDefEqProofs only [go_sem]))) rfl (fun i hi => by (simp -implicitDefEqProofs only [go_sem]; repeat (refine GO ?_; simp -implicitDefEqProofs only [go_sem])); exact famO_row hi) ?_ ?_
    · (simp -implicitDefEqProofs only [go_sem, iA]; repeat (refine GO ?_; simp -implicitDefEqProofs only [go_sem, iA]))
    · have hall : ∀ g ∈ gs, gval kind col g ≠ none := fun g hg' => by
        obtain ⟨j, hj, rfl⟩ := List.mem_iff_getElem.1 hg'
        exact hv j hj hj
      exact ⟨out, ⟨⟨err, rfl, .inr ⟨hw, gs, hg, hgl, .inr ⟨hall, hm⟩⟩⟩, rfl⟩, rfl⟩
theorem sumF_in {kind col : Int} : ∀ (l : List It) (n m : Int), inVal n = true → sumF kind col l n = some m → inVal m = true
  | [], n, m, h, e => by simp only [sumF, Option.some.injEq] at e; rw [← e]; exact h
  | x :: r, n, m, h, e => by
    simp only [sumF] at e
    obtain ⟨d, hd⟩ : ∃ d, d = x.w * (if kind = 2 then (getV x.row col).i else 1) := ⟨_, rfl⟩
    rw [← hd] at e
    by_cases h1 : kind = 2 ∧ (getV x.row col).k ≠ 3
    · rw [if_pos h1] at e; exact sumF_in r n m h e
    · rw [if_neg h1] at e
      by_cases h2 : (inVal d && inVal (n + d)) = true
      · rw [if_pos h2] at e
        simp only [Bool.and_eq_true] at h2
        exact sumF_in r _ m h2.2 e
      · rw [if_neg h2] at e; cases e
theorem gval_ok {z : List It} {cols : List Int} {kind col : Int} {gs : List Gp} (hw : Wr0 z cols kind col) (hg : GpI cols z gs) : ∀ g ∈ gs, ∀ v, gval kind col g = some v → okV v = true := fun g hgm v hv => by
  have hit : ∀ t ∈ g.items, t ∈ z := fun t ht => by rw [hg.items g hgm, List.mem_filter] at ht; exact ht.1
  simp only [gval] at hv
  split at hv
  · cases hs : sumF kind col g.items 0 with
    | none => rw [hs] at hv; cases hv
    | some n =>
      rw [hs] at hv
      simp only [Option.map_some, Option.some.injEq] at hv
      have := sumF_in g.items 0 n (by decide) hs
      rw [← hv]
      simp only [inVal] at this
      simp only [okV]
      simp [this]; rfl
  · rename_i hk
    simp only [Option.some.injEq] at hv
    rw [← hv]
    rcases bestF_mem kind col g.items V.nul with e | ⟨t, ht, e⟩
    · rw [e]; decide
    · rw [e]
      have htz := hit t ht
      exact (okR_all.1 ((good_made.1 hw.1).2 t htz)).2 _ (getV_mem ((hw.2.2.2.2 t htz).2 (fun h => hk (.inl h))))
theorem gmap_ok {z : List It} {cols : List Int} {kind col : Int} {gs : List Gp} (hw : Wr0 z cols kind col) (hg : GpI cols z gs) (hall : ∀ g ∈ gs, gval kind col g ≠ none) : ∀ t ∈ gs.map (gItem kind col), okR t.row = 0 := fun t ht => by
  obtain ⟨g, hgm, rfl⟩ := List.mem_map.1 ht
  obtain ⟨v, hv⟩ := Option.ne_none_iff_exists'.1 (hall g hgm)
  have hv2 := gval_ok hw hg g hgm v hv
  obtain ⟨u, hu, _, e⟩ := (hg.has g.at_).1 ⟨g, hgm, rfl⟩
  have h1 := pick_row (hw.2.2.2.2 u hu).1 ((good_made.1 hw.1).2 u hu)
  rw [e] at h1
  simp only [gItem, hv, Option.getD_some]
  have h2 := hg.atlen g hgm
  have h3 := hw.2.2.2.1
  refine okR_all.2 ⟨by simp; omega, fun w hw => ?_⟩
  rcases List.mem_append.1 hw with hw | hw
  · exact (okR_all.1 h1.1).2 w hw
  · simp at hw; subst hw; exact hv2
theorem gmap_make {z out : List It} {cols : List Int} {kind col err : Int} {gs : List Gp} (hw : Wr0 z cols kind col) (hg : GpI cols z gs) (hall : ∀ g ∈ gs, gval kind col g ≠ none) (h : MakeR (gs.map (gItem kind col)) out err) : out = gs.map (gItem kind col) ∧ err = 0 := by
  have hm := gmap_made (kind := kind) (col := col) hg
  exact makeR_ok h (by
    rw [List.any_eq_false]; intro t ht
    simp [okI, gmap_ok hw hg hall t ht, (hm.nz t ht).2]) hm fun _ => rfl
theorem groupR_ref {z o o' : List It} {cols : List Int} {kind col e e' : Int} (gz : Good z) (h : GroupR z cols kind col o e) (h' : RGroup z cols kind col o' e') : o = o' ∧ e = e' := by
  rcases h with ⟨h1, rfl, h2, h3⟩ | ⟨h1, gs, h2, h3, h4⟩
  · rcases h' with ⟨g1, rfl, rfl⟩ | ⟨g1, g2, rfl, rfl⟩ | ⟨g1, g2, g3, rfl, rfl⟩ | ⟨g1, g2, g3, _⟩
    · refine ⟨rfl, ?_⟩
      rcases h2 with h2 | h2
      · exact h2
      · exact absurd ⟨(h3.1 h2).2.1, (h3.1 h2).2.2.1⟩ g1
    · exact ⟨rfl, h3.2 ⟨gz, g1.1, g1.2, g2⟩⟩
    · refine ⟨rfl, ?_⟩
      rcases h2 with h2 | h2
      · exact h2
      · have := (h3.1 h2).2.2.2; omega
    · exact absurd ⟨gz, g1.1, g1.2, g2, g3⟩ h1
  · rcases h' with ⟨g1, _⟩ | ⟨g1, g2, _⟩ | ⟨g1, g2, g3, _⟩ | ⟨g1, g2, g3, gs', g4, g5⟩
    · exact absurd ⟨h1.2.1, h1.2.2.1⟩ g1
    · have := h1.2.2.2.1; omega
    · exact absurd h1.2.2.2.2 g3
    · have := g4.uniq h2; subst this
      rcases h4 with ⟨⟨g, hgm, hn⟩, rfl, rfl⟩ | ⟨h4, h5⟩ <;> rcases g5 with ⟨⟨g', hgm', hn'⟩, rfl, rfl⟩ | ⟨g5, rfl, rfl⟩
      · exact ⟨rfl, rfl⟩
      · exact absurd hn (g5 g hgm)
      · exact absurd hn' (h4 g' hgm')
      · exact gmap_make h1 h2 h4 h5
theorem groupR_good {z o : List It} {cols : List Int} {kind col e : Int} (h : GroupR z cols kind col o e) (he : e = 0) : Good o ∧ ∀ t ∈ o, t.w = 1 := by
  rcases h with ⟨_, _, h2, _⟩ | ⟨h1, gs, h2, h3, h4⟩
  · omega
  · rcases h4 with ⟨_, _, rfl⟩ | ⟨h4, h5⟩
    · cases he
    · obtain ⟨rfl, _⟩ := gmap_make h1 h2 h4 h5
      exact ⟨good_made.2 ⟨gmap_made h2, gmap_ok h1 h2 h4⟩, gmap_one⟩
end Yt
namespace Yt
open Go Go.Vc Go.Proofs
set_option maxRecDepth 10000
set_option maxHeartbeats 16000000
set_option linter.unusedSimpArgs false
set_option linter.unusedVariables false
theorem c24 (z dz : List It) (cols : List Int) (kind col : Int) (hl : ∀ l ∈ [z, dz], l.length < 4611686018427387904) (hr : ∀ l ∈ [z, dz], ∀ t ∈ l, t.row.length < 4611686018427387904) (hc : cols.length < 4611686018427387904) :
    Spec0 Try.prog 24 [setA z, setA dz, intsL cols, iA kind, iA col] (· = bA true) := by
  refine spec0_of_vc tabOk elems ord24 Try.func24 rfl (rl := [.tmp 10]) rfl (by kernel_rfl) rfl ?_
  (simp -implicitDefEqProofs only [go_sem, setA, intsL, iA]; repeat (refine GO ?_; simp -implicitDefEqProofs only [go_sem, setA, intsL, iA]))
  refine .lendTo (s10 [z, dz] (by simp) hl hr) ?_ (by rintro _ rfl; rfl) fun r hq => ?_
  · (simp -implicitDefEqProofs only [go_sem, setsA, setA]; repeat (refine GO ?_; simp -implicitDefEqProofs only [go_sem, setsA, setA]))
    rfl
  subst hq
  (simp -implicitDefEqProofs only [go_sem, bA]; repeat (refine GO ?_; simp -implicitDefEqProofs only [go_sem, bA]))
  refine VIF.split (fun hb => ?_) (fun hb => ?_)
  · (simp -implicitDefEqProofs only [go_sem, bA]; repeat (refine GO ?_; simp -implicitDefEqProofs only [go_sem, bA]))
  have hb : heavyS z = false ∧ heavyS dz = false := by simpa [List.any_cons] using hb
  obtain ⟨hl0, hr0⟩ := not_heavyS hb.1
  obtain ⟨hl1, hr1⟩ := not_heavyS hb.2
  have hz : ∀ t ∈ z, t.row.length < 1073741824 := fun t ht => by have := hr0 t ht; omega
  have hd : ∀ t ∈ dz, t.row.length < 1073741824 := fun t ht => by have := hr1 t ht; omega
  (simp -implicitDefEqProofs only [go_sem]; repeat (refine GO ?_; simp -implicitDefEqProofs only [go_sem]))
  refine VIF.split (fun h => ?_) (fun h => ?_)
  · (simp -implicitDefEqProofs only [go_sem, bA]; repeat (refine GO ?_; simp -implicitDefEqProofs only [go_sem, bA]))
  have hc : cols.length ≤ 40 := by simp at h; omega
  simp -implicitDefEqProofs only [go_sem]
  refine TO [] [(0, setA z), (1, setA dz), (2, intsL cols), (3, iA kind), (4, iA col)] [] [] rfl ?_ ?_
  · (simp -implicitDefEqProofs only [go_sem, setA, bA, intsL, iA]; repeat (refine GO ?_; simp -implicitDefEqProofs only [go_sem, setA, bA, intsL, iA]))
    exact id
  (simp -implicitDefEqProofs only [go_sem, setA, intsL, iA]; repeat (refine GO ?_; simp -implicitDefEqProofs only [go_sem, setA, intsL, iA]))
  refine .pure _ (show Spec0 Try.prog 31 [setA z] _ from Spec1.setC (c31 z (by omega) hz)) rfl fun r hq _ => ?_
  subst hq
  (simp -implicitDefEqProofs only [go_sem, setA, intsL]; repeat (refine GO ?_; simp -implicitDefEqProofs only [go_sem, setA, intsL]))
  refine .pure _ (show Spec0 Try.prog 31 [setA dz] _ from Spec1.setC (c31 dz (by omega) hd)) rfl fun r hq _ => ?_
  subst hq
  (simp -implicitDefEqProofs only [go_sem, setA, intsL]; repeat (refine GO ?_; simp -implicitDefEqProofs only [go_sem, setA, intsL]))
  refine .pure _ (show Spec0 Try.prog 53 [intsL cols] _ from c53 cols (by omega)) rfl fun r hq _ => ?_
  subst hq
  (simp -implicitDefEqProofs only [go_sem, setA, intsL]; repeat (refine GO ?_; simp -implicitDefEqProofs only [go_sem, setA, intsL]))
  refine CALL.fam (show SpecF Try.prog 67 [setA z, intsL cols, iA kind, iA col] _ from f67 z cols kind col (by omega) hz (by omega)) rfl 10000 (by simp) fun q a hq => ?_
  obtain ⟨e, rfl, ha⟩ := hq
  have har := groupR_rows ha
  (simp -implicitDefEqProofs only [go_sem, AV.rn, rns, Nat.add_zero, iA, setA, intsL]; repeat (refine GO ?_; simp -implicitDefEqProofs only [go_sem, AV.rn, rns, Nat.add_zero, iA, setA, intsL]))
  refine .pure _ (show Spec0 Try.prog 72 [setA z, setA dz, intsL cols, iA kind, iA col] _ from c72 z dz cols kind col (by omega) hz hd (by omega)) rfl fun r hq _ => ?_
  obtain ⟨b, f, rfl, hbb⟩ := hq
  (simp -implicitDefEqProofs only [go_sem, iA, setA]; repeat (refine GO ?_; simp -implicitDefEqProofs only [go_sem, iA, setA]))
  refine .pure _ (show Spec0 Try.prog 28 [setA z, setA z] _ from s18 z z (by omega) (by omega) (fun t ht => by have := hz t ht; omega)) rfl fun r hq _ => ?_
  obtain ⟨t1, rfl, ht1⟩ := hq
  rw [ht1.2 rfl]
  (simp -implicitDefEqProofs only [go_sem, bA, setA]; repeat (refine GO ?_; simp -implicitDefEqProofs only [go_sem, bA, setA]))
  refine .pure _ (show Spec0 Try.prog 28 [setA dz, setA dz] _ from s18 dz dz (by omega) (by omega) (fun t ht => by have := hd t ht; omega)) rfl fun r hq _ => ?_
  obtain ⟨t2, rfl, ht2⟩ := hq
  rw [ht2.2 rfl]
  (simp -implicitDefEqProofs only [go_sem, bA, setA, intsL]; repeat (refine GO ?_; simp -implicitDefEqProofs only [go_sem, bA, setA, intsL]))
  refine .pure _ (show Spec0 Try.prog 56 [intsL cols, intsL cols] _ from c56 cols (by omega)) rfl fun r hq _ => ?_
  subst hq
  (simp -implicitDefEqProofs only [go_sem, bA, setA, intsL]; repeat (refine GO ?_; simp -implicitDefEqProofs only [go_sem, bA, setA, intsL]))
  refine .pure _ (show Spec0 Try.prog 34 [setA z] _ from s30 z (by omega) (fun t ht => by have := hz t ht; omega)) rfl fun r hq _ => ?_
  obtain ⟨g1, rfl, hg1⟩ := hq
  (simp -implicitDefEqProofs only [go_sem, bA, setA]; repeat (refine GO ?_; simp -implicitDefEqProofs only [go_sem, bA, setA]))
  refine VIF.split (fun h => ?_) (fun h => ?_)
  · have hn : ¬ Good z := fun g => by rw [hg1.2 g] at h; simp at h
    obtain ⟨rfl, rfl⟩ : a = [] ∧ e = 1 := by
      rcases ha with ⟨_, h1, h2, h3⟩ | ⟨h1, _⟩
      · exact ⟨h1, h2.resolve_right fun h4 => hn (h3.1 h4).1⟩
      · exact absurd h1.1 hn
    obtain ⟨rfl, rfl⟩ : b = [] ∧ f = 1 := by
      obtain ⟨now, e', h1, h2⟩ := hbb
      obtain ⟨_, rfl⟩ := addR_bad h1 fun h => hn h.1
      rcases h2 with ⟨_, h3, h4⟩ | ⟨h3, _⟩
      · exact ⟨h3, h4⟩
      · cases h3
    (simp -implicitDefEqProofs only [go_sem]; repeat (refine GO ?_; simp -implicitDefEqProofs only [go_sem]))
    (first | (refine VIF.tt ?_ ?_; (· first | rfl | (simp; done) | (simp; omega))) | (refine VIF.ff ?_ ?_; (· first | rfl | (simp; done) | (simp; omega))))
    (simp -implicitDefEqProofs only [go_sem]; repeat (refine GO ?_; simp -implicitDefEqProofs only [go_sem]))
    (first | (refine VIF.tt ?_ ?_; (· first | rfl | (simp; done) | (simp; omega))) | (refine VIF.ff ?_ ?_; (· first | rfl | (simp; done) | (simp; omega))))
    (simp -implicitDefEqProofs only [go_sem]; repeat (refine GO ?_; simp -implicitDefEqProofs only [go_sem]))
    (first | (refine VIF.tt ?_ ?_; (· first | rfl | (simp; done) | (simp; omega))) | (refine VIF.ff ?_ ?_; (· first | rfl | (simp; done) | (simp; omega))))
    (simp -implicitDefEqProofs only [go_sem]; repeat (refine GO ?_; simp -implicitDefEqProofs only [go_sem]))
    refine .pure _ c69 rfl fun r hq _ => ?_
    subst hq
    (simp -implicitDefEqProofs only [go_sem, bA]; repeat (refine GO ?_; simp -implicitDefEqProofs only [go_sem, bA]))
  · have gz : Good z := hg1.1 (by simpa using h)
    (simp -implicitDefEqProofs only [go_sem, intsL]; repeat (refine GO ?_; simp -implicitDefEqProofs only [go_sem, intsL]))
    refine .pure _ (show Spec0 Try.prog 71 [setA z, intsL cols, iA kind, iA col] _ from c71 z cols kind col gz (by omega) (by omega)) rfl fun r hq _ => ?_
    obtain ⟨w, g, rfl, hw⟩ := hq
    obtain ⟨rfl, rfl⟩ := groupR_ref gz ha hw
    (simp -implicitDefEqProofs only [go_sem, iA, setA]; repeat (refine GO ?_; simp -implicitDefEqProofs only [go_sem, iA, setA]))
    (first | (refine VIF.tt ?_ ?_; (· first | rfl | (simp; done) | (simp; omega))) | (refine VIF.ff ?_ ?_; (· first | rfl | (simp; done) | (simp; omega))))
    (simp -implicitDefEqProofs only [go_sem]; repeat (refine GO ?_; simp -implicitDefEqProofs only [go_sem]))
    refine .lendR (args' := [setA a, setA a]) (s18 a a (by omega) (by omega) (fun t ht => by have := har.2 t ht; omega)) ⟨lent_fam (es := famC 10000 a) (ν := fun i => 10000 + (i + 1)) (tail := []) (by (simp -implicitDefEqProofs only [go_sem]; repeat (refine GO ?_; simp -implicitDefEqProofs only [go_sem]))) (by simp [famC_cells]) (fun i hi => famO_row hi), .same rfl, trivial⟩ (by rintro _ ⟨t, rfl, _⟩; rfl) fun r hq => ?_
    obtain ⟨t3, rfl, ht3⟩ := hq
    rw [ht3.2 rfl]
    (simp -implicitDefEqProofs only [go_sem, bA, setA]; repeat (refine GO ?_; simp -implicitDefEqProofs only [go_sem, bA, setA]))
    refine CALL.takeI (f37 a (by omega) (fun t ht => by have := har.2 t ht; omega)) 10000 (fun i => 10000 + (i + 1)) (fam_nd (l := [10000]) (by decide) (by decide)) (es := famC 10000 a) (by (simp -implicitDefEqProofs only [go_sem]; repeat (refine GO ?_; simp -implicitDefEqProofs only [go_sem]))) rfl (fun i hi => famO_row hi) ⟨famU_mem.2 (by omega), fun i hi => famU_mem.2 (by omega)⟩ ⟨rfl, famW_mem.2 (.inl rfl), trivial⟩ 20000000 ?_ fun r O hq hO => ?_
    · simp [famU_mem]; omega
    subst hq
    simp -implicitDefEqProofs only [go_sem]
    refine TO [] [(0, setA z), (1, setA dz), (2, intsL cols), (3, iA kind), (4, iA col), (11, setA z), (16, setA b), (17, iA f), (18, setA a), (19, iA e), (112, setA dz)] [] [] rfl ?_ ?_
    · (simp -implicitDefEqProofs only [go_sem, setA, iA, intsL]; repeat (refine GO ?_; simp -implicitDefEqProofs only [go_sem, setA, iA, intsL]))
      simp [famU_mem]
    (simp -implicitDefEqProofs only [go_sem, setA, iA, intsL]; repeat (refine GO ?_; simp -implicitDefEqProofs only [go_sem, setA, iA, intsL]))
    refine .pure _ (show Spec0 Try.prog 34 [setA dz] _ from s30 dz (by omega) (fun t ht => by have := hd t ht; omega)) rfl fun r hq _ => ?_
    obtain ⟨g2, rfl, hg2⟩ := hq
    (simp -implicitDefEqProofs only [go_sem, bA, setA]; repeat (refine GO ?_; simp -implicitDefEqProofs only [go_sem, bA, setA]))
    refine VIF.split (fun h2 => ?_) (fun h2 => ?_)
    · have hn : ¬ Good dz := fun g => by rw [hg2.2 g] at h2; simp at h2
      obtain ⟨rfl, rfl⟩ : b = [] ∧ f = 1 := by
        obtain ⟨now, e', h1, h2⟩ := hbb
        obtain ⟨_, rfl⟩ := addR_bad h1 fun h => hn h.2
        rcases h2 with ⟨_, h3, h4⟩ | ⟨h3, _⟩
        · exact ⟨h3, h4⟩
        · cases h3
      (simp -implicitDefEqProofs only [go_sem]; repeat (refine GO ?_; simp -implicitDefEqProofs only [go_sem]))
      (first | (refine VIF.tt ?_ ?_; (· first | rfl | (simp; done) | (simp; omega))) | (refine VIF.ff ?_ ?_; (· first | rfl | (simp; done) | (simp; omega))))
      (simp -implicitDefEqProofs only [go_sem]; repeat (refine GO ?_; simp -implicitDefEqProofs only [go_sem]))
      (first | (refine VIF.tt ?_ ?_; (· first | rfl | (simp; done) | (simp; omega))) | (refine VIF.ff ?_ ?_; (· first | rfl | (simp; done) | (simp; omega))))
      (simp -implicitDefEqProofs only [go_sem]; repeat (refine GO ?_; simp -implicitDefEqProofs only [go_sem]))
      refine .pure _ c69 rfl fun r hq _ => ?_
      subst hq
      (simp -implicitDefEqProofs only [go_sem, bA]; repeat (refine GO ?_; simp -implicitDefEqProofs only [go_sem, bA]))
    have gd : Good dz := hg2.1 (by simpa using h2)
    obtain ⟨s, h, hs, hbb⟩ := hbb
    have hs2 := addR_rows hs
    have hsr := addR_small hs hz hd
    (simp -implicitDefEqProofs only [go_sem]; repeat (refine GO ?_; simp -implicitDefEqProofs only [go_sem]))
    refine .pure _ (show Spec0 Try.prog 38 [setA z, setA dz] _ from c38 z dz (by omega) hz hd) rfl fun r hq _ => ?_
    obtain ⟨s', h', rfl, hs'⟩ := hq
    obtain ⟨rfl, rfl⟩ := addR_same gz gd hs hs'
    (simp -implicitDefEqProofs only [go_sem, setA, iA]; repeat (refine GO ?_; simp -implicitDefEqProofs only [go_sem, setA, iA]))
    refine VIF.split (fun h4 => ?_) (fun h4 => ?_)
    · have h4 : h ≠ 0 := by simpa using h4
      obtain ⟨rfl, rfl⟩ : b = [] ∧ f = h := by
        rcases hbb with ⟨_, h5, h6⟩ | ⟨h5, _⟩
        · exact ⟨h5, h6⟩
        · exact absurd h5 h4
      (simp -implicitDefEqProofs only [go_sem]; repeat (refine GO ?_; simp -implicitDefEqProofs only [go_sem]))
      (first | (refine VIF.tt ?_ ?_; (· first | rfl | (simp; done) | (simp; omega))) | (refine VIF.ff ?_ ?_; (· first | rfl | (simp; done) | (simp; omega))))
      (simp -implicitDefEqProofs only [go_sem]; repeat (refine GO ?_; simp -implicitDefEqProofs only [go_sem]))
      (first | (refine VIF.tt ?_ ?_; (· first | rfl | (simp; done) | (simp; omega))) | (refine VIF.ff ?_ ?_; (· first | rfl | (simp; done) | (simp; omega))))
      (simp -implicitDefEqProofs only [go_sem]; repeat (refine GO ?_; simp -implicitDefEqProofs only [go_sem]))
      refine .pure _ c69 rfl fun r hq _ => ?_
      subst hq
      (simp -implicitDefEqProofs only [go_sem, bA]; repeat (refine GO ?_; simp -implicitDefEqProofs only [go_sem, bA]))
    have h4 : h = 0 := by simpa using h4
    subst h4
    obtain ⟨_, _, _, gs, _⟩ := addR_good hs rfl
    obtain ⟨now, e2, hn, hbb⟩ := hbb.resolve_left (fun h => h.1 rfl) |>.2
    have hnr := groupR_rows hn
    (simp -implicitDefEqProofs only [go_sem, intsL]; repeat (refine GO ?_; simp -implicitDefEqProofs only [go_sem, intsL]))
    refine .pure _ (show Spec0 Try.prog 71 [setA s, intsL cols, iA kind, iA col] _ from c71 s cols kind col gs (by omega) (by omega)) rfl fun r hq _ => ?_
    obtain ⟨now', e2', rfl, hn'⟩ := hq
    obtain ⟨rfl, rfl⟩ := groupR_ref gs hn hn'
    (simp -implicitDefEqProofs only [go_sem, setA, iA]; repeat (refine GO ?_; simp -implicitDefEqProofs only [go_sem, setA, iA]))
    refine VIF.split (fun h4 => ?_) (fun h4 => ?_)
    · have h4 : e2 ≠ 0 := by simpa using h4
      obtain ⟨rfl, rfl⟩ : b = [] ∧ f = e2 := by
        rcases hbb with ⟨_, h5, h6⟩ | ⟨h5, _⟩
        · exact ⟨h5, h6⟩
        · exact absurd h5 h4
      (simp -implicitDefEqProofs only [go_sem]; repeat (refine GO ?_; simp -implicitDefEqProofs only [go_sem]))
      (first | (refine VIF.tt ?_ ?_; (· first | rfl | (simp; done) | (simp; omega))) | (refine VIF.ff ?_ ?_; (· first | rfl | (simp; done) | (simp; omega))))
      (simp -implicitDefEqProofs only [go_sem]; repeat (refine GO ?_; simp -implicitDefEqProofs only [go_sem]))
      (first | (refine VIF.tt ?_ ?_; (· first | rfl | (simp; done) | (simp; omega))) | (refine VIF.ff ?_ ?_; (· first | rfl | (simp; done) | (simp; omega))))
      (simp -implicitDefEqProofs only [go_sem]; repeat (refine GO ?_; simp -implicitDefEqProofs only [go_sem]))
      refine .pure _ c69 rfl fun r hq _ => ?_
      subst hq
      (simp -implicitDefEqProofs only [go_sem, bA]; repeat (refine GO ?_; simp -implicitDefEqProofs only [go_sem, bA]))
    have h4 : e2 = 0 := by simpa using h4
    subst h4
    obtain ⟨a', e3, ha', hbb⟩ := hbb.resolve_left (fun h => h.1 rfl) |>.2
    obtain ⟨rfl, rfl⟩ := groupR_ref gz ha' hw
    (simp -implicitDefEqProofs only [go_sem]; repeat (refine GO ?_; simp -implicitDefEqProofs only [go_sem]))
    refine VIF.split (fun h4 => ?_) (fun h4 => ?_)
    · have h4 : e3 ≠ 0 := by simpa using h4
      obtain ⟨rfl, rfl⟩ : b = [] ∧ f = e3 := by
        rcases hbb with ⟨_, h5, h6⟩ | ⟨h5, _⟩
        · exact ⟨h5, h6⟩
        · exact absurd h5 h4
      (simp -implicitDefEqProofs only [go_sem]; repeat (refine GO ?_; simp -implicitDefEqProofs only [go_sem]))
      (first | (refine VIF.tt ?_ ?_; (· first | rfl | (simp; done) | (simp; omega))) | (refine VIF.ff ?_ ?_; (· first | rfl | (simp; done) | (simp; omega))))
      (simp -implicitDefEqProofs only [go_sem]; repeat (refine GO ?_; simp -implicitDefEqProofs only [go_sem]))
      (first | (refine VIF.tt ?_ ?_; (· first | rfl | (simp; done) | (simp; omega))) | (refine VIF.ff ?_ ?_; (· first | rfl | (simp; done) | (simp; omega))))
      (simp -implicitDefEqProofs only [go_sem]; repeat (refine GO ?_; simp -implicitDefEqProofs only [go_sem]))
      refine .pure _ c69 rfl fun r hq _ => ?_
      subst hq
      (simp -implicitDefEqProofs only [go_sem, bA]; repeat (refine GO ?_; simp -implicitDefEqProofs only [go_sem, bA]))
    have h4 : e3 = 0 := by simpa using h4
    subst h4
    have hm := hbb.resolve_left (fun h => h.1 rfl) |>.2
    obtain ⟨gn, on⟩ := groupR_good hn rfl
    obtain ⟨ga, oa⟩ := groupR_good ha' rfl
    obtain ⟨rfl, _, _, hok, hbl⟩ := minR_fine gn ga on oa hm
    (simp -implicitDefEqProofs only [go_sem]; repeat (refine GO ?_; simp -implicitDefEqProofs only [go_sem]))
    refine .pure _ (show Spec0 Try.prog 39 [setA now, setA a'] _ from c39 now a' (by omega) (fun t ht => by have := hnr.2 t ht; omega) (fun t ht => by have := har.2 t ht; omega) (fun t ht => good_w ga ht)) rfl fun r hq _ => ?_
    obtain ⟨v, k, rfl, hv⟩ := hq
    obtain ⟨rfl, rfl⟩ := minR_same gn ga hm hv
    (simp -implicitDefEqProofs only [go_sem, setA, iA]; repeat (refine GO ?_; simp -implicitDefEqProofs only [go_sem, setA, iA]))
    (first | (refine VIF.tt ?_ ?_; (· first | rfl | (simp; done) | (simp; omega))) | (refine VIF.ff ?_ ?_; (· first | rfl | (simp; done) | (simp; omega))))
    (simp -implicitDefEqProofs only [go_sem]; repeat (refine GO ?_; simp -implicitDefEqProofs only [go_sem]))
    refine .pure _ (show Spec0 Try.prog 28 [setA b, setA b] _ from s18 b b (by omega) (by omega) (fun t ht => by have := okR_len (hok t ht); omega)) rfl fun r hq _ => ?_
    obtain ⟨t5, rfl, ht5⟩ := hq
    rw [ht5.2 rfl]
    (simp -implicitDefEqProofs only [go_sem, bA, setA]; repeat (refine GO ?_; simp -implicitDefEqProofs only [go_sem, bA, setA]))
    refine .pure _ (show Spec0 Try.prog 28 [setA z, setA z] _ from s18 z z (by omega) (by omega) (fun t ht => by have := hz t ht; omega)) rfl fun r hq _ => ?_
    obtain ⟨t6, rfl, ht6⟩ := hq
    rw [ht6.2 rfl]
    (simp -implicitDefEqProofs only [go_sem, bA, setA]; repeat (refine GO ?_; simp -implicitDefEqProofs only [go_sem, bA, setA]))
    refine .pure _ c69 rfl fun r hq _ => ?_
    subst hq
    (simp -implicitDefEqProofs only [go_sem, bA]; repeat (refine GO ?_; simp -implicitDefEqProofs only [go_sem, bA]))
end Yt
