/- Regions: their operations in text order, or in any order. Part of a framework of abstract values and states, over the model, for proofs of functions; it has no conditions of its own. -/
import Derived.Test.YtpipfaegkgakiaaVcJ
set_option linter.all false
/-! Regions: their operations in text order, or in any order. -/
namespace Go.Vc

def Det (h : (AV → Prop) → Prop) : Prop := ∀ K, h K → ∃ v, K v ∧ ∀ K', K' v → h K'

def isIm : AV → Prop
  | .rf .. | .pt .. => False
  | _ => True
def notNl : AV → Prop
  | .nl => False
  | _ => True

theorem hPick_det {a b c : AV} : Det (hPick a b c) := by
  intro K h
  unfold hPick at *
  split at h
  · rename_i c'
    cases c' with
    | true => exact ⟨_, h.1 rfl, fun K' k => ⟨fun _ => k, fun e => by cases e⟩⟩
    | false => exact ⟨_, h.2 rfl, fun K' k => ⟨fun e => by (try cases e), fun _ => k⟩⟩
  · exact h.elim
theorem hUn_det {op : UnOp} {x : AV} : Det (hUn op x) := by
  intro K h
  cases op <;> cases x with
  | pr u => cases u <;> first | exact ⟨_, h, fun K' k => k⟩ | exact False.elim h
  | _ => exact False.elim h
theorem hConv_det {a b : TK} {x : AV} : Det (hConv a b x) := by
  intro K h
  unfold hConv at h; split at h <;> first | exact ⟨_, h, fun K' k => k⟩ | exact h.elim
theorem hNil_det {x : AV} : Det (hNil x) := by
  intro K h
  unfold hNil at h; split at h <;> first | exact ⟨_, h, fun K' k => k⟩ | exact h.elim
theorem hExtract_det {x : AV} {n : Nat} : Det (hExtract x n) := by
  intro K h
  cases x with
  | tu vs =>
    induction vs generalizing n with
    | nil => cases n <;> exact False.elim h
    | cons y r ih => cases n with
      | zero => exact ⟨_, h, fun K' k => k⟩
      | succ n => obtain ⟨v, h1, h2⟩ := ih (n := n) h; exact ⟨v, h1, h2⟩
  | _ => cases n <;> exact False.elim h
theorem hMM_det {b : Bool} {x y : AV} : Det (hMM b x y) := by
  intro K h
  unfold hMM at h; split at h
  · exact ⟨_, h.2, fun K' k => ⟨h.1, k⟩⟩
  · exact h.elim
theorem iBin_det {op : BinOp} {k : IntKind} {x y : Int} : Det (iBin op k x y) := by
  intro K h
  unfold iBin at h; split at h <;> first | exact ⟨_, h, fun K' k => k⟩ | exact ⟨_, h.2, fun K' k => ⟨h.1, k⟩⟩ | exact h.elim
theorem sBin_det {op : BinOp} {x y : ByteArray} : Det (sBin op x y) := by
  intro K h
  unfold sBin at h; split at h <;> first | exact ⟨_, h, fun K' k => k⟩ | exact h.elim
theorem sh_det {op : BinOp} {k : IntKind} {x y : Int} : Det (sh op k x y) := by
  intro K h
  unfold sh at h; split at h <;> first | exact ⟨_, h.2, fun K' k => ⟨h.1, k⟩⟩ | exact h.elim
theorem hBin_det {T : Nat → TI} {t : Nat} {op : BinOp} {x y : AV} (hy : notNl y) : Det (hBin T t op x y) := by
  intro K h
  unfold hBin at h
  split at h
  · exact ⟨_, h.2, fun K' k => ⟨h.1, k⟩⟩
  · exact ⟨_, h.2, fun K' k => ⟨h.1, k⟩⟩
  · exact hy.elim
  · exact hy.elim
  · exact sh_det K h
  · exact sh_det K h
  · obtain ⟨e, hs, h⟩ := h
    obtain ⟨v, g1, g2⟩ := iBin_det K h
    refine ⟨v, g1, fun K' k => ?_⟩
    cases op <;> first | exact ⟨e, hs, g2 K' k⟩ | cases hs
  · obtain ⟨hs, h⟩ := h
    obtain ⟨v, g1, g2⟩ := sBin_det K h
    refine ⟨v, g1, fun K' k => ?_⟩
    cases op <;> first | exact ⟨hs, g2 K' k⟩ | cases hs
  · exact h.elim
theorem one_det {x : List AV} : Det (one x) := by
  intro K h
  unfold one at h; split at h <;> first | exact ⟨_, h, fun K' k => k⟩ | exact h.elim
theorem mkV_det {k : TK} {n : Nat} {cs : List AV} : Det (mkV k n cs) := by
  intro K h
  cases k with
  | struct fs => exact ⟨_, h.2, fun K' k => ⟨h.1, k⟩⟩
  | other => exact False.elim h
  | _ => exact one_det K h
theorem EL_det {es : List (List AV)} {i : Nat} {J : List AV → (AV → Prop) → Prop} (hJ : ∀ cs, Det (J cs)) : Det fun K => EL es i fun cs => J cs K := by
  rintro K ⟨cs, h1, h2⟩
  obtain ⟨v, g1, g2⟩ := hJ cs K h2
  exact ⟨v, g1, fun K' k => ⟨cs, h1, g2 K' k⟩⟩
theorem OB_det {x : Option Ob} {J : Ob → (AV → Prop) → Prop} (hJ : ∀ o, Det (J o)) : Det fun K => OB x fun o => J o K := by
  rintro K ⟨cs, h1, h2⟩
  obtain ⟨v, g1, g2⟩ := hJ cs K h2
  exact ⟨v, g1, fun K' k => ⟨cs, h1, g2 K' k⟩⟩
theorem sTK_det {x : TK} {J : Nat → (AV → Prop) → Prop} (hJ : ∀ e, Det (J e)) : Det fun K => sTK x fun e => J e K := by
  intro K h
  cases x <;> first | exact hJ _ K h | exact False.elim h
theorem and_det {A : Prop} {J : (AV → Prop) → Prop} (hJ : Det J) : Det fun K => A ∧ J K := by
  rintro K ⟨h1, h2⟩
  obtain ⟨v, g1, g2⟩ := hJ K h2
  exact ⟨v, g1, fun K' k => ⟨h1, g2 K' k⟩⟩
theorem at_det (v : AV) : Det fun K => K v := fun _ h => ⟨v, h, fun _ k => k⟩
theorem fAt_det {x : List (Nat × Nat)} {f : Nat} {g : Nat → Nat → AV} : Det fun K => fAt x f fun a b => K (g a b) := by
  intro K h
  induction x generalizing f with
  | nil => exact False.elim h
  | cons y r ih => cases f with
    | zero => exact ⟨_, h, fun K' k => k⟩
    | succ f => exact ih (f := f) h
theorem fTK_det {x : TK} {f : Nat} {g : Nat → Nat → AV} : Det fun K => fTK x f fun a b => K (g a b) := by
  intro K h
  cases x <;> first | exact fAt_det K h | exact False.elim h
theorem hLoad_det {T : Nat → TI} {objs : Nat → Option Ob} {t : Nat} {x : AV} : Det (hLoad T objs t x) := by
  cases x with
  | ro cs off => exact mkV_det
  | pt id i off => exact OB_det fun o => EL_det fun cs => mkV_det
  | _ => intro K h; exact False.elim h
theorem hLoad_im {T : Nat → TI} {objs objs' : Nat → Option Ob} {t : Nat} {x : AV} (h : isIm x) : hLoad T objs t x = hLoad T objs' t x := by
  cases x <;> first | rfl | exact False.elim h
theorem hField_det {T : Nat → TI} {t f : Nat} {x : AV} : Det (hField T t f x) := by
  cases x with
  | ro cs off => exact fTK_det
  | pt id i off => exact fTK_det
  | _ => intro K h; exact False.elim h
theorem hIdx_det {T : Nat → TI} {objs : Nat → Option Ob} {t : Nat} {x y : AV} : Det (hIdx T objs t x y) := by
  intro K h
  unfold hIdx at h
  split at h
  · exact (sTK_det fun e => and_det (EL_det fun cs => at_det _)) K h
  · exact (sTK_det fun e => and_det (OB_det fun cs => and_det (at_det _))) K h
  · exact h.elim
theorem hIdx_im {T : Nat → TI} {objs objs' : Nat → Option Ob} {t : Nat} {x y : AV} (h : isIm x) : hIdx T objs t x y = hIdx T objs' t x y := by
  cases x with
  | rf a b c => exact False.elim h
  | pt a b c => exact False.elim h
  | _ => cases y with
    | pr u => cases u <;> rfl
    | _ => rfl
theorem cutA_det {T : Nat → TI} {t : Nat} {l h : Int} {x : AV} : Det (cutA T t l h x) := by
  intro K hh
  unfold cutA at hh
  split at hh
  · exact (and_det (at_det _)) K hh
  · exact (sTK_det fun e => and_det (at_det _)) K hh
  · exact (sTK_det fun e => at_det _) K hh
  · exact (and_det (at_det _)) K hh
  · exact hh.elim
theorem lenI_det {x : AV} {J : Int → (AV → Prop) → Prop} (hJ : ∀ n, Det (J n)) : Det fun K => lenI x fun n => J n K := by
  intro K h
  cases x with
  | pr u => cases u <;> first | exact hJ _ K h | exact False.elim h
  | _ => first | exact hJ _ K h | exact False.elim h
theorem optI_det {x : Option AV} {d : Int} {J : Int → (AV → Prop) → Prop} (hJ : ∀ n, Det (J n)) : Det fun K => optI x d fun n => J n K := by
  intro K h
  cases x with
  | none => exact hJ _ K h
  | some x => cases x with
    | pr u => cases u <;> first | exact hJ _ K h | exact False.elim h
    | _ => exact False.elim h
theorem hSlice_det {T : Nat → TI} {objs : Nat → Option Ob} {t : Nat} {x : AV} {lo hi : Option AV} : Det (hSlice T objs t x lo hi) :=
  lenI_det fun _ => optI_det fun _ => optI_det fun _ => and_det (and_det cutA_det)
theorem hSlice_im {T : Nat → TI} {objs objs' : Nat → Option Ob} {t : Nat} {x : AV} {lo hi : Option AV} (h : isIm x) : hSlice T objs t x lo hi = hSlice T objs' t x lo hi := by
  cases x <;> first | rfl | exact False.elim h
theorem cellsOf_one {x : AV} : ∃ g : Option (List AV), ∀ K, cellsOf x K ↔ ∃ cs, g = some cs ∧ K cs := by
  cases x with
  | un => exact ⟨none, fun K => by simp [cellsOf]⟩
  | tu v => exact ⟨none, fun K => by simp [cellsOf]⟩
  | ag cs => exact ⟨some cs, fun K => by simp [cellsOf]⟩
  | pr v => exact ⟨some [.pr v], fun K => by simp [cellsOf]⟩
  | nl => exact ⟨some [.nl], fun K => by simp [cellsOf]⟩
  | im a b => exact ⟨some [.im a b], fun K => by simp [cellsOf]⟩
  | rf a b c => exact ⟨some [.rf a b c], fun K => by simp [cellsOf]⟩
  | pt a b c => exact ⟨some [.pt a b c], fun K => by simp [cellsOf]⟩
  | ro a b => exact ⟨some [.ro a b], fun K => by simp [cellsOf]⟩
  | fn a b => exact ⟨some [.fn a b], fun K => by simp [cellsOf]⟩
theorem fAt_one {x : List (Nat × Nat)} {f : Nat} {K : Nat → Nat → Prop} : fAt x f K ↔ ∃ p, x[f]? = some p ∧ K p.1 p.2 := by
  induction x generalizing f with
  | nil => simp [fAt]
  | cons y r ih => cases f with
    | zero => obtain ⟨a, b⟩ := y; simp [fAt]
    | succ f => simpa [fAt] using ih
theorem fill_det {fs : List (Nat × Nat)} {ps : List (Nat × AV)} {cs : List AV} : Det fun K => fill fs cs ps fun x => K (.ag x) := by
  induction ps generalizing cs with
  | nil => exact at_det _
  | cons p r ih =>
    intro K h
    obtain ⟨i, v⟩ := p
    obtain ⟨g, hg⟩ := cellsOf_one (x := v)
    simp only [fill, hg, fAt_one] at h
    obtain ⟨new, h1, q, h2, h3, h4⟩ := h
    obtain ⟨u, g1, g2⟩ := ih K h4
    refine ⟨u, g1, fun K' k => ?_⟩
    simp only [fill, hg, fAt_one]
    exact ⟨new, h1, q, h2, h3, g2 K' k⟩
theorem hBuild_det {k : TK} {z : List AV} {ps : List (Nat × AV)} : Det (hBuild k z ps) := by
  intro K h
  cases k <;> first | exact fill_det K h | exact False.elim h

/-- An operation that comes to one value, whenever it is done. -/
def simple : Op → Bool
  | .move _ | .assign _ | .pick .. | .unOp .. | .convert .. | .load .. | .build .. | .fieldAddr .. | .indexAddr .. | .nilCheck _ | .extract .. | .binOp .. => true
  | .slice _ _ _ _ none => true
  | .makeFunc (.func _) _ _ => true
  | .call { callee := .builtin .len, .. } | .call { callee := .builtin .min, .. } | .call { callee := .builtin .max, .. } => true
  | _ => false
def reads : Op → Bool
  | .load .. | .indexAddr .. | .slice .. => true
  | _ => false
/-- What must hold that it may be done ahead (im: while objects may turn). -/
def firstOk (st : St) (im : Bool) : Op → Prop
  | .binOp _ _ _ y _ => notNl (st.ev y)
  | .load _ x | .indexAddr _ x _ | .slice _ x _ _ _ => im = true → isIm (st.ev x)
  | _ => True

theorem evs_same {st s : St} {l : List Operand} (h : ∀ x ∈ l, s.ev x = st.ev x) : evs s l = evs st l := by
  induction l with
  | nil => rfl
  | cons x r ih => simp only [evs]; rw [h x (by simp), ih fun y hy => h y (by simp [hy])]
theorem evps_same {st s : St} {l : List (Nat × Operand)} (h : ∀ x ∈ l.map (·.2), s.ev x = st.ev x) : evps s l = evps st l := by
  induction l with
  | nil => rfl
  | cons x r ih => simp only [evps]; rw [h x.2 (by simp), ih fun y hy => h y (List.mem_cons_of_mem _ hy)]
theorem evo_same {st s : St} {x : Option Operand} (h : ∀ y, x = some y → s.ev y = st.ev y) : evo s x = evo st x := by
  cases x with
  | none => rfl
  | some x => simp only [evo]; rw [h x rfl]

theorem simple_spec {P : Program} {T : Nat → TI} {st : St} {d : Option Nat} {op : Op} {im : Bool} {K : St → Prop} (hs : simple op = true) (hf : firstOk st im op) (h : evOp P T st d op K) :
    ∃ v, K (st.put d v) ∧ ∀ s, (∀ x ∈ op.operands, s.ev x = st.ev x) → (im = true ∨ reads op = false ∨ s.objs = st.objs) → firstOk s im op ∧ ∀ K' : St → Prop, K' (s.put d v) → evOp P T s d op K' := by
  have use : ∀ {J : St → (AV → Prop) → Prop}, Det (J st) → (J st fun v => K (st.put d v)) → (∀ s, (∀ x ∈ op.operands, s.ev x = st.ev x) → (im = true ∨ reads op = false ∨ s.objs = st.objs) → firstOk s im op ∧ J s = J st ∧ ∀ K' : St → Prop, (J s fun v => K' (s.put d v)) → evOp P T s d op K') →
      ∃ v, K (st.put d v) ∧ ∀ s, (∀ x ∈ op.operands, s.ev x = st.ev x) → (im = true ∨ reads op = false ∨ s.objs = st.objs) → firstOk s im op ∧ ∀ K' : St → Prop, K' (s.put d v) → evOp P T s d op K' := by
    intro J hd hj hx
    obtain ⟨v, h1, h2⟩ := hd _ hj
    refine ⟨v, h1, fun s hs ho => ?_⟩
    obtain ⟨g1, g2, g3⟩ := hx s hs ho
    exact ⟨g1, fun K' k => g3 K' (by rw [g2]; exact h2 (fun v => K' (s.put d v)) k)⟩
  cases op with
  | move x => exact use (J := fun s K => K (s.ev x)) (at_det _) h fun s hx ho => ⟨trivial, by rw [hx x (by simp [Op.operands])], fun K' k => k⟩
  | assign x => exact use (J := fun s K => K (s.ev x)) (at_det _) h fun s hx ho => ⟨trivial, by rw [hx x (by simp [Op.operands])], fun K' k => k⟩
  | pick c a b => exact use (J := fun s => hPick (s.ev c) (s.ev a) (s.ev b)) hPick_det h fun s hx ho => ⟨trivial, by rw [hx c (by simp [Op.operands]), hx a (by simp [Op.operands]), hx b (by simp [Op.operands])], fun K' k => k⟩
  | binOp op t x y yt =>
    exact use (J := fun s => hBin T t op (s.ev x) (s.ev y)) (hBin_det hf) h fun s hx ho => ⟨by simp only [firstOk]; rw [hx y (by simp [Op.operands])]; exact hf, by rw [hx x (by simp [Op.operands]), hx y (by simp [Op.operands])], fun K' k => k⟩
  | unOp op t x => exact use (J := fun s => hUn op (s.ev x)) hUn_det h fun s hx ho => ⟨trivial, by rw [hx x (by simp [Op.operands])], fun K' k => k⟩
  | convert a b x => exact use (J := fun s => hConv (T a).k (T b).k (s.ev x)) hConv_det h fun s hx ho => ⟨trivial, by rw [hx x (by simp [Op.operands])], fun K' k => k⟩
  | load t x =>
    exact use (J := fun s => hLoad T s.objs t (s.ev x)) hLoad_det h fun s hx ho => by
      have e := hx x (by simp [Op.operands])
      refine ⟨by simp only [firstOk]; rw [e]; exact hf, ?_, fun K' k => k⟩
      rw [e]
      rcases ho with ho | ho | ho
      · exact hLoad_im (hf ho)
      · cases ho
      · rw [ho]
  | indexAddr t x y =>
    exact use (J := fun s => hIdx T s.objs t (s.ev x) (s.ev y)) hIdx_det h fun s hx ho => by
      have e := hx x (by simp [Op.operands])
      refine ⟨by simp only [firstOk]; rw [e]; exact hf, ?_, fun K' k => k⟩
      rw [e, hx y (by simp [Op.operands])]
      rcases ho with ho | ho | ho
      · exact hIdx_im (hf ho)
      · cases ho
      · rw [ho]
  | slice t x lo hi mx =>
    cases mx with
    | some _ => cases hs
    | none =>
      exact use (J := fun s => hSlice T s.objs t (s.ev x) (evo s lo) (evo s hi)) hSlice_det h fun s hx ho => by
        have e := hx x (by simp [Op.operands])
        refine ⟨by simp only [firstOk]; rw [e]; exact hf, ?_, fun K' k => k⟩
        rw [e, evo_same fun y hy => hx y (by subst hy; simp [Op.operands]), evo_same fun y hy => hx y (by subst hy; simp [Op.operands])]
        rcases ho with ho | ho | ho
        · exact hSlice_im (hf ho)
        · cases ho
        · rw [ho]
  | build t ps => exact use (J := fun s => hBuild (T t).k (T t).zero (evps s ps.toList)) hBuild_det h fun s hx ho => ⟨trivial, by rw [evps_same fun y hy => hx y (by simpa [Op.operands] using hy)], fun K' k => k⟩
  | fieldAddr t x f => exact use (J := fun s => hField T t f (s.ev x)) hField_det h fun s hx ho => ⟨trivial, by rw [hx x (by simp [Op.operands])], fun K' k => k⟩
  | nilCheck x => exact use (J := fun s => hNil (s.ev x)) hNil_det h fun s hx ho => ⟨trivial, by rw [hx x (by simp [Op.operands])], fun K' k => k⟩
  | extract x n => exact use (J := fun s => hExtract (s.ev x) n) hExtract_det h fun s hx ho => ⟨trivial, by rw [hx x (by simp [Op.operands])], fun K' k => k⟩
  | makeFunc fn first caps =>
    cases fn with
    | func f =>
      exact use (J := fun s K => first.toList = [] ∧ K (.fn f (evs s caps.toList))) (and_det (at_det _)) h fun s hx ho => ⟨trivial, by
        rw [evs_same fun y hy => hx y (by simp only [Op.operands, Array.mem_append]; exact .inr (Array.mem_toList_iff.1 hy))], fun K' k => k⟩
    | _ => cases hs
  | call c =>
    obtain ⟨callee, args, ats⟩ := c
    cases callee with
    | value f => cases hs
    | invoke r mm => cases hs
    | builtin b =>
      have hJ : ∀ s : St, (∀ x ∈ (Op.call { callee := .builtin b, args := args, argTypes := ats }).operands, s.ev x = st.ev x) → evs s args.toList = evs st args.toList := fun s hx =>
        evs_same fun y hy => hx y (by simp only [Op.operands, Call.operands, Array.mem_append]; exact .inr (Array.mem_toList_iff.1 hy))
      cases b with
      | len =>
        simp only [evOp] at h
        generalize hal : evs st args.toList = al at h
        match al, hal, h with
        | [x], hal, h =>
          exact use (J := fun s K => (match ats.toList with | [t] => lenOk (T t).k x | _ => False) ∧ lenI x fun n => K (.pr (.int .i64 n))) (and_det (lenI_det fun _ => at_det _)) h
            fun s hx ho => ⟨trivial, rfl, fun K' k => by simp only [evOp]; rw [hJ s hx, hal]; exact k⟩
        | [], hal, h => exact False.elim h
        | _ :: _ :: _, hal, h => exact False.elim h
      | min =>
        simp only [evOp] at h
        generalize hal : evs st args.toList = al at h
        match al, hal, h with
        | [x, y], hal, h => exact use (J := fun s => hMM false x y) hMM_det h fun s hx ho => ⟨trivial, rfl, fun K' k => by simp only [evOp]; rw [hJ s hx, hal]; exact k⟩
        | [], hal, h => exact False.elim h
        | [_], hal, h => exact False.elim h
        | _ :: _ :: _ :: _, hal, h => exact False.elim h
      | max =>
        simp only [evOp] at h
        generalize hal : evs st args.toList = al at h
        match al, hal, h with
        | [x, y], hal, h => exact use (J := fun s => hMM true x y) hMM_det h fun s hx ho => ⟨trivial, rfl, fun K' k => by simp only [evOp]; rw [hJ s hx, hal]; exact k⟩
        | [], hal, h => exact False.elim h
        | [_], hal, h => exact False.elim h
        | _ :: _ :: _ :: _, hal, h => exact False.elim h
      | _ => cases hs
  | _ => cases hs
end Go.Vc
