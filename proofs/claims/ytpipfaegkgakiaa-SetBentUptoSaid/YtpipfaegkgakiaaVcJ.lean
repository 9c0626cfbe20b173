/- Operations in another order. Part of a framework of abstract values and states, over the model, for proofs of functions; it has no conditions of its own. -/
import Derived.Test.YtpipfaegkgakiaaVcI
set_option linter.all false
/-! Operations in another order. -/
namespace Go.Vc

-- K may be made weaker

theorem VIF.mono {b : Bool} {A B A' B' : Prop} (h : VIF b A B) (ma : A → A') (mb : B → B') : VIF b A' B' := ⟨fun x => ma (h.1 x), fun x => mb (h.2 x)⟩

section
variable {K K' : AV → Prop}
theorem hPick_mono {a b c : AV} (m : ∀ v, K v → K' v) (h : hPick a b c K) : hPick a b c K' := by
  unfold hPick at *; split at h
  · exact h.mono (m _) (m _)
  · exact h
theorem hUn_mono {op : UnOp} {x : AV} (m : ∀ v, K v → K' v) (h : hUn op x K) : hUn op x K' := by
  unfold hUn at *; split at h <;> first | exact m _ h | exact h
theorem hConv_mono {a b : TK} {x : AV} (m : ∀ v, K v → K' v) (h : hConv a b x K) : hConv a b x K' := by
  unfold hConv at *; split at h <;> first | exact m _ h | exact h
theorem hNil_mono {x : AV} (m : ∀ v, K v → K' v) (h : hNil x K) : hNil x K' := by
  unfold hNil at *; split at h <;> first | exact m _ h | exact h
theorem hExtract_mono {x : AV} {n : Nat} (m : ∀ v, K v → K' v) (h : hExtract x n K) : hExtract x n K' := by
  cases x with
  | tu vs =>
    induction vs generalizing n with
    | nil => cases n <;> exact h
    | cons y r ih => cases n with
      | zero => exact m _ h
      | succ n => exact ih (n := n) h
  | _ => cases n <;> exact h
theorem hMM_mono {b : Bool} {x y : AV} (m : ∀ v, K v → K' v) (h : hMM b x y K) : hMM b x y K' := by
  unfold hMM at *; split at h
  · exact ⟨h.1, m _ h.2⟩
  · exact h
theorem iBin_mono {op : BinOp} {k : IntKind} {x y : Int} (m : ∀ v, K v → K' v) (h : iBin op k x y K) : iBin op k x y K' := by
  unfold iBin at *; split at h <;> first | exact m _ h | exact ⟨h.1, m _ h.2⟩ | exact h
theorem sBin_mono {op : BinOp} {x y : ByteArray} (m : ∀ v, K v → K' v) (h : sBin op x y K) : sBin op x y K' := by
  unfold sBin at *; split at h <;> first | exact m _ h | exact h
theorem nBin_mono {b : Bool} {x : AV} (m : ∀ v, K v → K' v) (h : nBin b x K) : nBin b x K' := by
  unfold nBin at *; split at h <;> first | exact m _ h | exact fun b hb => m _ (h b hb) | exact h
theorem sh_mono {op : BinOp} {k : IntKind} {x y : Int} (m : ∀ v, K v → K' v) (h : sh op k x y K) : sh op k x y K' := by
  unfold sh at *; split at h <;> first | exact ⟨h.1, m _ h.2⟩ | exact h
theorem hBin_mono {T : Nat → TI} {t : Nat} {op : BinOp} {x y : AV} (m : ∀ v, K v → K' v) (h : hBin T t op x y K) : hBin T t op x y K' := by
  unfold hBin at *; split at h <;> first | exact ⟨h.1, m _ h.2⟩ | exact ⟨h.1, nBin_mono m h.2⟩ | exact sh_mono m h | exact ⟨h.1, h.2.1, iBin_mono m h.2.2⟩ | exact ⟨h.1, sBin_mono m h.2⟩ | exact h
theorem one_mono {x : List AV} (m : ∀ v, K v → K' v) (h : one x K) : one x K' := by
  unfold one at *; split at h <;> first | exact m _ h | exact h
theorem mkV_mono {k : TK} {n : Nat} {cs : List AV} (m : ∀ v, K v → K' v) (h : mkV k n cs K) : mkV k n cs K' := by
  unfold mkV at *; split at h <;> first | exact ⟨h.1, m _ h.2⟩ | exact one_mono m h | exact h
theorem EL_mono {es : List (List AV)} {i : Nat} {J J' : List AV → Prop} (m : ∀ v, J v → J' v) (h : EL es i J) : EL es i J' := let ⟨a, b, c⟩ := h; ⟨a, b, m _ c⟩
theorem OB_mono {x : Option Ob} {J J' : Ob → Prop} (m : ∀ v, J v → J' v) (h : OB x J) : OB x J' := let ⟨a, b, c⟩ := h; ⟨a, b, m _ c⟩
theorem hLoad_mono {T : Nat → TI} {objs : Nat → Option Ob} {t : Nat} {x : AV} (m : ∀ v, K v → K' v) (h : hLoad T objs t x K) : hLoad T objs t x K' := by
  unfold hLoad at *; split at h
  · exact mkV_mono m h
  · exact OB_mono (fun o => EL_mono fun cs => mkV_mono m) h
  · exact h
theorem fAt_mono {fs : List (Nat × Nat)} {f : Nat} {J J' : Nat → Nat → Prop} (m : ∀ a b, J a b → J' a b) (h : fAt fs f J) : fAt fs f J' := by
  induction fs generalizing f with
  | nil => exact h
  | cons x r ih => cases f with
    | zero => exact m _ _ h
    | succ f => exact ih (f := f) h
theorem fTK_mono {k : TK} {f : Nat} {J J' : Nat → Nat → Prop} (m : ∀ a b, J a b → J' a b) (h : fTK k f J) : fTK k f J' := by
  unfold fTK at *; split at h <;> first | exact fAt_mono m h | exact h
theorem sTK_mono {k : TK} {J J' : Nat → Prop} (m : ∀ a, J a → J' a) (h : sTK k J) : sTK k J' := by
  unfold sTK at *; split at h <;> first | exact m _ h | exact h
theorem hField_mono {T : Nat → TI} {t f : Nat} {x : AV} (m : ∀ v, K v → K' v) (h : hField T t f x K) : hField T t f x K' := by
  unfold hField at *; split at h <;> first | exact fTK_mono (fun _ _ => m _) h | exact h
theorem hIdx_mono {T : Nat → TI} {objs : Nat → Option Ob} {t : Nat} {x y : AV} (m : ∀ v, K v → K' v) (h : hIdx T objs t x y K) : hIdx T objs t x y K' := by
  unfold hIdx at *; split at h
  · exact sTK_mono (fun e h => ⟨h.1, EL_mono (fun _ => m _) h.2⟩) h
  · exact sTK_mono (fun e h => ⟨h.1, OB_mono (fun _ h => ⟨h.1, m _ h.2⟩) h.2⟩) h
  · exact h
theorem lenI_mono {x : AV} {J J' : Int → Prop} (m : ∀ v, J v → J' v) (h : lenI x J) : lenI x J' := by
  unfold lenI at *; split at h <;> first | exact m _ h | exact h
theorem optI_mono {x : Option AV} {d : Int} {J J' : Int → Prop} (m : ∀ v, J v → J' v) (h : optI x d J) : optI x d J' := by
  unfold optI at *; split at h <;> first | exact m _ h | exact h
theorem cutA_mono {T : Nat → TI} {t : Nat} {l h : Int} {x : AV} (m : ∀ v, K v → K' v) (hh : cutA T t l h x K) : cutA T t l h x K' := by
  unfold cutA at *; split at hh
  · exact ⟨hh.1, m _ hh.2⟩
  · exact sTK_mono (fun e h => ⟨h.1, m _ h.2⟩) hh
  · exact sTK_mono (fun e h => m _ h) hh
  · exact ⟨hh.1, m _ hh.2⟩
  · exact hh
theorem hSlice_mono {T : Nat → TI} {objs : Nat → Option Ob} {t : Nat} {x : AV} {lo hi : Option AV} (m : ∀ v, K v → K' v) (h : hSlice T objs t x lo hi K) : hSlice T objs t x lo hi K' :=
  lenI_mono (fun _ => optI_mono fun _ => optI_mono fun _ h => ⟨h.1, h.2.1, cutA_mono m h.2.2⟩) h
theorem cellsOf_mono {x : AV} {J J' : List AV → Prop} (m : ∀ v, J v → J' v) (h : cellsOf x J) : cellsOf x J' := by
  unfold cellsOf at *; split at h <;> first | exact m _ h | exact h
theorem fill_mono {fs : List (Nat × Nat)} {ps : List (Nat × AV)} {cs : List AV} {J J' : List AV → Prop} (m : ∀ v, J v → J' v) (h : fill fs cs ps J) : fill fs cs ps J' := by
  induction ps generalizing cs with
  | nil => exact m _ h
  | cons p r ih => exact cellsOf_mono (fun _ => fAt_mono fun _ _ h => ⟨h.1, ih h.2⟩) h
theorem hBuild_mono {k : TK} {z : List AV} {ps : List (Nat × AV)} (m : ∀ v, K v → K' v) (h : hBuild k z ps K) : hBuild k z ps K' := by
  unfold hBuild at *; split at h <;> first | exact fill_mono (fun _ => m _) h | exact h
theorem lit_mono {sz n : Nat} {ps : List (Nat × AV)} {J J' : List (List AV) → Prop} (m : ∀ v, J v → J' v) (h : lit sz n ps J) : lit sz n ps J' := by
  induction ps generalizing n J J' with
  | nil => exact m _ h
  | cons p r ih => exact ⟨h.1, cellsOf_mono (fun _ h => ⟨h.1, ih (fun _ => m _) h.2⟩) h.2⟩
theorem appSrc_mono {objs : Nat → Option Ob} {sz : Nat} {x : AV} {J J' : List (List AV) → Prop} (m : ∀ v, J v → J' v) (h : appSrc objs sz x J) : appSrc objs sz x J' := by
  unfold appSrc at *; split at h
  · exact m _ h
  · exact ⟨h.1, m _ h.2⟩
  · exact OB_mono (fun _ h => ⟨h.1, m _ h.2⟩) h
  · exact h
end

-- What a step turns in a state

/-- The state, with slots, objects and names put in. -/
def St.to (st : St) (d : Option Nat) (v : AV) (O : Nat → Option Ob) (U : List Nat) : St := { regs := (st.put d v).regs, objs := O, used := U }

theorem put_comm (st : St) {x y : Option Nat} (v u : AV) (h : ∀ d, x = some d → y ≠ some d) : (st.put x v).put y u = (st.put y u).put x v := by
  cases x with
  | none => rfl
  | some d =>
    cases y with
    | none => rfl
    | some e =>
      have hne : d ≠ e := fun he => h d rfl (he ▸ rfl)
      simp only [St.put, St.mk.injEq, and_true]
      funext t
      simp only [upd]
      split <;> split <;> first | rfl | (exfalso; omega)

theorem put_objs (st : St) (d : Option Nat) (v : AV) : (st.put d v).objs = st.objs := by cases d <;> rfl
theorem put_used (st : St) (d : Option Nat) (v : AV) : (st.put d v).used = st.used := by cases d <;> rfl

theorem to_comm (st : St) {x y : Option Nat} (v u : AV) (O : Nat → Option Ob) (U : List Nat) (h : ∀ d, x = some d → y ≠ some d) : (st.put x v).to y u O U = (st.to y u O U).put x v := by
  have := put_comm st v u h
  unfold St.to
  rw [this]
  cases x <;> rfl

/-- Does the operation leave all objects as they are, and make none? -/
def calm : Op → Bool
  | .store .. | .alloc .. | .box .. | .buildSlice .. | .makeSlice .. => false
  | .call { callee := .builtin .append, .. } => false
  | .call { callee := .builtin _, .. } => true
  | .call _ => false
  | _ => true

theorem CALL.mono {P : Program} {f : Nat} {args : List AV} {st : St} {d : Option Nat} {K K' : St → Prop} (m : ∀ s, K s → K' s) (h : CALL P f args st d K) : CALL P f args st d K' := by
  cases h with
  | pure R h ha k => exact .pure R h ha fun r h1 h2 => m _ (k r h1 h2)
  | make x R h hd hx ha k => exact .make x R h hd hx ha fun r o h1 h2 => m _ (k r o h1 h2)
  | obj id o R args' h ho hl h0 ha k => exact .obj id o R args' h ho hl h0 ha fun r o' h1 h2 h3 => m _ (k r o' h1 h2 h3)
  | lend R h hl k hf => exact .lend R h hl (fun r h1 => m _ (k r h1)) hf

/-- A call hangs on the state's objects and names alone. -/
theorem CALL.put {P : Program} {f : Nat} {args : List AV} {st : St} {i d : Option Nat} {v : AV} {K : St → Prop} (hne : ∀ x, i = some x → d ≠ some x) (h : CALL P f args (st.put i v) d K) :
    CALL P f args st d (fun s => (∃ u O U, s = st.to d u O U) ∧ K (s.put i v)) := by
  have pm : ∀ r, K ((st.put i v).put d r) → (∃ u O U, st.put d r = st.to d u O U) ∧ K ((st.put d r).put i v) := fun r hk => by
    refine ⟨⟨r, st.objs, st.used, by cases d <;> rfl⟩, ?_⟩
    rw [← put_comm st v r hne]; exact hk
  have tm : ∀ r O U, K ((st.put i v).to d r O U) → (∃ u O' U', st.to d r O U = st.to d u O' U') ∧ K ((st.to d r O U).put i v) := fun r O U hk => by
    refine ⟨⟨r, O, U, rfl⟩, ?_⟩
    rw [← to_comm st v r O U hne]; exact hk
  cases h with
  | pure R h ha k => exact .pure R h ha fun r h1 h2 => pm _ (k r h1 h2)
  | make x R h hd hx ha k =>
    subst hd
    rw [put_used] at hx
    refine .make x R h rfl hx ha fun r o h1 h2 => ?_
    have := k r o h1 h2
    rw [put_objs, put_used] at this
    exact tm _ _ _ this
  | obj id o R args' h ho hl h0 ha k =>
    rw [put_objs] at ho
    refine .obj id o R args' h ho hl h0 ha fun r o' h1 h2 h3 => ?_
    have := k r o' h1 h2 h3
    rw [put_objs] at this
    have e : ({ (st.put i v).put d r with objs := upd st.objs id (some o') } : St) = (st.put i v).to d r (upd st.objs id (some o')) st.used := by cases d <;> cases i <;> rfl
    have e' : ({ st.put d r with objs := upd st.objs id (some o') } : St) = st.to d r (upd st.objs id (some o')) st.used := by cases d <;> rfl
    rw [e] at this; rw [e']
    exact tm _ _ _ this
  | lend R h hl k hf =>
    rw [put_objs] at h hl
    exact .lend R h hl (fun r h1 => pm _ (k r h1)) hf

theorem ev_put {st : St} {i : Option Nat} {v : AV} {x : Operand} (h : ∀ t, i = some t → x ≠ .tmp t) : (st.put i v).ev x = st.ev x := by
  cases i with
  | none => rfl
  | some t =>
    cases x with
    | tmp u => 
      have : t ≠ u := fun e => h t rfl (e ▸ rfl)
      simp [St.put, St.ev, upd, this]
    | _ => rfl

theorem evs_put {st : St} {i : Option Nat} {v : AV} {l : List Operand} (h : ∀ t, i = some t → .tmp t ∉ l) : evs (st.put i v) l = evs st l := by
  induction l with
  | nil => rfl
  | cons x r ih =>
    simp only [evs]
    rw [ev_put fun t ht e => h t ht (by simp [e]), ih fun t ht hm => h t ht (by simp [hm])]

theorem evps_put {st : St} {i : Option Nat} {v : AV} {l : List (Nat × Operand)} (h : ∀ t, i = some t → .tmp t ∉ l.map (·.2)) : evps (st.put i v) l = evps st l := by
  induction l with
  | nil => rfl
  | cons x r ih =>
    simp only [evps]
    rw [ev_put fun t ht e => h t ht (by simp [e]), ih fun t ht hm => h t ht (List.mem_cons_of_mem _ hm)]

theorem evo_put {st : St} {i : Option Nat} {v : AV} {x : Option Operand} (h : ∀ t, i = some t → x ≠ some (.tmp t)) : evo (st.put i v) x = evo st x := by
  cases x with
  | none => rfl
  | some x => simp only [evo]; rw [ev_put fun t ht e => h t ht (by rw [e])]

/-- What an operation turns. -/
def After (st : St) (d : Option Nat) (op : Op) (s : St) : Prop := ∃ u O U, s = st.to d u O U ∧ (calm op = true → O = st.objs ∧ U = st.used)

theorem evOp_put {P : Program} {T : Nat → TI} {st : St} {i d : Option Nat} {v : AV} {op : Op} {K K' : St → Prop} (hi : ∀ t, i = some t → .tmp t ∉ op.operands) (hne : ∀ x, i = some x → d ≠ some x)
    (m : ∀ s, After st d op s → K (s.put i v) → K' s) (h : evOp P T (st.put i v) d op K) : evOp P T st d op K' := by
  have vm : ∀ u, K ((st.put i v).put d u) → K' (st.put d u) := fun u hk =>
    m _ ⟨u, st.objs, st.used, by cases d <;> rfl, fun _ => ⟨rfl, rfl⟩⟩ (by rw [← put_comm st v u hne]; exact hk)
  have tm : ∀ u O U, calm op = false → K ((st.put i v).to d u O U) → K' (st.to d u O U) := fun u O U hc hk =>
    m _ ⟨u, O, U, rfl, fun h => by rw [hc] at h; cases h⟩ (by rw [← to_comm st v u O U hne]; exact hk)
  have hI : ∀ x, (x ∈ op.operands) → ∀ t, i = some t → x ≠ .tmp t := fun x hx t ht e => hi t ht (e ▸ hx)
  cases op with
  | move x => simp only [evOp] at *; rw [ev_put (hI x (by simp [Op.operands]))] at h; exact vm _ h
  | assign x => simp only [evOp] at *; rw [ev_put (hI x (by simp [Op.operands]))] at h; exact vm _ h
  | pick c a b =>
    simp only [evOp] at *
    rw [ev_put (hI c (by simp [Op.operands])), ev_put (hI a (by simp [Op.operands])), ev_put (hI b (by simp [Op.operands]))] at h
    exact hPick_mono vm h
  | binOp op t x y yt =>
    simp only [evOp] at *
    rw [ev_put (hI x (by simp [Op.operands])), ev_put (hI y (by simp [Op.operands]))] at h
    exact hBin_mono vm h
  | unOp op t x => simp only [evOp] at *; rw [ev_put (hI x (by simp [Op.operands]))] at h; exact hUn_mono vm h
  | convert a b x => simp only [evOp] at *; rw [ev_put (hI x (by simp [Op.operands]))] at h; exact hConv_mono vm h
  | load t x => simp only [evOp] at *; rw [ev_put (hI x (by simp [Op.operands])), put_objs] at h; exact hLoad_mono vm h
  | store t x y =>
    simp only [evOp] at *
    rw [ev_put (hI x (by simp [Op.operands])), ev_put (hI y (by simp [Op.operands]))] at h
    obtain ⟨rfl, h⟩ := h
    refine ⟨rfl, ?_⟩
    generalize st.ev x = xv at h ⊢
    unfold hStore at *
    split at h
    · rw [put_objs] at h
      refine OB_mono (fun o => EL_mono fun cs => cellsOf_mono fun new h => ⟨h.1, ?_⟩) h
      have := h.2
      have e : ∀ O, ({ st.put i v with objs := O } : St) = (st.put i v).to none .un O st.used := fun O => by cases i <;> rfl
      rw [e] at this
      exact tm _ _ _ rfl this
    · exact h
  | alloc t =>
    simp only [evOp] at *
    refine ⟨h.1, ?_⟩
    have h := h.2
    unfold newBox at *
    cases d with
    | none => exact h
    | some d => simp only [put_objs, put_used] at h ⊢; exact ⟨h.1, tm (.pt d 0 0) _ _ rfl h.2⟩
  | box t x =>
    simp only [evOp] at *
    rw [ev_put (hI x (by simp [Op.operands]))] at h
    refine cellsOf_mono (fun cs h => ?_) h
    unfold newBox at *
    cases d with
    | none => exact h
    | some d => simp only [put_objs, put_used] at h ⊢; exact ⟨h.1, tm (.pt d 0 0) _ _ rfl h.2⟩
  | build t ps =>
    simp only [evOp] at *
    rw [evps_put (fun t ht hm => hi t ht (by simpa [Op.operands] using hm))] at h
    exact hBuild_mono vm h
  | buildSlice t len ps =>
    simp only [evOp] at *
    rw [evps_put (fun t ht hm => hi t ht (by simpa [Op.operands] using hm))] at h
    refine sTK_mono (fun e h => ⟨h.1, ?_⟩) h
    have h := h.2
    unfold hLit at *
    cases d with
    | none => exact h
    | some d => simp only [put_objs, put_used] at h ⊢; exact ⟨h.1, lit_mono (fun es h => tm (.rf d 0 es.length) _ _ rfl h) h.2⟩
  | makeSlice t x y =>
    simp only [evOp] at *
    rw [ev_put (hI x (by simp [Op.operands])), ev_put (hI y (by simp [Op.operands]))] at h
    refine sTK_mono (fun e h => ?_) h
    unfold hMake at *
    split at h
    · refine ⟨h.1, ?_⟩
      have h := h.2
      unfold newArr at *
      cases d with
      | none => exact h
      | some d => simp only [put_objs, put_used] at h ⊢; exact ⟨h.1, tm (.rf d 0 _) _ _ rfl h.2⟩
    · exact h
  | fieldAddr t x f => simp only [evOp] at *; rw [ev_put (hI x (by simp [Op.operands]))] at h; exact hField_mono vm h
  | indexAddr t x y =>
    simp only [evOp] at *
    rw [ev_put (hI x (by simp [Op.operands])), ev_put (hI y (by simp [Op.operands])), put_objs] at h
    exact hIdx_mono vm h
  | slice t x lo hi' mx =>
    cases mx with
    | some _ => simp only [evOp] at *
    | none =>
      simp only [evOp] at *
      rw [ev_put (hI x (by simp [Op.operands])), evo_put (fun t ht e => hi t ht (by subst e; simp [Op.operands])), evo_put (fun t ht e => hi t ht (by subst e; simp [Op.operands])), put_objs] at h
      exact hSlice_mono vm h
  | nilCheck x => simp only [evOp] at *; rw [ev_put (hI x (by simp [Op.operands]))] at h; exact hNil_mono vm h
  | extract x n => simp only [evOp] at *; rw [ev_put (hI x (by simp [Op.operands]))] at h; exact hExtract_mono vm h
  | makeFunc fn first caps =>
    cases fn with
    | func f =>
      simp only [evOp] at *
      rw [evs_put (fun t ht hm => hi t ht (by simp only [Op.operands, Array.mem_append]; exact .inr (Array.mem_toList_iff.1 hm)))] at h
      exact ⟨h.1, vm _ h.2⟩
    | _ => simp only [evOp] at *
  | call c =>
    obtain ⟨callee, args, ats⟩ := c
    have ha : evs (st.put i v) args.toList = evs st args.toList := evs_put fun t ht hm => hi t ht (by
      simp only [Op.operands, Call.operands, Array.mem_append]; exact .inr (Array.mem_toList_iff.1 hm))
    cases callee with
    | value f =>
      simp only [evOp] at *
      rw [ev_put (hI f (by simp [Op.operands, Call.operands])), ha] at h
      generalize st.ev f = fv at h ⊢
      unfold hCall at *
      split at h
      · refine CALL.mono (fun s hs => ?_) (CALL.put hne h)
        obtain ⟨⟨u, O, U, rfl⟩, hk⟩ := hs
        exact tm _ _ _ rfl (by rw [to_comm st v u O U hne]; exact hk)
      · exact h
    | invoke r mm => simp only [evOp] at *
    | builtin b =>
      simp only [evOp] at *
      rw [ha] at h
      generalize evs st args.toList = al at h ⊢
      unfold hBuiltin at *
      split at h
      · exact ⟨h.1, lenI_mono (fun _ => vm _) h.2⟩
      · exact hMM_mono vm h
      · exact hMM_mono vm h
      · split at h
        · refine sTK_mono (fun e h => ?_) h
          unfold hApp at *
          split at h
          · rw [put_objs] at h
            refine appSrc_mono (fun new h => ?_) h
            unfold appDst at *
            split at h
            · simp only [put_objs, put_used] at h ⊢
              exact ⟨h.1, tm (.rf _ 0 _) _ _ rfl h.2⟩
            · simp only [put_objs, put_used] at h ⊢
              exact OB_mono (fun o h => ⟨h.1, tm (.rf _ 0 _) _ _ rfl h.2⟩) h
            · exact h
          · unfold appInt at *
            split at h
            · unfold newArr at *
              simp only [put_objs, put_used] at h ⊢
              exact ⟨h.1, h.2.1, tm (.rf _ 0 _) _ _ rfl h.2.2⟩
            · exact h
          · exact h
        · exact h
      · split at h
        · refine sTK_mono (fun e h => ?_) h
          unfold capI at *
          split at h
          · exact vm _ h
          · exact h
        · exact h
      · exact h
  | _ => simp only [evOp] at *

theorem evOp_mono {P : Program} {T : Nat → TI} {st : St} {d : Option Nat} {op : Op} {K K' : St → Prop} (m : ∀ s, K s → K' s) (h : evOp P T st d op K) : evOp P T st d op K' :=
  evOp_put (i := none) (v := .un) (by simp) (by simp) (fun s _ hk => m _ hk) h
end Go.Vc
