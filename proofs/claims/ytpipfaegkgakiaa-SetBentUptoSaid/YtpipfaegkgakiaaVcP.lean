/- The evaluator's rules, for simp. Part of a framework of abstract values and states, over the model, for proofs of functions; it has no conditions of its own. -/
import Derived.Test.YtpipfaegkgakiaaVcO
set_option linter.all false
/-! The evaluator's rules, for simp. -/
set_option linter.unusedVariables false
namespace Go.Vc
section
variable {P : Program} {T : Nat → TI} {G : Ords} {st s : St} {t d f n i j k : Nat} {x y v : AV} {cs es : List AV} {K : AV → Prop} {J : List AV → Prop} {M : St → Prop} {Q : Exit → St → Prop} {ik ik' : IntKind} {a b : Int} {R : AV → Prop} {rl : List ResultVar} {u : Value} {ess : List (List AV)}
theorem evAt_mk {ops : List Oper} {im : Option Bool} {sp q : Bool} {o : Option Nat} {op : Op} {ty : TypeId} {pos : String} {af : Array Edge} {g : Option (Nat × Bool)} : evAt P T ops im sp q (some ⟨o, op, ty, pos, af, g⟩) st M = evG st ops g (firstIf im st op ∧ evOp P T st o op fun s => qK q st s (SPd sp o s M)) (M (st.put o (.tu []))) := rfl
theorem ends_skip {c : Code} : endsCond (Code.skip) = false := rfl
theorem ends_ret {c : Code} : endsCond (Code.ret) = false := rfl
theorem ends_exit {c : Code} : endsCond (Code.exit n) = false := rfl
theorem ends_loop {c : Code} : endsCond (Code.loop c) = true := rfl
theorem ends_label {c : Code} : endsCond (Code.label n) = false := rfl
theorem ends_region {ops : Array Oper} {b : Bool} : endsCond (.region n ops b) = false := rfl
theorem cellsOf_pr : cellsOf (.pr u) J = J [.pr u] := rfl
theorem cellsOf_nl : cellsOf (.nl) J = J [.nl] := rfl
theorem cellsOf_im : cellsOf (.im n ess) J = J [.im n ess] := rfl
theorem cellsOf_rf : cellsOf (.rf i j k) J = J [.rf i j k] := rfl
theorem cellsOf_pt : cellsOf (.pt i j k) J = J [.pt i j k] := rfl
theorem cellsOf_ro : cellsOf (.ro cs n) J = J [.ro cs n] := rfl
theorem cellsOf_fn : cellsOf (.fn f cs) J = J [.fn f cs] := rfl
theorem mkV_int : mkV (.int ik) n cs K = one cs K := rfl
theorem known_int : (TK.int ik).known = true := rfl
theorem mkV_bool : mkV (.bool) n cs K = one cs K := rfl
theorem known_bool : (TK.bool).known = true := rfl
theorem mkV_str : mkV (.str) n cs K = one cs K := rfl
theorem known_str : (TK.str).known = true := rfl
theorem mkV_slice : mkV (.slice t) n cs K = one cs K := rfl
theorem known_slice : (TK.slice t).known = true := rfl
theorem mkV_ptr : mkV (.ptr) n cs K = one cs K := rfl
theorem known_ptr : (TK.ptr).known = true := rfl
theorem mkV_func : mkV (.func) n cs K = one cs K := rfl
theorem known_func : (TK.func).known = true := rfl
theorem known_struct : (TK.struct ([] : List (Nat × Nat))).known = true := rfl
theorem known_st (l : List (Nat × Nat)) : (TK.struct l).known = true := rfl
theorem exThen_ret : exThen M Q (Exit.ret) s = Q (Exit.ret) s := rfl
theorem exThen_exit : exThen M Q (Exit.exit n) s = Q (Exit.exit n) s := rfl
theorem exBlk_ret : exBlk n Q .ret s = Q .ret s := rfl
theorem exBlk_normal : exBlk n Q .normal s = Q .normal s := rfl
theorem exBlk_exit : exBlk n Q (.exit k) s = bif (k == n) then Q .normal s else Q (.exit k) s := by
  simp only [exBlk]
  by_cases h : k = n
  · simp [h]
  · simp [h]
theorem hBin_eql : hBin T t .eql (.pr (.int ik a)) (.pr (.int ik' b)) K = (ik = ik' ∧ iBin .eql ik a b K) := by simp [hBin, isShift]
theorem hBin_neq : hBin T t .neq (.pr (.int ik a)) (.pr (.int ik' b)) K = (ik = ik' ∧ iBin .neq ik a b K) := by simp [hBin, isShift]
theorem hBin_lss : hBin T t .lss (.pr (.int ik a)) (.pr (.int ik' b)) K = (ik = ik' ∧ iBin .lss ik a b K) := by simp [hBin, isShift]
theorem hBin_leq : hBin T t .leq (.pr (.int ik a)) (.pr (.int ik' b)) K = (ik = ik' ∧ iBin .leq ik a b K) := by simp [hBin, isShift]
theorem hBin_gtr : hBin T t .gtr (.pr (.int ik a)) (.pr (.int ik' b)) K = (ik = ik' ∧ iBin .gtr ik a b K) := by simp [hBin, isShift]
theorem hBin_geq : hBin T t .geq (.pr (.int ik a)) (.pr (.int ik' b)) K = (ik = ik' ∧ iBin .geq ik a b K) := by simp [hBin, isShift]
theorem hBin_add : hBin T t .add (.pr (.int ik a)) (.pr (.int ik' b)) K = (ik = ik' ∧ iBin .add ik a b K) := by simp [hBin, isShift]
theorem hBin_sub : hBin T t .sub (.pr (.int ik a)) (.pr (.int ik' b)) K = (ik = ik' ∧ iBin .sub ik a b K) := by simp [hBin, isShift]
theorem hBin_mul : hBin T t .mul (.pr (.int ik a)) (.pr (.int ik' b)) K = (ik = ik' ∧ iBin .mul ik a b K) := by simp [hBin, isShift]
theorem hBin_quo : hBin T t .quo (.pr (.int ik a)) (.pr (.int ik' b)) K = (ik = ik' ∧ iBin .quo ik a b K) := by simp [hBin, isShift]
theorem hBin_rem : hBin T t .rem (.pr (.int ik a)) (.pr (.int ik' b)) K = (ik = ik' ∧ iBin .rem ik a b K) := by simp [hBin, isShift]
theorem hBin_and : hBin T t .and (.pr (.int ik a)) (.pr (.int ik' b)) K = (ik = ik' ∧ iBin .and ik a b K) := by simp [hBin, isShift]
theorem hBin_or : hBin T t .or (.pr (.int ik a)) (.pr (.int ik' b)) K = (ik = ik' ∧ iBin .or ik a b K) := by simp [hBin, isShift]
theorem hBin_xor : hBin T t .xor (.pr (.int ik a)) (.pr (.int ik' b)) K = (ik = ik' ∧ iBin .xor ik a b K) := by simp [hBin, isShift]
theorem hBin_andNot : hBin T t .andNot (.pr (.int ik a)) (.pr (.int ik' b)) K = (ik = ik' ∧ iBin .andNot ik a b K) := by simp [hBin, isShift]
theorem hBins_eql {a b : ByteArray} : hBin T t .eql (.pr (.string a)) (.pr (.string b)) K = sBin .eql a b K := by simp [hBin, isShift]
theorem hBins_neq {a b : ByteArray} : hBin T t .neq (.pr (.string a)) (.pr (.string b)) K = sBin .neq a b K := by simp [hBin, isShift]
theorem hBins_lss {a b : ByteArray} : hBin T t .lss (.pr (.string a)) (.pr (.string b)) K = sBin .lss a b K := by simp [hBin, isShift]
theorem hBins_leq {a b : ByteArray} : hBin T t .leq (.pr (.string a)) (.pr (.string b)) K = sBin .leq a b K := by simp [hBin, isShift]
theorem hBins_gtr {a b : ByteArray} : hBin T t .gtr (.pr (.string a)) (.pr (.string b)) K = sBin .gtr a b K := by simp [hBin, isShift]
theorem hBins_geq {a b : ByteArray} : hBin T t .geq (.pr (.string a)) (.pr (.string b)) K = sBin .geq a b K := by simp [hBin, isShift]
theorem hBuiltin_len : hBuiltin T st (some d) [t] .len [x] M = (lenOk (T t).k x ∧ lenI x fun n => M (st.put (some d) (.pr (.int .i64 n)))) := rfl
theorem hBuiltin_min : hBuiltin T st (some d) [t, n] .min [x, y] M = hMM false x y fun v => M (st.put (some d) v) := rfl
theorem hBuiltin_max : hBuiltin T st (some d) [t, n] .max [x, y] M = hMM true x y fun v => M (st.put (some d) v) := rfl
theorem hBuiltin_append : hBuiltin T st (some d) [t, n] .append [x, y] M = sTK (T t).k fun e => hApp T (T n).k st d e x y M := rfl
theorem hBuiltin_cap : hBuiltin T st (some d) [t] .cap [x] M = sTK (T t).k fun _ => capI x fun n => M (st.put (some d) (.pr (.int .i64 n))) := rfl
theorem lenOk_nl : lenOk (.slice t) (.nl) = True := rfl
theorem lenOk_im : lenOk (.slice t) (.im n ess) = True := rfl
theorem lenOk_rf : lenOk (.slice t) (.rf i j k) = True := rfl
theorem lenOk_str : lenOk .str (.pr u) = True := rfl
theorem noId_pr : AV.noId (.pr u) = true := rfl
theorem noId_nl : AV.noId (.nl) = true := rfl
theorem noId_im : AV.noId (.im n ess) = true := rfl
theorem noId_un : AV.noId (.un) = true := rfl
theorem noId_ro : AV.noId (.ro cs n) = true := rfl
theorem firstOk_move {im : Bool} {o : Operand} : firstOk st im (.move o) = True := rfl
theorem opCall_move  {o : Operand} : opCall (.move o) = false := rfl
theorem firstOk_assign {im : Bool} {o : Operand} : firstOk st im (.assign o) = True := rfl
theorem opCall_assign  {o : Operand} : opCall (.assign o) = false := rfl
theorem firstOk_pick {im : Bool} {o : Operand} {o' : Operand} {o2 : Operand} : firstOk st im (.pick o o' o2) = True := rfl
theorem opCall_pick  {o : Operand} {o' : Operand} {o2 : Operand} : opCall (.pick o o' o2) = false := rfl
theorem firstOk_unOp {im : Bool} {o : Operand} {uo : UnOp} : firstOk st im (.unOp uo t o) = True := rfl
theorem opCall_unOp  {o : Operand} {uo : UnOp} : opCall (.unOp uo t o) = false := rfl
theorem firstOk_convert {im : Bool} {o : Operand} : firstOk st im (.convert t n o) = True := rfl
theorem opCall_convert  {o : Operand} : opCall (.convert t n o) = false := rfl
theorem firstOk_fieldAddr {im : Bool} {o : Operand} : firstOk st im (.fieldAddr t o n) = True := rfl
theorem opCall_fieldAddr  {o : Operand} : opCall (.fieldAddr t o n) = false := rfl
theorem firstOk_build {im : Bool} {ps : Array (Nat × Operand)} : firstOk st im (.build t ps) = True := rfl
theorem opCall_build  {ps : Array (Nat × Operand)} : opCall (.build t ps) = false := rfl
theorem firstOk_nilCheck {im : Bool} {o : Operand} : firstOk st im (.nilCheck o) = True := rfl
theorem opCall_nilCheck  {o : Operand} : opCall (.nilCheck o) = false := rfl
theorem firstOk_extract {im : Bool} {o : Operand} : firstOk st im (.extract o n) = True := rfl
theorem opCall_extract  {o : Operand} : opCall (.extract o n) = false := rfl
theorem firstOk_makeFunc {im : Bool} {fn : Fn} {l1 : Array Operand} {l2 : Array Operand} : firstOk st im (.makeFunc fn l1 l2) = True := rfl
theorem opCall_makeFunc  {fn : Fn} {l1 : Array Operand} {l2 : Array Operand} : opCall (.makeFunc fn l1 l2) = false := rfl
theorem firstOk_call {im : Bool} {c : Call} : firstOk st im (.call c) = True := rfl
theorem firstOk_store {im : Bool} {o : Operand} {o' : Operand} : firstOk st im (.store t o o') = True := rfl
theorem opCall_store  {o : Operand} {o' : Operand} : opCall (.store t o o') = false := rfl
theorem firstOk_alloc {im : Bool} : firstOk st im (.alloc t) = True := rfl
theorem opCall_alloc : opCall (.alloc t) = false := rfl
theorem firstOk_box {im : Bool} {o : Operand} : firstOk st im (.box t o) = True := rfl
theorem opCall_box  {o : Operand} : opCall (.box t o) = false := rfl
theorem firstOk_buildSlice {im : Bool} {ps : Array (Nat × Operand)} : firstOk st im (.buildSlice t n ps) = True := rfl
theorem opCall_buildSlice  {ps : Array (Nat × Operand)} : opCall (.buildSlice t n ps) = false := rfl
theorem firstOk_makeSlice {im : Bool} {o : Operand} {o' : Operand} : firstOk st im (.makeSlice t o o') = True := rfl
theorem opCall_makeSlice  {o : Operand} {o' : Operand} : opCall (.makeSlice t o o') = false := rfl
theorem opCall_value {f : Operand} {l1 : Array Operand} {l2 : Array Nat} : opCall (.call ⟨.value f, l1, l2⟩) = true := rfl
theorem opCall_builtin {f : Builtin} {l1 : Array Operand} {l2 : Array Nat} : opCall (.call ⟨.builtin f, l1, l2⟩) = false := rfl
theorem opCall_load {o : Operand} : opCall (.load t o) = false := rfl
theorem opCall_indexAddr {o o' : Operand} : opCall (.indexAddr t o o') = false := rfl
theorem opCall_slice {o : Operand} {a1 a2 a3 : Option Operand} : opCall (.slice t o a1 a2 a3) = false := rfl
theorem opCall_binOp {bo : BinOp} {o o' : Operand} : opCall (.binOp bo t o o' n) = false := rfl
theorem callNext_nil : callNext [] = false := rfl
theorem callNext_cons {o : Option Nat} {op : Op} {ty : TypeId} {pos : String} {af : Array Edge} {g : Option (Nat × Bool)} {r : List Oper} : callNext (⟨o, op, ty, pos, af, g⟩ :: r) = opCall op := rfl
theorem firstOk_load_f {o : Operand} : firstOk st false (.load t o) = True := by simp [firstOk]
theorem firstOk_load_t {o : Operand} : firstOk st true (.load t o) = isIm (st.ev o) := by simp [firstOk]
theorem firstOk_indexAddr_f {o o' : Operand} : firstOk st false (.indexAddr t o o') = True := by simp [firstOk]
theorem firstOk_indexAddr_t {o o' : Operand} : firstOk st true (.indexAddr t o o') = isIm (st.ev o) := by simp [firstOk]
theorem firstOk_slice_f {o : Operand} {a1 a2 a3 : Option Operand} : firstOk st false (.slice t o a1 a2 a3) = True := by simp [firstOk]
theorem firstOk_slice_t {o : Operand} {a1 a2 a3 : Option Operand} : firstOk st true (.slice t o a1 a2 a3) = isIm (st.ev o) := by simp [firstOk]
theorem obSz_pr : obSz T t (fun _ => none) (.pr u) = True := rfl
theorem obSz_im : obSz T t (fun _ => none) (.im n ess) = True := rfl
theorem obSz_nl : obSz T t (fun _ => none) (.nl) = True := rfl
theorem obSz_im' {O : Nat → Option Ob} : obSz T t O (.im n ess) = True := rfl
theorem obSz_nl' {O : Nat → Option Ob} : obSz T t O .nl = True := rfl
theorem obSz_pr' {O : Nat → Option Ob} : obSz T t O (.pr u) = True := rfl
theorem SPd_false {o : Option Nat} : SPd false o s M = M s := by cases o <;> rfl
theorem SPv_tu : SPv s d (.tu cs) M = M s := rfl
theorem isIm_pr : isIm (.pr u) = True := rfl
theorem isIm_im : isIm (.im n ess) = True := rfl
theorem isIm_nl : isIm (.nl) = True := rfl
theorem isIm_ro : isIm (.ro cs n) = True := rfl
theorem isIm_un : isIm (.un) = True := rfl
theorem notNl_pr : notNl (.pr u) = True := rfl
theorem notNl_im : notNl (.im n ess) = True := rfl
theorem notNl_rf : notNl (.rf i j k) = True := rfl
theorem notNl_pt : notNl (.pt i j k) = True := rfl
theorem notNl_ro : notNl (.ro cs n) = True := rfl
theorem leaf_pr : AV.leaf (.pr u) = true := rfl
theorem leaf_nl : AV.leaf .nl = true := rfl
theorem leaf_im : AV.leaf (.im n ess) = true := rfl
theorem leaf_fn : AV.leaf (.fn f []) = true := rfl
theorem only0_pr : AV.only0 (.pr u) = true := rfl
theorem ren_pr : AV.ren d (.pr u) = .pr u := rfl
theorem lendW'_pr {g : List AV → List AV} {O : Nat → Option Ob} : AV.lendW g O (.pr u) = .pr u := rfl
theorem lok'_pr {p : List AV → Prop} {O : Nat → Option Ob} : AV.lok p O (.pr u) = True := rfl
theorem only0_im : AV.only0 (.im n ess) = true := rfl
theorem ren_im : AV.ren d (.im n ess) = .im n ess := rfl
theorem lendW'_im {g : List AV → List AV} {O : Nat → Option Ob} : AV.lendW g O (.im n ess) = .im n ess := rfl
theorem lok'_im {p : List AV → Prop} {O : Nat → Option Ob} : AV.lok p O (.im n ess) = True := rfl
theorem only0_nl : AV.only0 (.nl) = true := rfl
theorem ren_nl : AV.ren d (.nl) = .nl := rfl
theorem lendW'_nl {g : List AV → List AV} {O : Nat → Option Ob} : AV.lendW g O (.nl) = .nl := rfl
theorem lok'_nl {p : List AV → Prop} {O : Nat → Option Ob} : AV.lok p O (.nl) = True := rfl
theorem only0_ro : AV.only0 (.ro cs n) = true := rfl
theorem ren_ro : AV.ren d (.ro cs n) = .ro cs n := rfl
theorem lendW'_ro {g : List AV → List AV} {O : Nat → Option Ob} : AV.lendW g O (.ro cs n) = .ro cs n := rfl
theorem lok'_ro {p : List AV → Prop} {O : Nat → Option Ob} : AV.lok p O (.ro cs n) = True := rfl
theorem lendW'_ag {g : List AV → List AV} {O : Nat → Option Ob} : AV.lendW g O (.ag cs) = .ag (lendsW g O cs) := by simp only [AV.lendW]
theorem lendW'_tu {g : List AV → List AV} {O : Nat → Option Ob} : AV.lendW g O (.tu cs) = .tu (lendsW g O cs) := by simp only [AV.lendW]
theorem lendW'_fn {g : List AV → List AV} {O : Nat → Option Ob} : AV.lendW g O (.fn f cs) = .fn f (lendsW g O cs) := by simp only [AV.lendW]
theorem lok'_ag {p : List AV → Prop} {O : Nat → Option Ob} : AV.lok p O (.ag cs) = loks p O cs := by simp only [AV.lok]
theorem lok'_tu {p : List AV → Prop} {O : Nat → Option Ob} : AV.lok p O (.tu cs) = loks p O cs := by simp only [AV.lok]
theorem lok'_fn {p : List AV → Prop} {O : Nat → Option Ob} : AV.lok p O (.fn f cs) = loks p O cs := by simp only [AV.lok]
theorem ite_T {α : Sort _} {h : Decidable True} (a b : α) : @ite α True h a b = a := if_pos trivial
theorem ite_F {α : Sort _} {h : Decidable False} (a b : α) : @ite α False h a b = b := if_neg (fun h => h)
theorem gd_do (ops : List Oper) (g : Nat) : gd ops g = (ops[g]?).bind (·.dst) := rfl
end
attribute [go_sem ↓] evG.eq_1 evG.eq_2 SPd.eq_1 qK.eq_1 qK.eq_2 evOp.eq_1 evOp.eq_2 evOp.eq_3 evOp.eq_4 evOp.eq_5 evOp.eq_6 evOp.eq_7
attribute [go_sem ↓] evOp.eq_8 evOp.eq_9 evOp.eq_10 evOp.eq_11 evOp.eq_12 evOp.eq_13 evOp.eq_14 evOp.eq_15 evOp.eq_16 evOp.eq_17 evOp.eq_18 evOp.eq_19
attribute [go_sem ↓] evOp.eq_20 evOp.eq_21 evAt.eq_1 evSel.eq_1 evSel.eq_2 evText.eq_1 evText.eq_2 evRegion.eq_1 evRegion.eq_2 hRes.eq_1 vc.eq_1 vc.eq_2
attribute [go_sem ↓] vc.eq_3 vc.eq_4 vc.eq_5 vc.eq_6 vc.eq_7 vc.eq_8 vc.eq_9 sq.eq_1 sq.eq_2 evAt_mk exThen_ret exThen_exit
attribute [go_sem ↓] exThen.eq_1 exBlk_ret exBlk_normal exBlk_exit fnPost0.eq_1 fnPost0.eq_2 fnPost.eq_1 fnPost.eq_2 SPd_false
attribute [go_sem] hBool.eq_1 hPick.eq_1 hUn.eq_1 hUn.eq_2 hConv.eq_1 hNil.eq_1 hNil.eq_2 hExtract.eq_1 hExtract.eq_2 hMM.eq_1 iBin.eq_1 iBin.eq_2
attribute [go_sem] iBin.eq_3 iBin.eq_4 iBin.eq_5 iBin.eq_6 iBin.eq_7 iBin.eq_8 iBin.eq_9 iBin.eq_10 iBin.eq_11 iBin.eq_12 iBin.eq_13 iBin.eq_14
attribute [go_sem] iBin.eq_15 sBin.eq_1 sBin.eq_2 sBin.eq_3 sBin.eq_4 sBin.eq_5 sBin.eq_6 nBin.eq_1 nBin.eq_2 nBin.eq_3 sh.eq_1 sh.eq_2
attribute [go_sem] isShift.eq_1 isShift.eq_2 hBin.eq_1 hBin.eq_2 hBin.eq_3 hBin.eq_4 hBin.eq_5 hBin.eq_6 one.eq_1 mkV.eq_1 mkV.eq_2 hLoad.eq_1
attribute [go_sem] hLoad.eq_2 fAt.eq_1 fAt.eq_2 fAt.eq_3 fTK.eq_1 hField.eq_1 hField.eq_2 sTK.eq_1 hIdx.eq_1 hIdx.eq_2 cellsOf.eq_1 cellsOf.eq_2
attribute [go_sem] cellsOf.eq_3 splice.eq_1 hStore.eq_1 optI.eq_1 optI.eq_2 lenI.eq_1 lenI.eq_2 lenI.eq_3 lenI.eq_4 cutA.eq_1 cutA.eq_2 cutA.eq_3
attribute [go_sem] cutA.eq_4 obSz.eq_1 hSlice.eq_1 appSrc.eq_1 appSrc.eq_2 appSrc.eq_3 isSl.eq_1 appDst.eq_1 appDst.eq_2 hApp.eq_1 hApp.eq_2 appInt.eq_1
attribute [go_sem] capI.eq_1 newBox.eq_1 newBox.eq_2 newArr.eq_1 newArr.eq_2 fill.eq_1 fill.eq_2 hBuild.eq_1 lit.eq_1 lit.eq_2 hMake.eq_1 hLit.eq_1
attribute [go_sem] hLit.eq_2 hCall.eq_1 gS.eq_1 gS.eq_2 gV.eq_1 gV.eq_2 SPv.eq_1 firstIf.eq_1 firstIf.eq_2 firstOk.eq_1 isIm.eq_1 isIm.eq_2
attribute [go_sem] notNl.eq_1 St.put.eq_1 St.put.eq_2 St.ev.eq_1 St.ev.eq_2 St.ev.eq_3 St.ev.eq_4 cAV.eq_1 cAV.eq_2 cAV.eq_3 cAV.eq_4 cAV.eq_5
attribute [go_sem] cAV.eq_6 cAV.eq_7 resAV.eq_1 resAV.eq_2 resAV.eq_3 evs.eq_1 evs.eq_2 evps.eq_1 evps.eq_2 evo.eq_1 evo.eq_2 TK.known.eq_1
attribute [go_sem] AV.noId.eq_1 AV.noId.eq_2 AV.noId.eq_3 AV.noId.eq_4 AV.noId.eq_5 noIds.eq_1 noIds.eq_2 AV.flat.eq_1 AV.flat.eq_2 flats.eq_1 flats.eq_2 AV.leaf.eq_1
attribute [go_sem] AV.leaf.eq_2 AV.leaf.eq_3 AV.leaf.eq_4 AV.only0.eq_1 AV.only0.eq_2 AV.only0.eq_3 AV.only0.eq_4 AV.only0.eq_5 only0s.eq_1 only0s.eq_2 AV.ren.eq_1 AV.ren.eq_2
attribute [go_sem] AV.ren.eq_3 AV.ren.eq_4 AV.ren.eq_5 rens.eq_1 rens.eq_2 leafs.eq_1 leafs.eq_2 lendsW.eq_1 lendsW.eq_2 loks.eq_1 loks.eq_2 mkR.eq_1
attribute [go_sem] mkR.eq_2 mkO.eq_1 mkO.eq_2 nms.eq_1 nms.eq_2 endsCond.eq_1 endsCond.eq_2 endsCond.eq_3 endsCond.eq_4 ents.eq_1 ents.eq_2 eob.eq_1
attribute [go_sem] eob.eq_2 eob.eq_3 eobs.eq_1 eobs.eq_2 wk.eq_1 wk.eq_2 wk.eq_3 wk.eq_4 wk.eq_5 wk.eq_6 wk.eq_7 wk.eq_8
attribute [go_sem] wk.eq_9 wk.eq_10 wk.eq_11 wk.eq_12 wk.eq_13 wk.eq_14 wk.wks.eq_1 wk.wks.eq_2 ends_skip ends_ret ends_exit ends_loop
attribute [go_sem] ends_label ends_region cellsOf_pr cellsOf_nl cellsOf_im cellsOf_rf cellsOf_pt cellsOf_ro cellsOf_fn mkV_int known_int mkV_bool
attribute [go_sem] known_bool mkV_str known_str mkV_slice known_slice mkV_ptr known_ptr mkV_func known_func known_st hBin_eql hBin_neq
attribute [go_sem] hBin_lss hBin_leq hBin_gtr hBin_geq hBin_add hBin_sub hBin_mul hBin_quo hBin_rem hBin_and hBin_or hBin_xor
attribute [go_sem] hBin_andNot hBins_eql hBins_neq hBins_lss hBins_leq hBins_gtr hBins_geq hBuiltin_len hBuiltin_min hBuiltin_max hBuiltin_append hBuiltin_cap
attribute [go_sem] lenOk_nl lenOk_im lenOk_rf lenOk_str noId_pr noId_nl noId_im noId_un noId_ro firstOk_move opCall_move firstOk_assign
attribute [go_sem] opCall_assign firstOk_pick opCall_pick firstOk_unOp opCall_unOp firstOk_convert opCall_convert firstOk_fieldAddr opCall_fieldAddr firstOk_build opCall_build firstOk_nilCheck
attribute [go_sem] opCall_nilCheck firstOk_extract opCall_extract firstOk_makeFunc opCall_makeFunc firstOk_call firstOk_store opCall_store firstOk_alloc opCall_alloc firstOk_box opCall_box
attribute [go_sem] firstOk_buildSlice opCall_buildSlice firstOk_makeSlice opCall_makeSlice opCall_value opCall_builtin opCall_load opCall_indexAddr opCall_slice opCall_binOp callNext_nil callNext_cons
attribute [go_sem] firstOk_load_f firstOk_load_t firstOk_indexAddr_f firstOk_indexAddr_t firstOk_slice_f firstOk_slice_t obSz_im' obSz_nl' obSz_pr' SPv_tu isIm_pr isIm_im
attribute [go_sem] isIm_nl isIm_ro isIm_un notNl_pr notNl_im notNl_rf notNl_pt notNl_ro leaf_pr leaf_nl leaf_im leaf_fn
attribute [go_sem] only0_pr ren_pr lendW'_pr lok'_pr only0_im ren_im lendW'_im lok'_im only0_nl ren_nl lendW'_nl lok'_nl
attribute [go_sem] only0_ro ren_ro lendW'_ro lok'_ro lendW'_ag lendW'_tu lendW'_fn lok'_ag lok'_tu lok'_fn ite_T ite_F
attribute [go_sem] gd_do lends lends1 lok lok1 lendW_rf lendW_pt lok_rf lok_pt leafy_do lendRf.eq_1 lendRf.eq_2
attribute [go_sem] lendCs.eq_1 lendCs.eq_2 lendPt.eq_1 lendPt.eq_2 leafs2.eq_1 leafs2.eq_2 mkS_do hOne_one hOne_nil hOne_two NS_do VIF_true
attribute [go_sem] VIF_false upd_eq upd_ne startR_nil startR_cons EL_zero EL_succ OB_some noOb List.reverse_nil List.reverse_cons List.nil_append
attribute [go_sem] List.cons_append List.getElem?_cons_zero List.getElem?_cons_succ Option.bind_some Option.bind_none Option.map_some Option.map_none List.drop_zero List.drop_succ_cons List.take_zero List.take_succ_cons List.drop_nil
attribute [go_sem] List.take_nil List.append_nil List.not_mem_nil List.mem_cons not_false_eq_true or_false or_self List.length_cons List.length_nil List.toList_toArray List.length_map List.set_cons_zero
attribute [go_sem] List.set_cons_succ Nat.reduceLeDiff Nat.reduceSub Nat.sub_zero Int.toNat_natCast Int.natCast_nonneg true_and and_true beq_self_eq_true Bool.not_true Bool.not_false Bool.true_beq
attribute [go_sem] Bool.false_beq Nat.reduceAdd Nat.reduceEqDiff Nat.reduceMul Nat.zero_add Nat.add_zero forall_const cond_true cond_false
end Go.Vc
