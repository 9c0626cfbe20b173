/- What an operation comes to, told of abstract values; and that it does. Part of a framework of abstract values and states, over the model, for proofs of functions; it has no conditions of its own. -/
import Derived.Test.YtpipfaegkgakiaaVcB
import GoSem.Dispatch
set_option linter.all false
/-! What an operation comes to, told of abstract values; and that it does. -/
namespace Go.Vc

inductive TK where
  | int (k : IntKind) | bool | str | slice (e : Nat) | struct (fs : List (Nat × Nat)) | ptr | func | other
structure TI where
  k : TK
  size : Nat
  bytes : Nat
  zero : List AV

def cAV : Value → AV
  | .int k n => .pr (.int k n)
  | .bool b => .pr (.bool b)
  | .string s => .pr (.string s)
  | .slice none 0 0 => .nl
  | .pointer none => .pr (.pointer none)
  | .nilFunc => .pr .nilFunc
  | .nilIface => .pr .nilIface
  | _ => .un

def KOk (P : Program) (t : Nat) : TK → Prop
  | .int k => P.underlying t = some (.int k)
  | .bool => P.underlying t = some .bool
  | .str => P.underlying t = some .string
  | .slice e => P.underlying t = some (.slice e)
  | .struct fs => ∃ fields : Array Field, P.underlying t = some (.struct fields) ∧ fields.toList.map (fun f => (f.offset, P.cellsOf f.type)) = fs ∧ ∀ f ∈ fields.toList, ∃ i, P.info? f.type = some i ∧ 0 < i.size
  | .ptr => ∃ e, P.underlying t = some (.pointer e)
  | .func => ∃ a b c, P.underlying t = some (.func a b c)
  | .other => True

def TK.known : TK → Bool
  | .other => false
  | _ => true

structure InfoOk (P : Program) (t : Nat) (x : TI) (i : TypeInfo) (z : Value) : Prop where
  info : P.info? t = some i
  size : i.size = x.size
  bytes : i.bytes = x.bytes
  zero : i.zero = some z
  zc : z.cells.toList.map cAV = x.zero
  zl : x.zero.length = x.size
  one : ∀ c ∈ z.cells.toList, c.oneCell' = true
  pos : 0 < x.size
  b0 : 0 < x.bytes
  b1 : x.bytes ≤ 4096

structure TabOk (P : Program) (T : Nat → TI) : Prop where
  mixed : P.follows .mixedOrders = true
  kinds : ∀ t, KOk P t (T t).k
  infos : ∀ t, (T t).k.known = true → ∃ i z, InfoOk P t (T t) i z

/-- What a slot's value is said to be, of a state that memory bears. -/
abbrev RV (F : Fr) (φ : Nat → Option (Nat × Nat)) (st : St) (w : World) : Value → AV → Prop := RepV φ st.objs (· ∈ st.used) w.heap (SS F φ st.objs w)

theorem rv_pr {F : Fr} {φ : Nat → Option (Nat × Nat)} {st : St} {w : World} {v : Value} (h : v.oneCell' = true) : RV F φ st w v (.pr v) := .rd (.pr v h)

theorem rv_cAV {F : Fr} {φ : Nat → Option (Nat × Nat)} {st : St} {w : World} (v : Value) : RV F φ st w v (cAV v) := by
  unfold cAV
  split <;> first | exact .rd (.pr _ rfl) | exact .rd .nl | exact .un _

def St.ev (st : St) : Operand → AV
  | .tmp t => st.regs t
  | .const v => cAV v
  | .global _ => .un
  | .func f => .fn f []

theorem rv_ev {F : Fr} {φ : Nat → Option (Nat × Nat)} {st : St} {a : Act} {w : World} (hr : ∀ t, RV F φ st w (a.tmps.getD t undef) (st.regs t)) (x : Operand) : RV F φ st w (a.eval x) (st.ev x) := by
  cases x with
  | tmp t => exact hr t
  | const v => exact rv_cAV v
  | global g => exact .un _
  | func f => exact .rd (.fn f)

/-- A computation that leaves memory as it is and comes to a value of which K holds. -/
def Yields (P : Program) (w : World) (R : Value → AV → Prop) (s : Sem Value) (K : AV → Prop) : Prop := ∃ v av, s.run P w = .ok v w ∧ R v av ∧ K av

-- ints, bools, strings

theorem inv_int {φ obs U h S} {v : Value} {k : IntKind} {n : Int} (r : RepV φ obs U h S v (.pr (.int k n))) : v = .int k n := by
  cases r with | rd r => cases r; rfl
theorem inv_pr {φ obs U h S} {v u : Value} (r : RepV φ obs U h S v (.pr u)) : v = u := by
  cases r with | rd r => cases r; rfl

def hBool : AV → (Bool → Prop) → Prop
  | .pr (.bool b), K => K b
  | _, _ => False
@[congr] theorem hBool_congr {x y : AV} {K : Bool → Prop} {p00 : Prop} (_h00 : (True ∧ True) = p00) (h : x = y) : hBool x K = hBool y K := by rw [h]

theorem hBool_inv {x : AV} {K : Bool → Prop} (h : hBool x K) : ∃ b, x = .pr (.bool b) ∧ K b := by
  unfold hBool at h; split at h
  · exact ⟨_, rfl, h⟩
  · exact h.elim

/-- Bits of two ints. -/
def bitsOp (op : BinOp) (k : IntKind) (x y : Int) : Int :=
  let a := BitVec.ofInt k.bits x
  let b := BitVec.ofInt k.bits y
  match op with
  | .and => k.wrap (a &&& b).toNat
  | .or => k.wrap (a ||| b).toNat
  | .xor => k.wrap (a ^^^ b).toNat
  | _ => k.wrap (a &&& ~~~b).toNat

def iBin : BinOp → IntKind → Int → Int → (AV → Prop) → Prop
  | .add, k, x, y, K => K (.pr (.int k (k.wrap (x + y))))
  | .sub, k, x, y, K => K (.pr (.int k (k.wrap (x - y))))
  | .mul, k, x, y, K => K (.pr (.int k (k.wrap (x * y))))
  | .quo, k, x, y, K => y ≠ 0 ∧ K (.pr (.int k (k.wrap (x.tdiv y))))
  | .rem, k, x, y, K => y ≠ 0 ∧ K (.pr (.int k (x.tmod y)))
  | .and, k, x, y, K => K (.pr (.int k (bitsOp .and k x y)))
  | .or, k, x, y, K => K (.pr (.int k (bitsOp .or k x y)))
  | .xor, k, x, y, K => K (.pr (.int k (bitsOp .xor k x y)))
  | .andNot, k, x, y, K => K (.pr (.int k (bitsOp .andNot k x y)))
  | .eql, _, x, y, K => K (.pr (.bool (decide (x = y))))
  | .neq, _, x, y, K => K (.pr (.bool (!decide (x = y))))
  | .lss, _, x, y, K => K (.pr (.bool (decide (x < y))))
  | .leq, _, x, y, K => K (.pr (.bool (decide (x ≤ y))))
  | .gtr, _, x, y, K => K (.pr (.bool (decide (y < x))))
  | .geq, _, x, y, K => K (.pr (.bool (decide (y ≤ x))))
  | _, _, _, _, _ => False
def sBin : BinOp → ByteArray → ByteArray → (AV → Prop) → Prop
  | .eql, x, y, K => K (.pr (.bool (decide (x = y))))
  | .neq, x, y, K => K (.pr (.bool (!decide (x = y))))
  | .lss, x, y, K => K (.pr (.bool (Op.bytesLess x.toList y.toList)))
  | .gtr, x, y, K => K (.pr (.bool (!(Op.bytesLess x.toList y.toList || decide (x = y)))))
  | .leq, x, y, K => K (.pr (.bool (Op.bytesLess x.toList y.toList || decide (x = y))))
  | .geq, x, y, K => K (.pr (.bool (!Op.bytesLess x.toList y.toList)))
  | _, _, _, _ => False
@[congr] theorem iBin_congr {op : BinOp} {k : IntKind} {x y x' y' : Int} {K : AV → Prop} {p00 : Prop} (_h00 : (True ∧ True) = p00) (h : x = x') (h2 : y = y') : iBin op k x y K = iBin op k x' y' K := by rw [h, h2]
@[congr] theorem sBin_congr {op : BinOp} {x y x' y' : ByteArray} {K : AV → Prop} {p00 : Prop} (_h00 : (True ∧ True) = p00) (h : x = x') (h2 : y = y') : sBin op x y K = sBin op x' y' K := by rw [h, h2]
/-- A slice, held against nil. -/
def nBin (neq : Bool) : AV → (AV → Prop) → Prop
  | .nl, K => K (.pr (.bool !neq))
  | .im _ es, K => ∀ b : Bool, (b = true → es = []) → K (.pr (.bool (b != neq)))
  | .rf _ _ n, K => ∀ b : Bool, (b = true → n = 0) → K (.pr (.bool (b != neq)))
  | _, _ => False
def sh (op : BinOp) (k : IntKind) (x y : Int) (K : AV → Prop) : Prop :=
  match op with
  | .shl => 0 ≤ y ∧ K (.pr (.int k (k.wrap (x * 2 ^ (min y.toNat k.bits)))))
  | .shr => 0 ≤ y ∧ K (.pr (.int k (x / 2 ^ (min y.toNat k.bits))))
  | _ => False
@[congr] theorem sh_congr {op : BinOp} {k : IntKind} {x y x' y' : Int} {K : AV → Prop} {p00 : Prop} (_h00 : (True ∧ True) = p00) (h : x = x') (h2 : y = y') : sh op k x y K = sh op k x' y' K := by rw [h, h2]
@[congr] theorem nBin_congr {n : Bool} {x y : AV} {K : AV → Prop} {p00 : Prop} (_h00 : (True ∧ True) = p00) (h : x = y) : nBin n x K = nBin n y K := by rw [h]
def isShift : BinOp → Bool
  | .shl | .shr => true
  | _ => false
def hBin (T : Nat → TI) (t : Nat) : BinOp → AV → AV → (AV → Prop) → Prop
  | .eql, .pr (.bool x), .pr (.bool y), K => (T t).k = .bool ∧ K (.pr (.bool (x == y)))
  | .neq, .pr (.bool x), .pr (.bool y), K => (T t).k = .bool ∧ K (.pr (.bool (!(x == y))))
  | .eql, x, .nl, K => (∃ e, (T t).k = .slice e) ∧ nBin false x K
  | .neq, x, .nl, K => (∃ e, (T t).k = .slice e) ∧ nBin true x K
  | .shl, .pr (.int k x), .pr (.int _ y), K => sh .shl k x y K
  | .shr, .pr (.int k x), .pr (.int _ y), K => sh .shr k x y K
  | op, .pr (.int k x), .pr (.int k' y), K => k = k' ∧ isShift op = false ∧ iBin op k x y K
  | op, .pr (.string x), .pr (.string y), K => isShift op = false ∧ sBin op x y K
  | _, _, _, _ => False
@[congr] theorem hBin_congr {T : Nat → TI} {t : Nat} {op : BinOp} {x y x' y' : AV} {K : AV → Prop} {p00 : Prop} (_h00 : (True ∧ True) = p00) (h : x = x') (h2 : y = y') : hBin T t op x y K = hBin T t op x' y' K := by rw [h, h2]

theorem toList_data (s : ByteArray) : s.toList = s.data.toList := by
  have key : ∀ (n i : Nat) (r : List UInt8), s.size - i = n → ByteArray.toList.loop s i r = r.reverse ++ s.data.toList.drop i := by
    intro n
    induction n with
    | zero =>
      intro i r h
      unfold ByteArray.toList.loop
      rw [if_neg (by omega), List.drop_of_length_le (by simpa using (by omega : s.size ≤ i)), List.append_nil]
    | succ n ih =>
      intro i r h
      have hi : i < s.size := by omega
      unfold ByteArray.toList.loop
      rw [if_pos hi, ih (i + 1) _ (by omega)]
      have hi' : i < s.data.toList.length := by simpa using hi
      rw [List.reverse_cons, List.append_assoc, List.drop_eq_getElem_cons hi']
      simp only [List.singleton_append]
      congr 2
      simp [ByteArray.get!, hi]
  have := key s.size 0 [] (by omega)
  simpa [ByteArray.toList] using this

theorem toList_inj {x y : ByteArray} (h : x.toList = y.toList) : x = y := by
  rw [toList_data, toList_data] at h
  cases x; cases y; simp only [ByteArray.mk.injEq]; exact Array.toList_inj.1 h

theorem toList_eq {x y : ByteArray} : (x.toList == y.toList) = decide (x = y) := by
  by_cases h : x = y
  · subst h; simp
  · have : x.toList ≠ y.toList := fun e => h (toList_inj e)
    rw [decide_eq_false h]; exact beq_eq_false_iff_ne.2 this

theorem eqGuard_other {P : Program} {w : World} {op : BinOp} {t : TypeId} {x y : Operand} {a b : Value} (h : a.oneCell' = true ∧ (a ≠ .nilIface)) :
    (eqGuard op t x y a b).run P w = .ok () w := by
  obtain ⟨h1, h2⟩ := h
  unfold eqGuard
  cases op <;> cases a <;> simp_all [Value.oneCell'] <;> rfl

section
variable {P : Program} {w : World} {t : TypeId}
theorem equal_bool {x y : Bool} (h : P.underlying t = some .bool) : (Op.equal t (.bool x) (.bool y)).run P w = .ok (x == y) w := by
  show (Op.equalIn (9999 + 1) t _ _).run P w = _
  rw [Op.equalIn]
  simp [run_underlying h]
theorem equal_slice {e : TypeId} {a : Option Addr} {n c m d : Nat} (h : P.underlying t = some (.slice e)) : (Op.equal t (.slice a n c) (.slice none m d)).run P w = .ok a.isNone w := by
  show (Op.equalIn (9999 + 1) t _ _).run P w = _
  rw [Op.equalIn]
  cases a <;> simp [run_underlying h]
theorem bin_eql {a b : Value} {r : Bool} (h1 : (∀ k n, a ≠ .int k n) ∧ (∀ k n, a ≠ .float k n) ∧ (∀ k n m, a ≠ .complex k n m) ∧ ∀ s, a ≠ .string s) (h : (Op.equal t a b).run P w = .ok r w) :
    (binOp .eql t a b).run P w = .ok (.bool r) w := by
  obtain ⟨g1, g2, g3, g4⟩ := h1
  unfold binOp
  cases a <;> simp_all
theorem bin_neq {a b : Value} {r : Bool} (h1 : (∀ k n, a ≠ .int k n) ∧ (∀ k n, a ≠ .float k n) ∧ (∀ k n m, a ≠ .complex k n m) ∧ ∀ s, a ≠ .string s) (h : (Op.equal t a b).run P w = .ok r w) :
    (binOp .neq t a b).run P w = .ok (.bool !r) w := by
  obtain ⟨g1, g2, g3, g4⟩ := h1
  unfold binOp
  cases a <;> simp_all
end

theorem nBin_yields {φ obs U h S} {neq : Bool} {x : AV} {a : Value} {K : AV → Prop} (hk : nBin neq x K) (ra : RepV φ obs U h S a x) :
    ∃ (b : Option Addr) (n c : Nat), a = .slice b n c ∧ ∃ r : Bool, r = b.isNone ∧ K (.pr (.bool (if neq then !r else r))) := by
  unfold nBin at hk
  split at hk
  · cases ra with | rd r => cases r; exact ⟨none, 0, 0, rfl, true, rfl, by cases neq <;> exact hk⟩
  · rename_i es
    cases ra with | rd r =>
    cases r with
    | im0 b c sz => exact ⟨b, 0, c, rfl, _, rfl, by have := hk b.isNone (fun _ => rfl); cases neq <;> simpa using this⟩
    | im vs hS hb hcap hsz hc hr => exact ⟨_, _, _, rfl, false, rfl, by have := hk false (by simp); cases neq <;> simpa using this⟩
  · rename_i n
    cases ra with
    | rd r => cases r
    | rf hu hv hr =>
      obtain ⟨b, c, rfl, hb⟩ := hv
      exact ⟨b, n, c, rfl, _, rfl, by have := hk b.isNone (fun h => hb (Option.isNone_iff_eq_none.1 h)); cases neq <;> simpa using this⟩
  · exact hk.elim

theorem iBin_yields {P : Program} {w : World} {φ obs U h S} {op : BinOp} {t : TypeId} {k : IntKind} {x y : Int} {ox oy : Operand} {K : AV → Prop}
    (hs : isShift op = false) (hk : iBin op k x y K) : Yields P w (RepV φ obs U h S) (do eqGuard op t ox oy (.int k x) (.int k y); binOp op t (.int k x) (.int k y)) K := by
  cases op <;> simp only [iBin] at hk <;> (try (simp [isShift] at hs; done)) <;>
    first
      | (refine ⟨_, _, ?_, .rd (.pr _ rfl), hk⟩
         rw [Sem.run_bind, eqGuard_other ⟨rfl, by simp⟩, Result.andThen_ok]
         simp [binOp, Op.intArith, Op.intBits, bitsOp]; done)
      | (refine ⟨_, _, ?_, .rd (.pr _ rfl), hk.2⟩
         rw [Sem.run_bind, eqGuard_other ⟨rfl, by simp⟩, Result.andThen_ok]
         simp [binOp, Op.intDiv, hk.1]; done)
      | (refine ⟨_, _, ?_, .rd (.pr _ rfl), hk⟩
         rw [Sem.run_bind, eqGuard_other ⟨rfl, by simp⟩, Result.andThen_ok]
         simp only [binOp, Op.intCmp, ne_eq, not_true_eq_false, if_false, Sem.run_pure]
         try congr 2
         try (rw [Bool.eq_iff_iff]; simp))

theorem sBin_yields {P : Program} {w : World} {φ obs U h S} {op : BinOp} {t : TypeId} {x y : ByteArray} {ox oy : Operand} {K : AV → Prop}
    (hs : isShift op = false) (hk : sBin op x y K) : Yields P w (RepV φ obs U h S) (do eqGuard op t ox oy (.string x) (.string y); binOp op t (.string x) (.string y)) K := by
  cases op <;> simp only [sBin] at hk <;> (try (simp [isShift] at hs; done)) <;>
    (refine ⟨_, _, ?_, .rd (.pr _ rfl), hk⟩
     rw [Sem.run_bind, eqGuard_other ⟨rfl, by simp⟩, Result.andThen_ok]
     simp [binOp, Op.stringOp, toList_eq]; done)

theorem hBin_yields {P : Program} {T : Nat → TI} (hT : TabOk P T) {w : World} {φ obs U h S} {op : BinOp} {t : TypeId} {x y : AV} {a b : Value} {ox oy : Operand} {K : AV → Prop}
    (hk : hBin T t op x y K) (ra : RepV φ obs U h S a x) (rb : RepV φ obs U h S b y) :
    Yields P w (RepV φ obs U h S) (do eqGuard op t ox oy a b; binOp op t a b) K := by
  unfold hBin at hk
  split at hk
  · -- bools
    obtain ⟨h1, h2⟩ := hk
    have := hT.kinds t; rw [h1] at this
    rw [inv_pr ra, inv_pr rb]
    refine ⟨_, _, ?_, .rd (.pr _ rfl), h2⟩
    rw [Sem.run_bind, eqGuard_other ⟨rfl, by simp⟩, Result.andThen_ok, bin_eql (by simp) (equal_bool this)]
  · obtain ⟨h1, h2⟩ := hk
    have := hT.kinds t; rw [h1] at this
    rw [inv_pr ra, inv_pr rb]
    refine ⟨_, _, ?_, .rd (.pr _ rfl), h2⟩
    rw [Sem.run_bind, eqGuard_other ⟨rfl, by simp⟩, Result.andThen_ok, bin_neq (by simp) (equal_bool this)]
  · -- a slice, held against nil
    obtain ⟨⟨e, h1⟩, h2⟩ := hk
    have hu := hT.kinds t; rw [h1] at hu
    obtain ⟨b', n, c, rfl, r, hr, h3⟩ := nBin_yields h2 ra
    cases rb with | rd rb =>
    cases rb
    refine ⟨_, _, ?_, .rd (.pr _ rfl), h3⟩
    rw [Sem.run_bind, eqGuard_other ⟨rfl, by simp⟩, Result.andThen_ok, bin_eql (by simp) (equal_slice hu), hr]; rfl
  · obtain ⟨⟨e, h1⟩, h2⟩ := hk
    have hu := hT.kinds t; rw [h1] at hu
    obtain ⟨b', n, c, rfl, r, hr, h3⟩ := nBin_yields h2 ra
    cases rb with | rd rb =>
    cases rb
    refine ⟨_, _, ?_, .rd (.pr _ rfl), h3⟩
    rw [Sem.run_bind, eqGuard_other ⟨rfl, by simp⟩, Result.andThen_ok, bin_neq (by simp) (equal_slice hu), hr]; rfl
  · -- shifts
    obtain ⟨h1, h2⟩ := hk
    rw [inv_pr ra, inv_pr rb]
    refine ⟨_, _, ?_, .rd (.pr _ rfl), h2⟩
    rw [Sem.run_bind, eqGuard_other ⟨rfl, by simp⟩, Result.andThen_ok]
    simp [binOp, Op.shift, show ¬ (_ : Int) < 0 from Int.not_lt.2 h1]
  · obtain ⟨h1, h2⟩ := hk
    rw [inv_pr ra, inv_pr rb]
    refine ⟨_, _, ?_, .rd (.pr _ rfl), h2⟩
    rw [Sem.run_bind, eqGuard_other ⟨rfl, by simp⟩, Result.andThen_ok]
    simp only [binOp, Op.shift, if_neg (Int.not_lt.2 h1), Sem.run_pure]
    rw [Int.fdiv_eq_ediv_of_nonneg _ (Int.pow_nonneg (by omega))]
  · obtain ⟨h0, hs, h2⟩ := hk
    subst h0
    rw [inv_pr ra, inv_pr rb]
    exact iBin_yields hs h2
  · obtain ⟨hs, h2⟩ := hk
    rw [inv_pr ra, inv_pr rb]
    exact sBin_yields hs h2
  · exact hk.elim
end Go.Vc
