/- Operations. Part of a framework of abstract values and states, over the model, for proofs of functions; it has no conditions of its own. -/
import Derived.Test.YtpipfaegkgakiaaVcH
set_option linter.all false
/-! Operations. -/
namespace Go.Vc

def evs (st : St) : List Operand → List AV
  | [] => []
  | x :: r => st.ev x :: evs st r
def evps (st : St) : List (Nat × Operand) → List (Nat × AV)
  | [] => []
  | (i, x) :: r => (i, st.ev x) :: evps st r
def evo (st : St) : Option Operand → Option AV
  | some x => some (st.ev x)
  | none => none

def VIF (x : Bool) (A B : Prop) : Prop := (x = true → A) ∧ (x = false → B)
theorem VIF_true (A B : Prop) : VIF true A B = A := by simp [VIF]
theorem VIF_false (A B : Prop) : VIF false A B = B := by simp [VIF]
@[congr] theorem VIF_congr {x y : Bool} {A B : Prop} {p00 : Prop} (_h00 : (True ∧ True) = p00) (h : x = y) : VIF x A B = VIF y A B := by rw [h]

def hPick : AV → AV → AV → (AV → Prop) → Prop
  | .pr (.bool c), a, b, K => VIF c (K a) (K b)
  | _, _, _, _ => False
@[congr] theorem hPick_congr {c c' a a' b b' : AV} {K : AV → Prop} {p00 : Prop} (_h00 : (True ∧ True) = p00) (h : c = c') (h1 : a = a') (h2 : b = b') : hPick c a b K = hPick c' a' b' K := by rw [h, h1, h2]

def hUn : UnOp → AV → (AV → Prop) → Prop
  | .not, .pr (.bool b), K => K (.pr (.bool !b))
  | .neg, .pr (.int k n), K => K (.pr (.int k (k.wrap (0 - n))))
  | _, _, _ => False
@[congr] theorem hUn_congr {op : UnOp} {x y : AV} {K : AV → Prop} {p00 : Prop} (_h00 : (True ∧ True) = p00) (h : x = y) : hUn op x K = hUn op y K := by rw [h]

def hConv : TK → TK → AV → (AV → Prop) → Prop
  | .int _, .int k, .pr (.int _ n), K => K (.pr (.int k (k.wrap n)))
  | _, _, _, _ => False
@[congr] theorem hConv_congr {a a' b b' : TK} {x y : AV} {K : AV → Prop} {p00 : Prop} (_h00 : (True ∧ True) = p00) (h1 : a = a') (h2 : b = b') (h : x = y) : hConv a b x K = hConv a' b' y K := by rw [h1, h2, h]

def hNil : AV → (AV → Prop) → Prop
  | .pt id i off, K => K (.pt id i off)
  | .ro cs off, K => K (.ro cs off)
  | _, _ => False
@[congr] theorem hNil_congr {x y : AV} {K : AV → Prop} {p00 : Prop} (_h00 : (True ∧ True) = p00) (h : x = y) : hNil x K = hNil y K := by rw [h]

def hExtract : AV → Nat → (AV → Prop) → Prop
  | .tu (v :: _), 0, K => K v
  | .tu (_ :: r), n + 1, K => hExtract (.tu r) n K
  | _, _, _ => False
@[congr] theorem hExtract_congr {x y : AV} {n : Nat} {K : AV → Prop} {p00 : Prop} (_h00 : (True ∧ True) = p00) (h : x = y) : hExtract x n K = hExtract y n K := by rw [h]

def hMM (mx : Bool) : AV → AV → (AV → Prop) → Prop
  | .pr (.int k x), .pr (.int k' y), K => k = k' ∧ K (.pr (.int k (if mx then max x y else min x y)))
  | _, _, _ => False
@[congr] theorem hMM_congr {mx : Bool} {x y x' y' : AV} {K : AV → Prop} {p00 : Prop} (_h00 : (True ∧ True) = p00) (h : x = x') (h2 : y = y') : hMM mx x y K = hMM mx x' y' K := by rw [h, h2]

/-- A slice type. -/
def lenOk (k : TK) (x : AV) : Prop := match k, x with
  | .slice _, .pr _ => False
  | .slice _, _ => True
  | .str, .pr _ => True
  | _, _ => False

def hMake (st : St) (d : Option Nat) (sz : Nat) (zero : List AV) (x y : AV) (K : St → Prop) : Prop :=
  match x, y with
  | .pr (.int _ n), .pr (.int _ m) => (n = m ∧ 0 ≤ n ∧ n ≤ 1073741824) ∧ newArr st d sz (List.replicate n.toNat zero) K
  | _, _ => False
@[congr] theorem hMake_congr {st : St} {d : Option Nat} {sz sz' : Nat} {z z' : List AV} {x y x' y' : AV} {K : St → Prop} {p00 : Prop} (_h00 : (True ∧ True) = p00) (h : sz = sz') (h1 : z = z') (h2 : x = x') (h3 : y = y') : hMake st d sz z x y K = hMake st d sz' z' x' y' K := by rw [h, h1, h2, h3]

def hLit (st : St) (d : Option Nat) (sz : Nat) (qs : List (Nat × AV)) (K : St → Prop) : Prop :=
  match d with
  | some d => d ∉ st.used ∧ lit sz 0 qs fun es => K { regs := upd st.regs d (.rf d 0 es.length), objs := upd st.objs d (some ⟨sz, es⟩), used := d :: st.used }
  | none => False
@[congr] theorem hLit_congr {st : St} {d : Option Nat} {sz sz' : Nat} {x y : List (Nat × AV)} {K : St → Prop} {p00 : Prop} (_h00 : (True ∧ True) = p00) (h : x = y) (h2 : sz = sz') : hLit st d sz x K = hLit st d sz' y K := by rw [h, h2]

/-- The state behind a call's start: where its slot goes. -/
def hCall (P : Program) (st : St) (d : Option Nat) : AV → List AV → (St → Prop) → Prop
  | .fn f caps, args, K => CALL P f (args ++ caps) st d K
  | _, _, _ => False
@[congr] theorem hCall_congr {P : Program} {st : St} {d : Option Nat} {x y : AV} {l l' : List AV} {K : St → Prop} {p00 : Prop} (_h00 : (True ∧ True) = p00) (h : x = y) (h2 : l = l') : hCall P st d x l K = hCall P st d y l' K := by rw [h, h2]

/-- So many zeroes behind nothing. -/
def appInt (st : St) (d sz : Nat) (zero : List AV) : AV → AV → (St → Prop) → Prop
  | .nl, .pr (.int _ n), K => (0 < n ∧ n ≤ 1073741824) ∧ newArr st (some d) sz (List.replicate n.toNat zero) K
  | _, _, _ => False
@[congr] theorem appInt_congr {st : St} {d sz sz' : Nat} {z z' : List AV} {x y x' y' : AV} {K : St → Prop} {p00 : Prop} (_h00 : (True ∧ True) = p00) (h : sz = sz') (h1 : z = z') (h2 : x = x') (h3 : y = y') : appInt st d sz z x y K = appInt st d sz' z' x' y' K := by rw [h, h1, h2, h3]
def hApp (T : Nat → TI) (k2 : TK) (st : St) (d e : Nat) (x y : AV) (K : St → Prop) : Prop :=
  match k2 with
  | .slice _ => appSrc st.objs (T e).size y fun new => appDst st d (T e).size x new K
  | .int _ => appInt st d (T e).size (T e).zero x y K
  | _ => False
@[congr] theorem hApp_congr {T : Nat → TI} {k2 k2' : TK} {st : St} {d e : Nat} {x y x' y' : AV} {K : St → Prop} {p00 : Prop} (_h00 : (True ∧ True) = p00) (h : k2 = k2') (h2 : x = x') (h3 : y = y') : hApp T k2 st d e x y K = hApp T k2' st d e x' y' K := by rw [h, h2, h3]
/-- A slice's room, where it is nil. -/
def capI : AV → (Int → Prop) → Prop
  | .nl, K => K 0
  | _, _ => False
@[congr] theorem capI_congr {x y : AV} {K : Int → Prop} {p00 : Prop} (_h00 : (True ∧ True) = p00) (h : x = y) : capI x K = capI y K := by rw [h]
def hBuiltin (T : Nat → TI) (st : St) (d : Option Nat) (ts : List Nat) : Builtin → List AV → (St → Prop) → Prop
  | .len, [x], K => (match ts with | [t] => lenOk (T t).k x | _ => False) ∧ lenI x fun n => K (st.put d (.pr (.int .i64 n)))
  | .min, [x, y], K => hMM false x y fun v => K (st.put d v)
  | .max, [x, y], K => hMM true x y fun v => K (st.put d v)
  | .append, [x, y], K => match ts, d with
    | [t1, t2], some d => sTK (T t1).k fun e => hApp T (T t2).k st d e x y K
    | _, _ => False
  | .cap, [x], K => match ts with
    | [t] => sTK (T t).k fun _ => capI x fun n => K (st.put d (.pr (.int .i64 n)))
    | _ => False
  | _, _, _ => False

@[congr] theorem hBuiltin_congr {T : Nat → TI} {st : St} {d : Option Nat} {ts ts' : List Nat} {b : Builtin} {l l' : List AV} {K : St → Prop} {p00 : Prop} (_h00 : (True ∧ True) = p00) (h : ts = ts') (h2 : l = l') :
    hBuiltin T st d ts b l K = hBuiltin T st d ts' b l' K := by rw [h, h2]

def evOp (P : Program) (T : Nat → TI) (st : St) (d : Option Nat) (op : Op) (K : St → Prop) : Prop :=
  match op with
  | .move x => K (st.put d (st.ev x))
  | .assign x => K (st.put d (st.ev x))
  | .pick c a b => hPick (st.ev c) (st.ev a) (st.ev b) fun v => K (st.put d v)
  | .binOp op t x y _ => hBin T t op (st.ev x) (st.ev y) fun v => K (st.put d v)
  | .unOp op _ x => hUn op (st.ev x) fun v => K (st.put d v)
  | .convert a b x => hConv (T a).k (T b).k (st.ev x) fun v => K (st.put d v)
  | .load t x => hLoad T st.objs t (st.ev x) fun v => K (st.put d v)
  | .store t x y => d = none ∧ hStore T st t (st.ev x) (st.ev y) K
  | .alloc t => (T t).k.known = true ∧ newBox st d (T t).zero K
  | .box _ x => cellsOf (st.ev x) fun cs => newBox st d cs K
  | .build t ps => hBuild (T t).k (T t).zero (evps st ps.toList) fun v => K (st.put d v)
  | .buildSlice t len ps => sTK (T t).k fun e => (len = ps.toList.length ∧ len * (T e).size ≤ 16777216) ∧ hLit st d (T e).size (evps st ps.toList) K
  | .makeSlice t x y => sTK (T t).k fun e => hMake st d (T e).size (T e).zero (st.ev x) (st.ev y) K
  | .fieldAddr t x f => hField T t f (st.ev x) fun v => K (st.put d v)
  | .indexAddr t x i => hIdx T st.objs t (st.ev x) (st.ev i) fun v => K (st.put d v)
  | .slice t x lo hi none => hSlice T st.objs t (st.ev x) (evo st lo) (evo st hi) fun v => K (st.put d v)
  | .nilCheck x => hNil (st.ev x) fun v => K (st.put d v)
  | .extract x n => hExtract (st.ev x) n fun v => K (st.put d v)
  | .makeFunc (.func f) first caps => first.toList = [] ∧ K (st.put d (.fn f (evs st caps.toList)))
  | .call { callee := .value f, args, .. } => hCall P st d (st.ev f) (evs st args.toList) K
  | .call { callee := .builtin b, args, argTypes } => hBuiltin T st d argTypes.toList b (evs st args.toList) K
  | _ => False

section
variable {P : Program} {T : Nat → TI} {F : Fr} {φ : Nat → Option (Nat × Nat)} {st : St} {w : World}

theorem evs_get (l : List Operand) (j : Nat) : (evs st l)[j]? = (l[j]?).map st.ev := by
  induction l generalizing j with
  | nil => simp [evs]
  | cons x r ih => cases j with
    | zero => simp [evs]
    | succ j => simp [evs, ih]
theorem evs_length (l : List Operand) : (evs st l).length = l.length := by
  induction l with
  | nil => rfl
  | cons x r ih => simp [evs, ih]

theorem evps_parts {a : Act} (hr : ∀ t, RV F φ st w (a.tmps.getD t undef) (st.regs t)) (ps : List (Nat × Operand)) : Parts (RV F φ st w) (ps.map fun (i, x) => (i, a.eval x)) (evps st ps) := by
  induction ps with
  | nil => exact .nil
  | cons p r ih => exact .cons (rv_ev hr p.2) ih

/-- A step that is a value. -/
theorem value_step {n : Nat} {o : Oper} {a : Act} {K : St → Prop} {next : Act → World → Prop} {Q : Exit → Act → World → Prop} {s : Sem Value}
    (hn : a.tmps.size = n) (hdf : a.defers = []) (H : RepH F φ st.objs (· ∈ st.used) w) (hr : ∀ t, RV F φ st w (a.tmps.getD t undef) (st.regs t)) (hd : ∀ x, o.dst = some x → x < n)
    (hy : Yields P w (RV F φ st w) s fun v => K (st.put o.dst v)) (he : ∀ v, s.run P w = .ok v w → (execOp a.eval o).run P w = .ok (.value v) w)
    (hnext : ∀ st' a' w', Rep F n st' a' w' → K st' → next a' w') : o.wp P a w next Q := by
  obtain ⟨v, av, h1, h2, h3⟩ := hy
  unfold Oper.wp
  rw [he v h1]
  exact hnext _ _ _ (Rep.put hn hdf H hr rfl rfl rfl rfl hd h2) h3

/-- A step that makes an object. -/
theorem make_step {n x : Nat} {o : Oper} {a : Act} {K : St → Prop} {next : Act → World → Prop} {Q : Exit → Act → World → Prop} {u : Value} {av : AV} {ob : Ob} {w' : World}
    (hn : a.tmps.size = n) (hdf : a.defers = []) (hr : ∀ t, RV F φ st w (a.tmps.getD t undef) (st.regs t)) (hd : ∀ x, o.dst = some x → x < n) (hx : o.dst = some x)
    (he : (execOp a.eval o).run P w = .ok (.value u) w') (hM : Makes F φ st w w' x u av ob) (hk : K { regs := upd st.regs x av, objs := upd st.objs x (some ob), used := x :: st.used })
    (hnext : ∀ st' a' w', Rep F n st' a' w' → K st' → next a' w') : o.wp P a w next Q := by
  obtain ⟨φ', G, H', rr⟩ := hM
  unfold Oper.wp
  rw [he]
  refine hnext _ _ _ (Rep.goes (st' := { regs := upd st.regs x av, objs := upd st.objs x (some ob), used := x :: st.used }) (av := av) hn hdf hr G H' ?_ hd (fun _ => rr)) hk
  rw [hx]; rfl

theorem run_of {o : Oper} {a : Act} {s : Sem Value} (h : execOp a.eval o = s >>= fun r => pure (Next.value r)) {w w' : World} {v : Value} (hs : s.run P w = .ok v w') : (execOp a.eval o).run P w = .ok (.value v) w' := by
  rw [h, Sem.run_bind, hs]; rfl

theorem hExtract_yields {x : AV} {v : Value} {n : Nat} {K : AV → Prop} (hk : hExtract x n K) (r : RV F φ st w v x) : Yields P w (RV F φ st w) (Instr.extract v n) K := by
  cases x with
  | tu vs =>
    have key : ∀ (vs : List AV) (n : Nat), hExtract (.tu vs) n K → ∃ av, vs[n]? = some av ∧ K av := by
      intro vs
      induction vs with
      | nil => intro n h; cases n <;> exact False.elim h
      | cons y r ih =>
        intro n h
        cases n with
        | zero => exact ⟨y, rfl, h⟩
        | succ n => obtain ⟨av, h1, h2⟩ := ih n h; exact ⟨av, by simpa using h1, h2⟩
    obtain ⟨av, h1, h2⟩ := key vs n hk
    cases r with
    | rd r => cases r
    | tu hs hr =>
      rename_i arr
      have hlt := (List.getElem?_eq_some_iff.1 h1).1
      have hlt' : n < arr.size := by omega
      refine ⟨arr.getD n undef, av, ?_, hr n av h1, h2⟩
      simp [Instr.extract, hlt']
  | _ => cases n <;> exact False.elim hk

theorem hNil_inv {x : AV} {v : Value} {K : AV → Prop} (hk : hNil x K) (r : RV F φ st w v x) : K x ∧ ∃ a, v = .pointer (some a) := by
  cases x with
  | pt id i off =>
    cases r with
    | rd r => cases r
    | pt hu hv hr => exact ⟨hk, hv⟩
  | ro cs off =>
    cases r with
    | rd r => cases r
    | ro vs hS hb hc hr => exact ⟨hk, _, rfl⟩
  | _ => exact False.elim hk

theorem args_two {a : Act} {x y : Operand} : (#[x, y].map a.eval) = #[a.eval x, a.eval y] := by simp

theorem hApp_both (hT : TabOk P T) (hE : ∀ t e, (T t).k = .slice e → (T e).k.known = true) (H : RepH F φ st.objs (· ∈ st.used) w)
    {t1 t2 e d : Nat} {ty : TypeId} (ht1 : (T t1).k = .slice e) {x y : AV} {v u : Value} {K : St → Prop}
    (hk : hApp T (T t2).k st d e x y K) (rx : RV F φ st w v x) (ry : RV F φ st w u y) :
    ∃ (r : Value) (av : AV) (φ' : Nat → Option (Nat × Nat)) (objs' : Nat → Option Ob) (w' : World), (Builtin.append_ #[t1, t2] ty #[v, u]).run P w = .ok r w' ∧ K { regs := upd st.regs d av, objs := objs', used := d :: st.used } ∧
      Goes φ φ' st.objs objs' (· ∈ st.used) (· ∈ d :: st.used) w w' ∧ RepH F φ' objs' (· ∈ d :: st.used) w' ∧ RepV φ' objs' (· ∈ d :: st.used) w'.heap (SS F φ' objs' w') r av := by
  generalize hk2 : (T t2).k = k2 at hk
  unfold hApp at hk
  split at hk
  · exact hApp_goes hT hE H ht1 (by rw [hk2]; trivial) hk rx ry
  · unfold appInt at hk
    split at hk
    · rename_i k' k n
      obtain ⟨⟨h0, hn⟩, hk⟩ := hk
      unfold newArr at hk
      obtain ⟨hd, hk⟩ := hk
      obtain ⟨m, rfl⟩ := Int.eq_ofNat_of_zero_le (Int.le_of_lt h0)
      have he := hE t1 e ht1
      obtain ⟨i, z', hi⟩ := hT.infos e he
      obtain ⟨z, h1, h2, hz, h3⟩ := zero_cells (P := P) (F := F) (φ := φ) (st := st) (w := w) hT he
      have hu := hT.kinds t1; rw [ht1] at hu; simp only [KOk] at hu
      have hu2 := hT.kinds t2; rw [hk2] at hu2; simp only [KOk] at hu2
      have hpos := known_of_size hT he
      have hv : v = .slice none 0 0 := by
        cases rx with | rd r => cases r; rfl
      have huv := inv_pr ry
      subst hv; subst huv
      have hw : IntKind.i64.wrap (m : Int) = m := wrap_i64 (by omega) (by omega)
      have hb0 : ¬ (i.bytes = 0) := by rw [hi.bytes]; have := hi.b0; omega
      have hb : ¬ (281474976710656 : Int) < (m : Int) * (i.bytes : Int) := by
        rw [hi.bytes]
        have := Nat.mul_le_mul (show m ≤ 1073741824 by omega) hi.b1
        have h2 : (m : Int) * ((T e).bytes : Int) = ((m * (T e).bytes : Nat) : Int) := by simp
        rw [h2]; omega
      have hnx : ¬ (281474976710656 < Builtin.nextslicecap m 0 * i.bytes) := by
        have h3 := nextslicecap_le (need := m) (old := 0) (by omega)
        have h4 : i.bytes ≤ 4096 := by rw [hi.bytes]; exact hi.b1
        have := Nat.mul_le_mul h3 h4
        omega
      have hrow := zeros_row (F := F) (φ := φ) (st := st) (w := w) hT he (n := m) (h2.trans hz) h3 hz
      have hzz : z = z' := by
        have := h1
        simp [zeroValue, typeInfo, hi.info, hi.zero] at this
        exact this.symm
      subst hzz
      have hsz : (Builtin.zeroCells z.cells m) = (Array.range (m * (T e).size)).map (z.cells[· % z.cells.size]!) := by
        simp only [Builtin.zeroCells]; rw [h2.trans hz]
      obtain ⟨G, H'⟩ := Rep.new (o := ⟨(T e).size, List.replicate m (T e).zero⟩) (c := #[] ++ Builtin.zeroCells z.cells m ++ Builtin.zeroCells z.cells ((Question.appendCap m 0 e).cut (w.tape w.drawn (Question.appendCap m 0 e)) - m)) (e := e)
        (w' := { w with drawn := w.drawn + 1, heap := w.heap.push (.cells (#[] ++ Builtin.zeroCells z.cells m ++ Builtin.zeroCells z.cells ((Question.appendCap m 0 e).cut (w.tape w.drawn (Question.appendCap m 0 e)) - m)) e (0, 0)) }) H hd
        hrow.el (by rw [List.length_replicate]; simp only [Array.size_append, zeroCells_size, h2.trans hz, Array.size_empty]; omega) (fun i j av hij => by
          obtain ⟨v, g1, g2, g3⟩ := hrow.get hij
          refine ⟨v, ?_, g2, g3⟩
          have hl := hrow.lt hij
          rw [← hsz] at g1 hl
          simp only [Array.empty_append, Array.getElem?_append, hl, if_true]; exact g1) rfl rfl rfl rfl
      refine ⟨.slice (some ⟨w.heap.size, 0, none⟩) m ((Question.appendCap m 0 e).cut (w.tape w.drawn (Question.appendCap m 0 e))), .rf d 0 (List.replicate (Int.toNat m) (T e).zero).length, _, _, _, ?_, hk, G, H', ?_⟩
      · have hm : ¬ (m * (T e).size = 0) := by have := Nat.mul_pos (show 0 < m by omega) hpos; omega
        have hm0 : ¬ m = 0 := by omega
        have hneg : ¬ ((m : Int) < 0) := by omega
        have hmax : ¬ ((9223372036854775807 : Int) < (m : Int)) := by omega
        simp [Builtin.append_, run_underlying hu, run_underlying hu2, run_sizeOf_tab hT he, asInt, asIntOf, hw, hneg, hb, hb0, hm, hm0, hnx, hmax, typeInfo, hi.info, zeroValue, hi.zero, Question.forced, Builtin.firstCells, newRow]
        rfl
      · simp only [List.length_replicate, Int.toNat_natCast]
        refine .rf List.mem_cons_self ⟨_, _, rfl, by simp⟩ fun o' ho' => ?_
        rw [upd_eq] at ho'; cases ho'
        have hcut : m ≤ (Question.appendCap m 0 e).cut (w.tape w.drawn (Question.appendCap m 0 e)) := by simp [Question.cut]
        refine ⟨by simp, .inr ⟨w.heap.size, 0, _, _, e, (0, 0), upd_eq _ _ _, Array.getElem?_push_size, by simp, hcut, ?_⟩⟩
        simp only [Array.size_append, zeroCells_size, Nat.zero_add, Array.size_empty, h2.trans hz, ← Nat.add_mul]
        exact Nat.mul_le_mul_right _ (by omega)
    · exact hk.elim
  · exact hk.elim

theorem evOp_sound (hT : TabOk P T) (hE : ∀ t e, (T t).k = .slice e → (T e).k.known = true) {n : Nat} {o : Oper} {a : Act} {K : St → Prop} {next : Act → World → Prop} {Q : Exit → Act → World → Prop}
    (hev : evOp P T st o.dst o.op K) (R : Rep F n st a w) (hd : ∀ x, o.dst = some x → x < n) (hnext : ∀ st' a' w', Rep F n st' a' w' → K st' → next a' w') : o.wp P a w next Q := by
  obtain ⟨hn, hdf, φ, H, hr⟩ := R
  have hv := fun x => rv_ev (a := a) hr x
  unfold evOp at hev
  split at hev
  · rename_i x hop
    exact value_step (s := pure (a.eval x)) hn hdf H hr hd ⟨_, _, rfl, hv x, hev⟩ (fun v h => by simp only [execOp, hop]; simpa using h) hnext
  · rename_i x hop
    exact value_step (s := pure (a.eval x)) hn hdf H hr hd ⟨_, _, rfl, hv x, hev⟩ (fun v h => by simp only [execOp, hop]; simpa using h) hnext
  · -- pick
    rename_i c x y hop
    have hc := hv c
    generalize st.ev c = cv at hc hev
    cases cv with
    | pr u =>
      cases u with
      | bool b =>
        have hc' := inv_pr hc
        obtain ⟨h1, h2⟩ := hev
        have he : (execOp a.eval o).run P w = .ok (.value (if b then a.eval x else a.eval y)) w := by
          simp [execOp, hop, hc', asBool]
        unfold Oper.wp
        rw [he]
        cases b with
        | true => exact hnext _ _ _ (Rep.put hn hdf H hr rfl rfl rfl rfl hd (hv x)) (h1 rfl)
        | false => exact hnext _ _ _ (Rep.put hn hdf H hr rfl rfl rfl rfl hd (hv y)) (h2 rfl)
      | _ => exact False.elim hev
    | _ => exact False.elim hev
  · -- two operands
    rename_i op t x y yt hop
    refine value_step hn hdf H hr hd (hBin_yields (P := P) hT (ox := x) (oy := y) hev (hv x) (hv y)) (fun v h => run_of ?_ h) hnext
    simp only [execOp, hop]
  · -- one
    rename_i op t x hop
    have hx := hv x
    generalize st.ev x = xv at hx hev
    cases op with
    | not =>
      cases xv with
      | pr u =>
        cases u with
        | bool b =>
          refine value_step (s := Op.unary .not (a.eval x)) hn hdf H hr hd ⟨.bool (!b), _, ?_, .rd (.pr _ rfl), hev⟩ (fun v h => run_of (by simp only [execOp, hop]) h) hnext
          rw [inv_pr hx]; rfl
        | _ => exact False.elim hev
      | _ => exact False.elim hev
    | neg =>
      cases xv with
      | pr u =>
        cases u with
        | int k m =>
          refine value_step (s := Op.unary .neg (a.eval x)) hn hdf H hr hd ⟨.int k (k.wrap (0 - m)), _, ?_, .rd (.pr _ rfl), hev⟩ (fun v h => run_of (by simp only [execOp, hop]) h) hnext
          rw [inv_pr hx]; rfl
        | _ => exact False.elim hev
      | _ => exact False.elim hev
    | _ => cases xv <;> exact False.elim hev
  · -- conversions of ints
    rename_i t1 t2 x hop
    have hx := hv x
    have k1 := hT.kinds t1
    have k2 := hT.kinds t2
    generalize (T t1).k = tk1 at hev k1
    generalize (T t2).k = tk2 at hev k2
    generalize st.ev x = xv at hx hev
    cases tk1 with
    | int ka =>
      cases tk2 with
      | int kb =>
        cases xv with
        | pr u =>
          cases u with
          | int k m =>
            refine value_step (s := convert t1 t2 (a.eval x)) hn hdf H hr hd ⟨.int kb (kb.wrap m), _, ?_, .rd (.pr _ rfl), hev⟩ (fun v h => run_of (by simp only [execOp, hop]) h) hnext
            rw [inv_pr hx]
            simp only [KOk] at k1 k2
            simp [convert, run_underlying k1, run_underlying k2, Conv.intToInt]
          | _ => exact False.elim hev
        | _ => exact False.elim hev
      | _ => cases xv <;> exact False.elim hev
    | _ => cases tk2 <;> cases xv <;> exact False.elim hev
  · -- load
    rename_i t x hop
    exact value_step hn hdf H hr hd (hLoad_yields (P := P) hT H hev (hv x)) (fun v h => run_of (by simp only [execOp, hop]) h) hnext
  · -- store
    rename_i t x y hop
    obtain ⟨hdn, hev⟩ := hev
    obtain ⟨objs', w', h1, h2, G, H'⟩ := hStore_goes (P := P) hT H hev (hv x) (hv y)
    unfold Oper.wp
    have he : (execOp a.eval o).run P w = .ok .skip w' := by simp only [execOp, hop, Sem.run_bind, h1, Result.andThen_ok, Sem.run_pure]
    rw [he]
    exact hnext _ _ _ (Rep.goes (st' := { st with objs := objs' }) (av := .un) hn hdf hr G H' (by rw [hdn]; rfl) hd (fun h => absurd hdn h)) h2
  · -- alloc
    rename_i t hop
    obtain ⟨hk, hev⟩ := hev
    unfold newBox at hev
    split at hev
    · rename_i x hx
      obtain ⟨hx1, hev⟩ := hev
      obtain ⟨u, w', h1, hM⟩ := alloc_makes (P := P) hT H hk hx1
      exact make_step hn hdf hr hd hx (run_of (by simp only [execOp, hop]) h1) hM hev hnext
    · exact hev.elim
  · -- box
    rename_i t x hop
    generalize hdst : o.dst = dst at hev
    cases dst with
    | none =>
      obtain ⟨cs, hk, _⟩ := cellsOf_spec hev (hv x)
      exact False.elim hk
    | some d =>
      have hdd : d ∉ st.used := by
        obtain ⟨cs, hk, _⟩ := cellsOf_spec hev (hv x)
        exact hk.1
      obtain ⟨cs, u, w', ⟨_, hk⟩, h1, hM⟩ := box_makes (P := P) (t := t) H hdd hev (hv x)
      exact make_step hn hdf hr hd hdst (run_of (by simp only [execOp, hop]) h1) hM hk hnext
  · -- build
    rename_i t ps hop
    refine value_step hn hdf H hr hd (hBuild_yields (P := P) (ps := ps.map fun (i, x) => (i, a.eval x)) hT hev (by simpa using evps_parts hr ps.toList)) (fun v h => run_of (by simp only [execOp, hop]) h) hnext
  · -- buildSlice
    rename_i t len ps hop
    obtain ⟨e, ht, ⟨hl, hlen⟩, hev⟩ := sTK_spec hev
    have he := hE t e ht
    unfold hLit at hev
    split at hev
    · rename_i d hdst
      obtain ⟨hx1, hev⟩ := hev
      have hlen2 : (evps st ps.toList).length = ps.toList.length := by
        have : ∀ l : List (Nat × Operand), (evps st l).length = l.length := by
          intro l
          induction l with
          | nil => rfl
          | cons p r ih => simp [evps, ih]
        exact this _
      obtain ⟨u, es, w', hk, h1, hM⟩ := buildSlice_makes (P := P) (ps := ps.map fun (i, x) => (i, a.eval x)) hT H ht he hx1 (by omega) hlen hev (by simpa using evps_parts hr ps.toList)
      exact make_step hn hdf hr hd hdst (run_of (by simp only [execOp, hop]) h1) hM hk hnext
    · exact hev.elim
  · -- makeSlice
    rename_i t x y hop
    obtain ⟨e, ht, hev⟩ := sTK_spec hev
    have hx := hv x
    have hy := hv y
    generalize st.ev x = xv at hx hev
    generalize st.ev y = yv at hy hev
    unfold hMake at hev
    split at hev
    · rename_i k m k' m'
      obtain ⟨⟨rfl, h0, h1⟩, hev⟩ := hev
      unfold newArr at hev
      split at hev
      · rename_i d hx'
        obtain ⟨hx1, hev⟩ := hev
        obtain ⟨m, rfl⟩ := Int.eq_ofNat_of_zero_le h0
        obtain ⟨u, w', h1, hM⟩ := make_makes (P := P) (k := k) (k' := k') (n := m) hT H ht (hE t e ht) hx1 (by omega)
        refine make_step hn hdf hr hd hx' (run_of (s := Instr.makeSlice t (a.eval x) (a.eval y)) (by simp only [execOp, hop]) (by rw [inv_pr hx, inv_pr hy]; exact h1)) hM ?_ hnext
        simpa using hev
      · exact hev.elim
    · exact hev.elim
  · -- a field's address
    rename_i t x f hop
    exact value_step hn hdf H hr hd (hField_yields (P := P) hT hev (hv x)) (fun v h => run_of (by simp only [execOp, hop]) h) hnext
  · rename_i t x i hop
    exact value_step hn hdf H hr hd (hIdx_yields (P := P) hT hE hev (hv x) (hv i)) (fun v h => run_of (by simp only [execOp, hop]) h) hnext
  · -- a cut
    rename_i t x lo hi hop
    refine value_step hn hdf H hr hd (hSlice_yields (P := P) hT hE hev (hv x) (vlo := lo.map a.eval) (vhi := hi.map a.eval) ?_ ?_) (fun v h => run_of (by simp only [execOp, hop, Option.map_none]) h) hnext
    · cases lo with
      | none => exact .inl ⟨rfl, rfl⟩
      | some x => exact .inr ⟨_, _, rfl, rfl, hv x⟩
    · cases hi with
      | none => exact .inl ⟨rfl, rfl⟩
      | some x => exact .inr ⟨_, _, rfl, rfl, hv x⟩
  · -- nilCheck
    rename_i x hop
    obtain ⟨hk, b, hb⟩ := hNil_inv hev (hv x)
    refine value_step (s := pure (a.eval x)) hn hdf H hr hd ⟨_, _, rfl, hv x, hk⟩ (fun v h => ?_) hnext
    simp only [Sem.run_pure] at h
    cases h
    simp [execOp, hop, hb]
  · rename_i x m hop
    exact value_step hn hdf H hr hd (hExtract_yields (P := P) hev (hv x)) (fun v h => run_of (by simp only [execOp, hop]) h) hnext
  · -- a function value
    rename_i f first caps hop
    obtain ⟨h0, hev⟩ := hev
    have hf0 : first = #[] := by cases first; simp at h0; subst h0; rfl
    subst hf0
    refine value_step (s := Instr.makeFunc (.func f) (#[].map a.eval) (caps.map a.eval)) hn hdf H hr hd ⟨.func (.func f) #[] (caps.map a.eval), _, by simp [Instr.makeFunc], ?_, hev⟩ (fun v h => run_of (by simp only [execOp, hop]) h) hnext
    refine .fn (by simp [evs_length]) fun j av hj => ?_
    rw [evs_get] at hj
    obtain ⟨x, h1, rfl⟩ := Option.map_eq_some_iff.1 hj
    have h2 : caps[j]? = some x := by simpa using h1
    simp [Array.getD_eq_getD_getElem?, h2]
    exact hv x
  · -- a call
    rename_i f args ats hop
    have hf := hv f
    generalize st.ev f = fv at hf hev
    cases fv with
    | fn g caps =>
      have hfv : ∃ arr, a.eval f = .func (.func g) #[] arr ∧ arr.size = caps.length ∧ ∀ (j : Nat) (av : AV), caps[j]? = some av → RV F φ st w (arr.getD j undef) av := by
        generalize a.eval f = fe at hf
        cases hf with
        | rd r => cases r; exact ⟨#[], rfl, rfl, by simp⟩
        | fn hs hr => exact ⟨_, rfl, hs, hr⟩
      obtain ⟨arr, hfe, hfs, hfr⟩ := hfv
      have hvs : ∀ (j : Nat) (av : AV), (evs st args.toList ++ caps)[j]? = some av → RV F φ st w ((args.map a.eval ++ arr).getD j undef) av := by
        intro j av hj
        rw [Array.getD_eq_getD_getElem?, Array.getElem?_append]
        simp only [Array.size_map]
        rw [List.getElem?_append, evs_length] at hj
        by_cases hlt : j < args.size
        · rw [if_pos hlt]
          rw [if_pos (by simpa using hlt), evs_get] at hj
          obtain ⟨x, h1, rfl⟩ := Option.map_eq_some_iff.1 hj
          have h2 : args[j]? = some x := by simpa using h1
          simp [h2]; exact hv x
        · rw [if_neg hlt]
          rw [if_neg (by simpa using hlt)] at hj
          have := hfr _ av hj
          rw [Array.getD_eq_getD_getElem?] at this
          simpa using this
      obtain ⟨⟨fn, hfn, hname, hbody⟩, hc⟩ := call_sound (P := P) (a := a) hev hn hdf H hr hd (vs := args.map a.eval ++ arr) (by simp [evs_length, hfs]) hvs
      unfold Oper.wp
      have he : (execOp a.eval o).run P w = .ok (.enter g (args.map a.eval ++ arr)) w := by
        have hb : fn.body ≠ none := by cases h : fn.body <;> simp_all
        have hnm : fn.name ≠ "runtime.NumGoroutine" := by simpa using hname
        simp [execOp, hop, resolve, Deferred.ofValue, hfe, invoke, callFunc, hfn, hnm, hb]
      rw [he, Oper.upon_enter]
      refine hc.mono ?_
      rintro e w' ⟨v, st', rfl, hk, hrep⟩
      exact hnext _ _ _ hrep hk
    | _ => exact False.elim hev
  · -- a builtin
    rename_i b args ats hop
    have two : ∀ (x y : AV), evs st args.toList = [x, y] → ∃ ox oy, args = #[ox, oy] ∧ x = st.ev ox ∧ y = st.ev oy := by
      intro x y h
      obtain ⟨l⟩ := args
      match l, h with
      | [ox, oy], h => simp [evs] at h; exact ⟨ox, oy, rfl, h.1.symm, h.2.symm⟩
      | [], h => simp [evs] at h
      | [_], h => simp [evs] at h
      | _ :: _ :: _ :: _, h => simp [evs] at h
    have one : ∀ (x : AV), evs st args.toList = [x] → ∃ ox, args = #[ox] ∧ x = st.ev ox := by
      intro x h
      obtain ⟨l⟩ := args
      match l, h with
      | [ox], h => simp [evs] at h; exact ⟨ox, rfl, h.symm⟩
      | [], h => simp [evs] at h
      | _ :: _ :: _, h => simp [evs] at h
    have bi : ∀ (s : Sem Value), builtin b ats o.type (args.map fun | .const _ => true | _ => false) (args.map a.eval) = (s >>= fun r => pure (Next.value r)) → execOp a.eval o = s >>= fun r => pure (Next.value r) := by
      intro s h
      simp only [execOp, hop, resolve, pure_bind, invoke]
      exact h
    generalize hargs : evs st args.toList = al at hev
    unfold hBuiltin at hev
    split at hev
    · -- len
      obtain ⟨ox, rfl, rfl⟩ := one _ hargs
      obtain ⟨hl, hev⟩ := hev
      split at hl
      · rename_i t hts
        have hats : ats = #[t] := by cases ats; simp at hts; rw [hts]
        have hx := hv ox
        have hkk := hT.kinds t
        refine value_step (s := Builtin.len_ ats o.type (#[ox].map a.eval)) hn hdf H hr hd ?_ (fun v h => run_of (bi _ rfl) h) hnext
        subst hats
        generalize hk0 : (T t).k = k0 at hl hkk
        rcases rv_len hev hx with ⟨b, n', cap, hvv, hk⟩ | ⟨s, hvv, hk⟩
        · cases k0 with
          | slice e =>
            refine ⟨.int .i64 n', _, ?_, .rd (.pr _ rfl), hk⟩
            simp only [KOk] at hkk
            simp [Builtin.len_, hvv, run_underlying hkk, goInt]
          | str =>
            exfalso
            generalize st.ev ox = xv at hx hl hev
            cases xv with
            | pr u => rw [hvv] at hx; have := inv_pr hx; rw [← this] at hev; exact hev
            | _ => exact hl
          | _ => exact False.elim hl
        · cases k0 with
          | slice e =>
            exfalso
            generalize st.ev ox = xv at hx hl hev
            rw [hvv] at hx
            cases xv with
            | pr u => exact hl
            | nl => cases hx with | rd r => cases r
            | im sz es => cases hx with | rd r => cases r
            | rf id off len => cases hx with
              | rd r => cases r
              | rf hu hv' hr => obtain ⟨a', c', h, _⟩ := hv'; cases h
            | _ => exact hev
          | str =>
            refine ⟨.int .i64 s.size, _, ?_, .rd (.pr _ rfl), hk⟩
            simp only [KOk] at hkk
            simp [Builtin.len_, hvv, run_underlying hkk, goInt]
          | _ => exact False.elim hl
      · exact hl.elim
    · -- min
      obtain ⟨ox, oy, rfl, rfl, rfl⟩ := two _ _ hargs
      have hx := hv ox
      have hy := hv oy
      generalize st.ev ox = xv at hx hev
      generalize st.ev oy = yv at hy hev
      unfold hMM at hev
      split at hev
      · obtain ⟨rfl, hev⟩ := hev
        rename_i k x y
        refine value_step (s := Builtin.min_ ats o.type (#[ox, oy].map a.eval)) hn hdf H hr hd ⟨.int k (min x y), _, ?_, .rd (.pr _ rfl), hev⟩ (fun v h => run_of (bi _ rfl) h) hnext
        simp [Builtin.min_, inv_pr hx, inv_pr hy, Builtin.min2]
        split <;> omega
      · exact hev.elim
    · -- max
      obtain ⟨ox, oy, rfl, rfl, rfl⟩ := two _ _ hargs
      have hx := hv ox
      have hy := hv oy
      generalize st.ev ox = xv at hx hev
      generalize st.ev oy = yv at hy hev
      unfold hMM at hev
      split at hev
      · obtain ⟨rfl, hev⟩ := hev
        rename_i k x y
        refine value_step (s := Builtin.max_ ats o.type (#[ox, oy].map a.eval)) hn hdf H hr hd ⟨.int k (max x y), _, ?_, .rd (.pr _ rfl), hev⟩ (fun v h => run_of (bi _ rfl) h) hnext
        simp [Builtin.max_, inv_pr hx, inv_pr hy, Builtin.max2]
        split <;> omega
      · exact hev.elim
    · -- append
      obtain ⟨ox, oy, rfl, rfl, rfl⟩ := two _ _ hargs
      split at hev
      · rename_i t1 t2 d hts hdst
        have hats : ats = #[t1, t2] := by cases ats; simp at hts; rw [hts]
        obtain ⟨e, ht1, hev⟩ := sTK_spec hev
        obtain ⟨r, av, φ', objs', w', h1, hk, G, H', rr⟩ := hApp_both (P := P) (ty := o.type) hT hE H ht1 hev (hv ox) (hv oy)
        unfold Oper.wp
        rw [run_of (bi (Builtin.append_ ats o.type (#[ox, oy].map a.eval)) rfl) (by rw [hats]; simpa using h1)]
        refine hnext _ _ _ (Rep.goes (st' := { regs := upd st.regs d av, objs := objs', used := d :: st.used }) (av := av) hn hdf hr G H' ?_ hd (fun _ => rr)) hk
        rw [hdst]; rfl
      · exact hev.elim
    · -- cap
      obtain ⟨ox, rfl, rfl⟩ := one _ hargs
      split at hev
      · rename_i t hts
        have hats : ats = #[t] := by cases ats; simp at hts; rw [hts]
        subst hats
        obtain ⟨e, ht, hev⟩ := sTK_spec hev
        have hx := hv ox
        have hkk := hT.kinds t
        rw [ht] at hkk; simp only [KOk] at hkk
        generalize st.ev ox = xv at hx hev
        unfold capI at hev
        split at hev
        · have hvv : a.eval ox = .slice none 0 0 := by
            generalize a.eval ox = u at hx
            cases hx with | rd r => cases r; rfl
          refine value_step (s := Builtin.cap_ #[t] o.type (#[ox].map a.eval)) hn hdf H hr hd ⟨.int .i64 0, _, ?_, .rd (.pr _ rfl), hev⟩ (fun v h => run_of (bi _ rfl) h) hnext
          simp [Builtin.cap_, hvv, run_underlying hkk, goInt]
        · exact hev.elim
      · exact hev.elim
    · exact hev.elim
  · exact hev.elim
end
end Go.Vc
