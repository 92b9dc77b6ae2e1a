/- The law behind: one part of its proof (joined by program out of my own texts). No condition. -/
import Derived.OrdersHeld
import Derived.Laws.Sem
import Derived.KernelRfl
section
namespace Go.Lift
inductive CT where
 | int (k : IntKind) | bool | str | ptr | addr | slice | map | any | row
 deriving DecidableEq, Inhabited
structure Sl where
 a : Option Addr
 n : Nat
 c : Nat
@[reducible] def CT.T : CT → Type
 | .int _ => Int | .bool => Bool | .str => ByteArray | .ptr => Option Addr | .addr => Addr | .slice => Sl | .map => Option Nat | .any => Value | .row => Array Value
def CT.val : (c : CT) → c.T → Value
 | .int k, n => .int k n
 | .bool, b => .bool b
 | .str, s => .string s
 | .ptr, p => .pointer p
 | .addr, a => .pointer (some a)
 | .slice, s => .slice s.a s.n s.c
 | .map, r => .map r
 | .any, v => v
 | .row, cs => .agg cs
def CT.get : (c : CT) → Value → Option c.T
 | .int k, .int k' n => if k = k' then some n else none
 | .bool, .bool b => some b
 | .str, .string s => some s
 | .ptr, .pointer p => some p
 | .addr, .pointer (some a) => some a
 | .slice, .slice a n c => some ⟨a, n, c⟩
 | .map, .map r => some r
 | .any, v => some v
 | .row, .agg cs => some cs
 | _, _ => none
theorem CT.get_val {c : CT} {v : Value} {x : c.T} (h : c.get v = some x) : c.val x = v := by
 cases c <;> cases v <;> simp only [CT.get] at h <;>
  first
   | (cases h; rfl)
   | (split at h <;> cases h; subst_vars; rfl)
   | (rename_i p; cases p <;> first | (cases h; rfl) | cases h)
   | cases h
@[reducible] def HL : List CT → Type
 | [] => Unit
 | c :: cs => c.T × HL cs
@[reducible] def Cur (A : Type) : List CT → Type
 | [] => A
 | c :: cs => c.T → Cur A cs
def cur {A : Type} : {cs : List CT} → (HL cs → A) → Cur A cs
 | [], f => f ()
 | _ :: _, f => fun x => cur fun xs => f (x, xs)
def unc {A : Type} : {cs : List CT} → Cur A cs → HL cs → A
 | [], f, _ => f
 | _ :: _, f, (x, xs) => unc (f x) xs
theorem unc_cur {A : Type} : ∀ {cs : List CT} (f : HL cs → A) (xs : HL cs), unc (cur f) xs = f xs
 | [], _, _ => rfl
 | _ :: _, f, (x, xs) => unc_cur (fun ys => f (x, ys)) xs
inductive VT where
 | one (c : CT)
 | agg (cs : List CT)
 deriving DecidableEq, Inhabited
@[reducible] def VT.cts : VT → List CT
 | .one c => [c]
 | .agg cs => cs
def vals : (cs : List CT) → HL cs → List Value
 | [], _ => []
 | c :: cs, (x, xs) => c.val x :: vals cs xs
def getL : (cs : List CT) → List Value → Option (HL cs)
 | [], [] => some ()
 | c :: cs, v :: vs => match c.get v with
  | some x => match getL cs vs with
   | some xs => some (x, xs)
   | none => none
  | none => none
 | _, _ => none
theorem getL_vals : ∀ {cs : List CT} {vs : List Value} {xs : HL cs}, getL cs vs = some xs → vals cs xs = vs
 | [], [], _, _ => rfl
 | c :: cs, v :: vs, xs, h => by
  simp only [getL] at h
  split at h
  ·rename_i x hx
   split at h
   ·rename_i ys hys
    cases h
    simp only [vals, CT.get_val hx, getL_vals hys]
   ·cases h
  ·cases h
 | [], _ :: _, _, h => by cases h
 | _ :: _, [], _, h => by cases h
@[reducible] def VT.T (v : VT) : Type := HL v.cts
def VT.val : (v : VT) → v.T → Value
 | .one c, (x, _) => c.val x
 | .agg cs, xs => .agg (vals cs xs).toArray
def VT.get : (v : VT) → Value → Option v.T
 | .one c, u => match c.get u with
  | some x => some (x, ())
  | none => none
 | .agg cs, .agg a => getL cs a.toList
 | .agg _, _ => none
theorem VT.get_val {v : VT} {u : Value} {x : v.T} (h : v.get u = some x) : v.val x = u := by
 cases v with
 | one c =>
  simp only [VT.get] at h
  split at h
  ·rename_i y hy
   cases h
   exact CT.get_val hy
  ·cases h
 | agg cs =>
  cases u <;> simp only [VT.get] at h <;> first | (cases h; done) | skip
  rename_i a
  exact congrArg (fun l : List Value => Value.agg l.toArray) (getL_vals h)
@[reducible] def HV : List VT → Type
 | [] => Unit
 | v :: vs => v.T × HV vs
@[reducible] def CurV (A : Type) : List VT → Type
 | [] => A
 | v :: vs => Cur (CurV A vs) v.cts
def curV {A : Type} : {vs : List VT} → (HV vs → A) → CurV A vs
 | [], f => f ()
 | v :: _, f => cur (cs := v.cts) fun x => curV fun xs => f (x, xs)
def uncV {A : Type} : {vs : List VT} → CurV A vs → HV vs → A
 | [], f, _ => f
 | v :: _, f, (x, xs) => uncV (unc (cs := v.cts) f x) xs
theorem uncV_curV {A : Type} : ∀ {vs : List VT} (f : HV vs → A) (xs : HV vs), uncV (curV f) xs = f xs
 | [], _, _ => rfl
 | v :: _, f, (x, xs) => by
  show uncV (unc (cs := v.cts) (cur fun x => curV fun xs => f (x, xs)) x) xs = f (x, xs)
  rw [unc_cur (cs := v.cts)]
  exact uncV_curV (fun ys => f (x, ys)) xs
def valsV : (vs : List VT) → HV vs → List Value
 | [], _ => []
 | v :: vs, (x, xs) => v.val x :: valsV vs xs
def packV : (vs : List VT) → HV vs → Value
 | [v], (x, _) => v.val x
 | vs, xs => .tuple (valsV vs xs).toArray
abbrev Fact := Addr × List Value
def Held (w : World) (f : Fact) : Prop := ∀ j v, f.2[j]? = some v → w.cell? (f.1.add j) = some v
structure Alg where
 X : Type
 ret : Value → X
 fail : String → X
 ite : Bool → X → X → X
 nn : Option Addr → (Addr → X) → X
 ld : (c : CT) → Addr → (c.T → X) → X
 ldRow : Nat → Addr → (Array Value → X) → X
 st : Addr → Value → X → X
 new : Obj → (Nat → X) → X
 shape : Nat → (Option (TypeId × Nat) → X) → X
 idx : Option Addr → Nat → Int → Nat → (Addr → X) → X
 chr : ByteArray → Int → (Int → X) → X
 sub : ByteArray → Int → Int → (ByteArray → X) → X
 reslice : Option Addr → Nat → Int → Int → Int → Nat → (Option Addr → Nat → Nat → X) → X
 cat : ByteArray → ByteArray → (ByteArray → X) → X
 assume : Bool → X → X
 op : Sem Value → (v : VT) → Cur X v.cts → X
 opU : Sem Unit → X → X
 opV : Sem Value → (vs : List VT) → CurV X vs → X
 panic : Value → X
 call : FuncId → Array Value → (vs : List VT) → CurV X vs → X
 callV : Value → Array Value → (vs : List VT) → CurV X vs → X
 join : (vs : List VT) → (CurV X vs → X) → CurV X vs → X
 loop : (vs : List VT) → (CurV X vs → CurV X vs) → CurV X vs
 keep : List Fact → X → X
 drew : X → X
 both : X → X → X
inductive EV where
 | v (x : Value)
 | kb (b : Bool)
 | opq (x : Value)
def EV.val : EV → Value
 | .v x => x
 | .kb b => .bool b
 | .opq x => x
def mkEV : (v : VT) → v.T → EV
 | .one .any, (x, _) => .opq x
 | v, x => .v (v.val x)
theorem mkEV_val (v : VT) (x : v.T) : (mkEV v x).val = v.val x := by
 unfold mkEV
 split <;> rfl
abbrev Env := List (Nat × EV)
def Env.get : Env → Nat → Option EV
 | [], _ => none
 | (i, x) :: e, t => match Nat.beq i t with
  | true => some x
  | false => Env.get e t
def memN : List Nat → Nat → Bool
 | [], _ => false
 | i :: l, t => match Nat.beq i t with
  | true => true
  | false => memN l t
def Env.rem (ds : List Nat) : Env → Env
 | [] => []
 | (i, x) :: e => match memN ds i with
  | true => Env.rem ds e
  | false => (i, x) :: Env.rem ds e
def Env.keys : Env → List Nat
 | [] => []
 | (i, _) :: e => i :: Env.keys e
def Env.ev (e : Env) : Operand → Option EV
 | .tmp t => e.get t
 | .const v => some (.v v)
 | .global g => some (.v (.pointer (some ⟨g, 0, none⟩)))
 | .func f => some (.v (.func (.func f) #[] #[]))
def Env.ρ (e : Env) (x : Operand) : Value :=
 match e.ev x with
 | some u => u.val
 | none => undef
def Env.has (e : Env) (x : Operand) : Bool := (e.ev x).isSome
def forceL {X : Type} : List Nat → (List Nat → X) → X
 | [], k => k []
 | a :: l, k => forceL l fun l' => k (a :: l')
def forceE {X : Type} : Env → (Env → X) → X
 | [], k => k []
 | (i, .v x) :: e, k => forceE e fun e' => k ((i, .v x) :: e')
 | (i, .kb x) :: e, k => forceE e fun e' => k ((i, .kb x) :: e')
 | (i, .opq x) :: e, k => forceE e fun e' => k ((i, .opq x) :: e')
theorem forceL_eq {X : Type} : ∀ (l : List Nat) (k : List Nat → X), forceL l k = k l
 | [], _ => rfl
 | _ :: l, _ => forceL_eq l _
theorem forceE_eq {X : Type} : ∀ (e : Env) (k : Env → X), forceE e k = k e
 | [], _ => rfl
 | (_, .v _) :: e, _ => forceE_eq e _
 | (_, .kb _) :: e, _ => forceE_eq e _
 | (_, .opq _) :: e, _ => forceE_eq e _
section types
variable (P : Program)
def ctOf (t : TypeId) : Option CT :=
 match P.underlying t with
 | some (.int k) => some (.int k)
 | some .bool => some .bool
 | some .string => some .str
 | some (.pointer _) => some .ptr
 | some .unsafePointer => some .ptr
 | some (.slice _) => some .slice
 | some (.map ..) => some .map
 | some (.func ..) => some .any
 | some (.interface _) => some .any
 | some (.chan ..) => some .any
 | some (.float _) => some .any
 | _ => none
def catO : List (Option (List CT)) → Option (List CT)
 | [] => some []
 | some l :: r => match catO r with
  | some l' => some (l ++ l')
  | none => none
 | none :: _ => none
def flatT : Nat → TypeId → Option (List CT)
 | 0, _ => none
 | n + 1, t => match P.underlying t with
  | some (.struct fs) => catO (fs.toList.map fun f => flatT n f.type)
  | some (.array len e) => match Nat.ble (P.cellsOf t) 12 with
   | true => catO (List.replicate len (flatT n e))
   | false => none
  | _ => match ctOf P t with
   | some c => some [c]
   | none => none
def vtOf (t : TypeId) : Option VT :=
 match P.underlying t with
 | some (.struct _) | some (.array ..) => match flatT P 8 t with
  | some cs => match Nat.beq cs.length (P.cellsOf t) with
   | true => some (.agg cs)
   | false => some (.one .row)
  | none => some (.one .row)
 | _ => match ctOf P t with
  | some c => some (.one c)
  | none => none
def vtsOf : List TypeId → Option (List VT)
 | [] => some []
 | t :: ts => match vtOf P t with
  | some v => match vtsOf ts with
   | some vs => some (v :: vs)
   | none => none
  | none => none
def resOf (f : FuncId) : Option (List VT) :=
 match P.funcs[f]? with
 | some fn => match fn.body with
  | some _ => match fn.name == "runtime.NumGoroutine" with
   | true => none
   | false => vtsOf P fn.resultTypes.toList
  | none => none
 | none => none
def resT (t : TypeId) : Option (List VT) :=
 match Nat.beq t 0 with
 | true => some []
 | false => match P.underlying t with
  | some (.tuple ts) => vtsOf P ts.toList
  | _ => match vtOf P t with
   | some v => some [v]
   | none => none
def pureVal : Sem Next → Option Value
 | .pure (.value v) => some v
 | .program k => pureVal (k P)
 | _ => none
end types
def eqSem (op : BinOp) (t : TypeId) (x y : Operand) (a b : Value) : Sem Value := do eqGuard op t x y a b; binOp op t a b
section den
variable (P : Program) (A : Alg)
def zeroOf (t : TypeId) : Array Value :=
 match P.info? t with
 | some i => match i.zero with
  | some z => z.cells
  | none => #[]
 | none => #[]
def hasZero (t : TypeId) : Bool :=
 match P.info? t with
 | some i => i.zero.isSome
 | none => false
def denSem : Sem Next → (Next → A.X) → A.X
 | .pure n, k => k n
 | .program f, k => denSem (f P) k
 | .new o f, k => A.new o fun r => denSem (f r) k
 | .shape r f, k => A.shape r fun s => denSem (f s) k
 | .store _ a v f, k => A.st a v (denSem f k)
 | .mark _ f, k => denSem f k
 | _, _ => A.fail "sem"
def denPure (o : Oper) (env : Env) (k : EV → List Fact → A.X) : A.X :=
 match pureVal P (execOp env.ρ o) with
 | some v => k (.v v) []
 | none => A.fail "pure"
def denPick (c a b : Operand) (env : Env) (k : EV → List Fact → A.X) : A.X :=
 match env.ev a, env.ev b with
 | some ea, some eb => match env.ev c with
  | some (.kb true) => k ea []
  | some (.kb false) => k eb []
  | some (.v (.bool t)) => A.ite t (k ea []) (k eb [])
  | _ => A.fail "pick"
 | _, _ => A.fail "pick"
def denNil (o : Oper) (x : Operand) (env : Env) (k : EV → List Fact → A.X) : A.X :=
 match env.ev x with
 | some (.v (.pointer p)) => A.nn p fun a => k (.v (.pointer (some a))) []
 | some (.v _) => denPure P A o env k
 | _ => A.fail "nilCheck"
def denField (s : TypeId) (x : Operand) (f : Nat) (env : Env) (k : EV → List Fact → A.X) : A.X :=
 match P.underlying s with
 | some (.struct fs) => match fs[f]?, env.ρ x with
  | some fld, .pointer (some a) => match Nat.beq (P.cellsOf fld.type) 0 with
   | false => k (.v (.pointer (some (a.add fld.offset)))) []
   | true => A.fail "fieldAddr"
  | _, _ => A.fail "fieldAddr"
 | _ => A.fail "fieldAddr"
def denIdxA (t : TypeId) (x i : Operand) (env : Env) (k : EV → List Fact → A.X) : A.X :=
 match P.underlying t with
 | some (.slice e) => match P.info? e, env.ρ x, env.ρ i with
  | some ti, .slice p n _, .int _ j => A.idx p n j ti.size fun a => k (.v (.pointer (some a))) []
  | _, _, _ => A.fail "indexAddr"
 | some (.array len e) => match P.info? e, env.ρ x, env.ρ i with
  | some ti, .pointer p, .int _ j => match Nat.ble len 1 with
   | false => A.idx p len j ti.size fun a => k (.v (.pointer (some a))) []
   | true => A.fail "indexAddr"
  | _, _, _ => A.fail "indexAddr"
 | _ => A.fail "indexAddr"
def denIdx (o : Oper) (t : TypeId) (x i : Operand) (env : Env) (k : EV → List Fact → A.X) : A.X :=
 match P.underlying t with
 | some .string => match env.ρ x, env.ρ i with
  | .string s, .int _ j => A.chr s j fun n => k (.v (.int .u8 n)) []
  | _, _ => A.fail "index"
 | _ => denPure P A o env k
def bnd (env : Env) : Option Operand → Int → Option Int
 | none, d => some d
 | some x, _ => match env.ρ x with
  | .int _ n => some n
  | _ => none
def denSlice (t : TypeId) (x : Operand) (lo hi mx : Option Operand) (env : Env) (k : EV → List Fact → A.X) : A.X :=
 match P.underlying t with
 | some .string => match mx, env.ρ x with
  | none, .string s => match bnd env lo 0, bnd env hi s.size with
   | some l, some h => A.sub s l h fun r => k (.v (.string r)) []
   | _, _ => A.fail "slice"
  | _, _ => A.fail "slice"
 | some (.slice e) => match P.info? e, env.ρ x with
  | some ti, .slice p n c => match hi, mx with
   | none, some _ => A.fail "slice"
   | _, _ => match bnd env lo 0, bnd env hi n, bnd env mx c with
    | some l, some h, some m => A.assume (decide (m ≤ c)) (A.reslice p c l h m ti.size fun a n' c' => k (.v (.slice a n' c')) [])
    | _, _, _ => A.fail "slice"
  | _, _ => A.fail "slice"
 | some (.array n e) => match P.info? e, env.ρ x with
  | some ti, .pointer (some a) => match hi, mx with
   | none, some _ => A.fail "slice"
   | _, _ => match bnd env lo 0, bnd env hi n, bnd env mx n with
    | some l, some h, some m => A.assume (decide (m ≤ n)) (A.reslice (some a) n l h m ti.size fun b n' c' => k (.v (.slice b n' c')) [])
    | _, _, _ => A.fail "slice"
  | _, _ => A.fail "slice"
 | _ => A.fail "slice"
def ldCells : (cs : List CT) → Addr → Nat → List Value → (List Value → A.X) → A.X
 | [], _, _, acc, k => k acc.reverse
 | c :: cs, a, i, acc, k => A.ld c (a.add i) fun x => ldCells cs a (i + 1) (c.val x :: acc) k
def denLoad (t : TypeId) (x : Operand) (env : Env) (k : EV → List Fact → A.X) : A.X :=
 match env.ρ x with
 | .pointer (some a) => match P.underlying t with
  | some (.struct _) | some (.array ..) => match vtOf P t with
   | some (.agg cs) => match Nat.beq cs.length (P.cellsOf t) with
    | true => ldCells A cs a 0 [] fun l => k (.v (.agg l.toArray)) [(a, l)]
    | false => A.fail "load"
   | some (.one .row) => A.ldRow (P.cellsOf t) a fun cs => k (.v (.agg cs)) [(a, cs.toList)]
   | _ => A.fail "load"
  | some _ => match ctOf P t with
   | some c => A.ld c a fun y => k (mkEV (.one c) (y, ())) [(a, [c.val y])]
   | none => A.fail "load"
  | none => A.fail "load"
 | _ => A.fail "load"
def isNilC : Operand → Bool
 | .const (.pointer none) => true
 | .const (.slice none _ _) => true
 | _ => false
def denBin (o : Oper) (op : BinOp) (t : TypeId) (x y : Operand) (env : Env) (k : EV → List Fact → A.X) : A.X :=
 match P.underlying t, op with
 | some .string, .add => match env.ρ x, env.ρ y with
  | .string a, .string b => A.cat a b fun s => k (.v (.string s)) []
  | _, _ => A.fail "add"
 | some (.int _), .quo => match env.ρ x, env.ρ y with
  | .int q a, .int q' b => match decide (q = q') with
   | true => A.assume (b != 0) (k (.v (.int q (q.wrap (a.tdiv b)))) [])
   | false => A.fail "quo"
  | _, _ => A.fail "quo"
 | some (.int _), .rem => match env.ρ x, env.ρ y with
  | .int q a, .int q' b => match decide (q = q') with
   | true => A.assume (b != 0) (k (.v (.int q (a.tmod b))) [])
   | false => A.fail "rem"
  | _, _ => A.fail "rem"
 | some (.int _), .shl => match env.ρ x, env.ρ y with
  | .int q a, .int _ b => A.assume (decide (0 ≤ b)) (k (.v (.int q (q.wrap (a * 2 ^ (min b.toNat q.bits))))) [])
  | _, _ => A.fail "shl"
 | some (.int _), .shr => match env.ρ x, env.ρ y with
  | .int q a, .int _ b => A.assume (decide (0 ≤ b)) (k (.v (.int q (a.fdiv (2 ^ (min b.toNat q.bits))))) [])
  | _, _ => A.fail "shr"
 | some (.pointer _), .eql => match isNilC y, env.ρ x, env.ρ y with
  | true, .pointer p, .pointer none => k (.v (.bool p.isNone)) []
  | _, _, _ => A.fail "eql"
 | some (.pointer _), .neq => match isNilC y, env.ρ x, env.ρ y with
  | true, .pointer p, .pointer none => k (.v (.bool (!p.isNone))) []
  | _, _, _ => A.fail "neq"
 | some (.slice _), .eql => match isNilC y, env.ρ x, env.ρ y with
  | true, .slice p _ _, .slice none _ _ => k (.v (.bool p.isNone)) []
  | _, _, _ => A.fail "eql"
 | some (.slice _), .neq => match isNilC y, env.ρ x, env.ρ y with
  | true, .slice p _ _, .slice none _ _ => k (.v (.bool (!p.isNone))) []
  | _, _, _ => A.fail "neq"
 | _, _ => denPure P A o env k
def simpleT (t : TypeId) : Bool :=
 match P.underlying t with
 | some (.int _) | some .bool | some .string | some (.float _) => true
 | _ => false
def isVal (o : Oper) : Bool :=
 match o.op with
 | .move _ | .assign _ | .pick .. | .nilCheck _ | .fieldAddr .. | .field .. | .indexAddr .. | .index .. | .slice .. | .extract .. | .build .. | .makeInterface .. | .makeFunc .. | .load .. | .unOp .. => true
 | .convert s d _ => simpleT P s && simpleT P d
 | .binOp op t _ y _ => match op with
  | .eql | .neq => simpleT P t || isNilC y
  | _ => simpleT P t
 | .call { callee := .builtin .len, argTypes, .. } | .call { callee := .builtin .cap, argTypes, .. } =>
  match P.underlying (argTypes.getD 0 0) with
  | some (.map ..) | some (.chan ..) => false
  | _ => true
 | .call { callee := .builtin .min, argTypes, .. } | .call { callee := .builtin .max, argTypes, .. } =>
  match P.underlying (argTypes.getD 0 0) with
  | some (.int _) => true
  | _ => false
 | _ => false
def hasAll (o : Oper) (env : Env) : Bool := o.op.operands.toList.all env.has
def denVal (o : Oper) (env : Env) (k : EV → List Fact → A.X) : A.X :=
 match hasAll o env with
 | false => A.fail "operand"
 | true => match o.op with
  | .move x | .assign x => match env.ev x with
   | some e => k e []
   | none => A.fail "move"
  | .pick c a b => denPick A c a b env k
  | .nilCheck x => denNil P A o x env k
  | .fieldAddr s x f => denField P A s x f env k
  | .indexAddr t x i => denIdxA P A t x i env k
  | .index t x i => denIdx P A o t x i env k
  | .slice t x lo hi mx => denSlice P A t x lo hi mx env k
  | .load t x => denLoad P A t x env k
  | .binOp op t x y _ => denBin P A o op t x y env k
  | _ => denPure P A o env k
variable (n : Nat) (bk : List Nat)
def putE (dst : Option Tmp) (e : EV) (env : Env) (k : Env → A.X) : A.X :=
 match dst with
 | none => k env
 | some d => match Nat.blt d n && !memN bk d with
  | true => k ((d, e) :: env)
  | false => A.fail "put"
def denOpT (s : Sem Value) (t : TypeId) (dst : Option Tmp) (env : Env) (k : Env → A.X) : A.X :=
 match P.underlying t with
 | some (.tuple ts) => match vtsOf P ts.toList with
  | some _ => A.fail "tuple"
  | none => A.fail "tuple"
 | _ => match vtOf P t with
  | some v => A.op s v (cur fun x => putE A n bk dst (mkEV v x) env k)
  | none => A.fail "type"
def packE : (vs : List VT) → HV vs → EV
 | [v], (x, _) => mkEV v x
 | vs, xs => .v (packV vs xs)
def denOpR (s : Sem Value) (t : TypeId) (dst : Option Tmp) (env : Env) (k : Env → A.X) : A.X :=
 match resT P t with
 | some vs => A.opV s vs (curV fun xs => putE A n bk dst (packE vs xs) env k)
 | none => A.fail "type"
def denCall (o : Oper) (f : FuncId) (args : Array Value) (env : Env) (k : Env → A.X) : A.X :=
 match resOf P f with
 | some vs => A.call f args vs (curV fun xs => putE A n bk o.dst (match vs, xs with | [v], (x, _) => mkEV v x | vs, xs => .v (packV vs xs)) env k)
 | none => A.fail "call"
def denStore (t : TypeId) (x v : Operand) (env : Env) (k : Env → A.X) (dst : Option Tmp) : A.X :=
 match env.ρ x with
 | .pointer (some a) => match vtOf P t with
  | some (.one .row) => A.opU (storeVar t a (env.ρ v)) (putE A n bk dst (.v undef) env k)
  | some (.agg _) => match env.ρ v with
   | .agg cs => match Nat.beq cs.size (P.cellsOf t) with
    | true => go a cs.toList 0
    | false => A.fail "store"
   | _ => A.fail "store"
  | some (.one _) => match Nat.beq (P.cellsOf t) 1 with
   | true => A.st a (env.ρ v) (putE A n bk dst (.v undef) env k)
   | false => A.fail "store"
  | none => A.fail "store"
 | _ => A.fail "store"
where
  go (a : Addr) : List Value → Nat → A.X
  | [], _ => putE A n bk dst (.v undef) env k
  | v :: vs, i => A.st (a.add i) v (go a vs (i + 1))
def onePart (m : Nat) (ps : Array (Nat × Operand)) : Option Operand :=
 match Nat.beq m 1, ps.toList with
 | true, [(i, x)] => match Nat.beq i 0 with
  | true => some x
  | false => none
 | _, _ => none
def denPlain (o : Oper) (env : Env) (k : Env → A.X) : A.X :=
 denSem P A (execOp env.ρ o) fun
  | .value v => putE A n bk o.dst (.v v) env k
  | .skip => putE A n bk o.dst (.v undef) env k
  | _ => A.fail "next"
def denBuild (o : Oper) (t : TypeId) (m : Nat) (parts : Array (Nat × Operand)) (env : Env) (k : Env → A.X) : A.X :=
 match onePart m parts with
 | none => denPlain P A n bk o env k
 | some x => match P.underlying t with
  | some (.slice e) => match hasZero P e && Nat.beq (zeroOf P e).size (P.cellsOf e) && Nat.ble 1 (P.cellsOf e) && Nat.ble (P.cellsOf e) 4096 with
   | true => match env.ev x with
    | some (.v (.agg cs)) => A.assume (Nat.beq cs.size (P.cellsOf e)) (A.new (.cells cs e (0, 0)) fun b => putE A n bk o.dst (.v (.slice (some ⟨b, 0, none⟩) 1 1)) env k)
    | some u => match Nat.beq (P.cellsOf e) 1 with
     | true => A.assume u.val.oneCell' (A.new (.cells #[u.val] e (0, 0)) fun b => putE A n bk o.dst (.v (.slice (some ⟨b, 0, none⟩) 1 1)) env k)
     | false => A.fail "buildSlice"
    | none => A.fail "buildSlice"
   | false => A.fail "buildSlice"
  | _ => A.fail "buildSlice"
def denEff (o : Oper) (env : Env) (k : Env → A.X) : A.X :=
 match hasAll o env with
 | false => A.fail "operand"
 | true => match o.op with
  | .store t x v => denStore P A n bk t x v env k o.dst
  | .call { callee := .value (.func f), args, .. } => denCall P A n bk o f (args.map env.ρ) env k
  | .call { callee := .value (.tmp t), args, .. } => match env.get t with
   | some (.v (.func (.func f) first captured)) => denCall P A n bk o f (first ++ args.map env.ρ ++ captured) env k
   | some (.opq fv) => match resT P o.type with
    | some vs => A.callV fv (args.map env.ρ) vs (curV fun xs => putE A n bk o.dst (packE vs xs) env k)
    | none => A.fail "callV"
   | _ => A.fail "callee"
  | .call { callee := .builtin .append, args, argTypes } => denOpT P A n bk (Builtin.append_ argTypes o.type (args.map env.ρ)) o.type o.dst env k
  | .call { callee := .builtin .copy, args, argTypes } => A.op (Builtin.copy_ argTypes o.type (args.map env.ρ)) (.one (.int .i64)) fun x => putE A n bk o.dst (.v (.int .i64 x)) env k
  | .alloc t => match hasZero P t with
   | true => A.new (.cells (zeroOf P t) t (0, 0)) fun b => putE A n bk o.dst (.v (.pointer (some ⟨b, 0, none⟩))) env k
   | false => A.fail "alloc"
  | .buildSlice t m parts => denBuild P A n bk o t m parts env k
  | .makeSlice t l c => denOpT P A n bk (Instr.makeSlice t (env.ρ l) (env.ρ c)) t o.dst env k
  | .convert s d x => denOpT P A n bk (convert s d (env.ρ x)) d o.dst env k
  | .binOp op t x y _ => A.op (eqSem op t x y (env.ρ x) (env.ρ y)) (.one .bool) fun b => putE A n bk o.dst (.v (.bool b)) env k
  | .call { callee := .builtin .clear, args, argTypes } => denOpR P A n bk (Builtin.clear_ argTypes o.type (args.map env.ρ)) o.type o.dst env k
  | .call { callee := .builtin .delete, args, argTypes } => denOpR P A n bk (Builtin.delete_ argTypes o.type (args.map env.ρ)) o.type o.dst env k
  | .call { callee := .builtin .len, args, argTypes } => denOpR P A n bk (Builtin.len_ argTypes o.type (args.map env.ρ)) o.type o.dst env k
  | .makeMap t r => denOpT P A n bk (Instr.makeMap t (r.map env.ρ)) t o.dst env k
  | .mapUpdate t m kk x | .insert t m kk x => A.opU (Instr.mapUpdate t (env.ρ m) (env.ρ kk) (env.ρ x)) (putE A n bk o.dst (.v undef) env k)
  | .lookup t x i ok => denOpR P A n bk (Instr.lookup t (env.ρ x) (env.ρ i) ok) o.type o.dst env k
  | .typeAssert x xT as ok => match pureVal P (execOp env.ρ o) with
   | some v => putE A n bk o.dst (.v v) env k
   | none => denOpR P A n bk (Instr.typeAssert (env.ρ x) xT as ok) o.type o.dst env k
  | .panic x => A.panic (env.ρ x)
  | .call _ => A.fail "builtin"
  | .select .. => A.fail "select"
  | _ => denPlain P A n bk o env k
def denOp (o : Oper) (env : Env) (k : Env → A.X) : A.X :=
 match isVal P o with
 | true => denVal P A o env fun e _ => putE A n bk o.dst e env k
 | false => denEff P A n bk o env k
inductive GS where
 | run
 | skip
 | split (d : Nat) (b want : Bool)
 | bad
def gd (ops : List Oper) (env : Env) (o : Oper) : GS :=
 match o.guard with
 | none => .run
 | some (j, want) => match ops[j]? with
  | some oj => match oj.dst with
   | some d => match env.get d with
    | some (.kb b) => match b, want with
     | true, true => .run
     | false, false => .run
     | _, _ => .skip
    | some (.v (.bool b)) => .split d b want
    | some (.v (.tuple _)) => .skip
    | _ => .bad
   | none => .bad
  | none => .bad
def denOps (ops : List Oper) : List Oper → Env → (Env → A.X) → A.X
 | [], env, k => k env
 | o :: l, env, k =>
  match gd ops env o with
  | .run => denOp P A n bk o env fun env' => denOps ops l env' k
  | .skip => putE A n bk o.dst (.v undef) env fun env' => denOps ops l env' k
  | .split d b want => A.ite b
    (match want with
     | true => denOp P A n bk o ((d, .kb true) :: env) fun env' => denOps ops l env' k
     | false => putE A n bk o.dst (.v undef) ((d, .kb true) :: env) fun env' => denOps ops l env' k)
    (match want with
     | false => denOp P A n bk o ((d, .kb false) :: env) fun env' => denOps ops l env' k
     | true => putE A n bk o.dst (.v undef) ((d, .kb false) :: env) fun env' => denOps ops l env' k)
  | .bad => A.fail "guard"
def movable (ops : List Oper) (env : Env) (o : Oper) : Bool :=
 match gd ops env o with
 | .skip => true
 | .bad => false
 | _ => isVal P o
abbrev OF := Nat × Fact
def edge1 (o : Oper) (i : Nat) : Bool := o.after.toList.any fun e => Region.binds .any e && Nat.beq e.on i
def dep2 (ops : List Oper) (o : Oper) (i : Nat) : Bool :=
 edge1 o i || o.after.toList.any fun e => Region.binds .any e && match ops[e.on]? with
  | some m => edge1 m i
  | none => false
def stillF (ops : List Oper) (o : Oper) : List OF → List OF
 | [] => []
 | (i, f) :: fs => match dep2 ops o i with
  | true => stillF ops o fs
  | false => (i, f) :: stillF ops o fs
def factsOf : List OF → List Fact
 | [] => []
 | (_, f) :: fs => f :: factsOf fs
def own (i : Nat) : List Fact → List OF → List OF
 | [], r => r
 | f :: fs, r => (i, f) :: own i fs r
def oneVal (i : Nat) (o : Oper) (env : Env) (fs : List OF) (next : Env → List OF → A.X) : A.X :=
 denVal P A o env fun e fs' => putE A n bk o.dst e env fun env' => next env' (own i fs' fs)
def oneSkip (o : Oper) (env : Env) (fs : List OF) (next : Env → List OF → A.X) : A.X :=
 putE A n bk o.dst (.v undef) env fun env' => next env' fs
def oneEff (ops : List Oper) (o : Oper) (env : Env) (fs : List OF) (next : Env → List OF → A.X) : A.X :=
 denOp P A n bk o env fun env' => match stillF ops o fs with
  | [] => next env' fs
  | f :: r => A.keep (factsOf (f :: r)) (next env' fs)
def one (val : Bool) (ops : List Oper) (i : Nat) (o : Oper) (env : Env) (fs : List OF) (next : Env → List OF → A.X) : A.X :=
 let run := fun env => match val with
  | true => oneVal P A n bk i o env fs next
  | false => oneEff P A n bk ops o env fs next
 match gd ops env o with
 | .run => run env
 | .skip => oneSkip A n bk o env fs next
 | .split d b want => A.ite b
   (match want with
    | true => run ((d, .kb true) :: env)
    | false => oneSkip A n bk o ((d, .kb true) :: env) fs next)
   (match want with
    | false => run ((d, .kb false) :: env)
    | true => oneSkip A n bk o ((d, .kb false) :: env) fs next)
 | .bad => A.fail "guard"
def bothL : List A.X → A.X
 | [] => A.fail "none"
 | [x] => x
 | x :: xs => A.both x (bothL xs)
def listedOf (m : Nat) (done : List Nat) : Array Bool := done.foldr (fun i acc => acc.setIfInBounds i true) (Array.replicate m false)
def inN (m : Nat) (done : List Nat) (j : Nat) : Bool := Nat.blt j m && memN done j
def waitsL (m : Nat) (done : List Nat) : List Edge → Bool
 | [] => true
 | e :: es => match !Region.binds .any e || inN m done e.on with
  | true => waitsL m done es
  | false => false
def readyL (m : Nat) (done : List Nat) : List Oper → Nat → List Nat
 | [], _ => []
 | o :: os, i => match memN done i with
  | true => readyL m done os (i + 1)
  | false => match waitsL m done o.after.toList with
   | true => i :: readyL m done os (i + 1)
   | false => readyL m done os (i + 1)
def freeL (ops : Array Oper) (oi : Oper) (done : List Nat) (i : Nat) : List Oper → Nat → Bool
 | [], _ => true
 | oj :: os, j => match Nat.beq j i || memN done j with
  | true => freeL ops oi done i os (j + 1)
  | false => match oj.after.toList.any (fun e => Region.binds .any e && Nat.beq e.on i) || oi.apart ops oj with
   | true => freeL ops oi done i os (j + 1)
   | false => false
def pickable (ops : Array Oper) (done : List Nat) (env : Env) (i : Nat) : Bool :=
 match ops[i]? with
 | some o => movable P ops.toList env o && freeL ops o done i ops.toList 0
 | none => false
def denDraw (ops : Array Oper) : Nat → List Nat → List OF → Env → (Env → A.X) → A.X
 | 0, done, _, env, k => match readyL ops.size done ops.toList 0 with
  | [] => k env
  | _ => A.fail "draw"
 | fuel + 1, done, fs, env, k =>
  forceL (readyL ops.size done ops.toList 0) fun rs => match rs with
  | [] => k env
  | rs => match rs.find? (pickable P ops done env) with
   | some i => match ops[i]? with
    | some o => one P A n bk true ops.toList i o env fs fun env' fs' => denDraw ops fuel (i :: done) fs' env' k
    | none => A.fail "draw"
   | none => bothL A (rs.map fun i => match ops[i]? with
    | some o => one P A n bk false ops.toList i o env fs fun env' fs' => denDraw ops fuel (i :: done) fs' env' k
    | none => A.fail "draw")
def denRegion (ops : Array Oper) (draw : Bool) (env : Env) (k : Env → A.X) : A.X :=
 match draw with
 | false => denOps P A n bk ops.toList ops.toList env k
 | true => match Region.noSelect ops with
  | true => A.drew (denDraw P A n bk ops ops.size [] [] env k)
  | false => A.fail "select"
abbrev Slots := List (Nat × VT)
def Slots.vs : Slots → List VT
 | [] => []
 | (_, v) :: s => v :: Slots.vs s
def getSlots : (s : Slots) → Env → Option (HV (Slots.vs s))
 | [], _ => some ()
 | (t, v) :: s, env => match env.get t with
  | some e => match v.get e.val with
   | some x => match getSlots s env with
    | some xs => some (x, xs)
    | none => none
   | none => none
  | none => none
def putSlots : (s : Slots) → HV (Slots.vs s) → Env → Env
 | [], _, env => env
 | (t, v) :: s, (x, xs), env => (t, mkEV v x) :: putSlots s xs env
inductive H where
 | leaf
 | r (s : Slots)
 | seq (a b : H)
 | cond (a b : H)
 | condj (s : Slots) (a b : H)
 | block (s : Slots) (a : H)
 | loop (s : Slots) (a : H)
def dsts : Code → List Nat
 | .region _ ops _ => ops.toList.filterMap (·.dst)
 | .seq a b => dsts a ++ dsts b
 | .cond _ a b => dsts a ++ dsts b
 | .block _ a => dsts a
 | .loop a => dsts a
 | .scope a => dsts a
 | _ => []
def denJoin (s : Slots) (ds : List Nat) (env : Env) (bk : List Nat) (body : List Nat → (Env → A.X) → A.X) (k : Env → A.X) : A.X :=
 forceL ds fun ds => forceE (env.rem ds) fun base => forceL (bk ++ base.keys) fun bk' =>
 A.join s.vs (fun kj => body bk' fun env' => match getSlots s env' with
  | some xs => uncV kj xs
  | none => A.fail "join") (curV fun xs => forceE (putSlots s xs base) k)
inductive Ex where
 | normal
 | exit (id : Nat)
 | ret
def den : Code → H → List Nat → Env → (Ex → Env → A.X) → A.X
 | .skip, _, _, env, k => k .normal env
 | .region _ ops d, .r s, bk, env, k => denJoin A s (ops.toList.filterMap (·.dst)) env bk (fun bk' kj => denRegion P A n bk' ops d env kj) (k .normal)
 | .region _ ops d, _, bk, env, k => denRegion P A n bk ops d env (k .normal)
 | .seq a b, .leaf, bk, env, k => den a .leaf bk env fun e env' => match e with
  | .normal => den b .leaf bk env' k
  | e => k e env'
 | .seq a b, .seq ha hb, bk, env, k => den a ha bk env fun e env' => match e with
  | .normal => den b hb bk env' k
  | e => k e env'
 | .cond c x y, .leaf, bk, env, k => match env.ev c with
  | some (.kb true) => den x .leaf bk env k
  | some (.kb false) => den y .leaf bk env k
  | some (.v (.bool b)) => A.ite b (den x .leaf bk env k) (den y .leaf bk env k)
  | _ => A.fail "cond"
 | .cond c x y, .cond hx hy, bk, env, k => match env.ev c with
  | some (.kb true) => den x hx bk env k
  | some (.kb false) => den y hy bk env k
  | some (.v (.bool b)) => A.ite b (den x hx bk env k) (den y hy bk env k)
  | _ => A.fail "cond"
 | .cond c x y, .condj s hx hy, bk, env, k => denJoin A s (dsts x ++ dsts y) env bk (fun bk' kj =>
   let kk : Ex → Env → A.X := fun e env' => match e with
    | .normal => kj env'
    | e => k e env'
   match env.ev c with
   | some (.kb true) => den x hx bk' env kk
   | some (.kb false) => den y hy bk' env kk
   | some (.v (.bool b)) => A.ite b (den x hx bk' env kk) (den y hy bk' env kk)
   | _ => A.fail "cond") (k .normal)
 | .block id b, .block s hb, bk, env, k => denJoin A s (dsts b) env bk (fun bk' kj => den b hb bk' env fun e env' => match e with
   | .normal => kj env'
   | .exit i => match Nat.beq i id with
    | true => kj env'
    | false => k (.exit i) env'
   | e => k e env') (k .normal)
 | .loop b, .loop s hb, bk, env, k => match getSlots s env with
  | some xs0 => forceL (dsts b) fun ds => forceE (env.rem ds) fun base => forceL (bk ++ base.keys) fun bk' =>
   uncV (A.loop s.vs fun rec => curV fun xs => forceE (putSlots s xs base) fun env1 => den b hb bk' env1 fun e env' => match e with
    | .normal => match getSlots s env' with
     | some ys => uncV rec ys
     | none => A.fail "loop"
    | e => k e env') xs0
  | none => A.fail "loop"
 | .scope b, h, bk, env, k => den b h bk env k
 | .label _, _, _, env, k => k .normal env
 | .exit id, _, _, env, k => k (.exit id) env
 | .ret, _, _, env, k => k .ret env
 | _, _, _, _, _ => A.fail "code"
def denRes : List ResultVar → Env → List Value → A.X
 | [], _, acc => A.ret (match acc with
  | [v] => v
  | l => .tuple l.reverse.toArray)
 | .tmp t :: rs, env, acc => match env.get t with
  | some e => denRes rs env (e.val :: acc)
  | none => A.fail "result"
 | .cell a t :: rs, env, acc => match env.has (.tmp a) with
  | true => denLoad P A t (.tmp a) env fun e _ => denRes rs env (e.val :: acc)
  | false => A.fail "result"
def sl (P : Program) (l : List (Nat × TypeId)) : Slots :=
 l.map fun (s, t) => (s, match Nat.beq t 0 with
  | true => .one .addr
  | false => (vtOf P t).getD (.one .any))
def ptys (P : Program) (l : List TypeId) : List VT :=
 l.map fun t => match Nat.beq t 0 with
  | true => .one .addr
  | false => (vtOf P t).getD (.one .any)
def args0 : (vs : List VT) → HV vs → Nat → Env
 | [], _, _ => []
 | v :: vs, (x, xs), i => (i, mkEV v x) :: args0 vs xs (i + 1)
def denF (P : Program) (A : Alg) (f : Func) (ps : List VT) (h : H) : CurV A.X ps :=
 curV fun xs => match f.body with
  | some c => den P A f.ntmps c h [] (args0 ps xs 0) fun e env => match e with
   | .exit _ => A.fail "exit"
   | _ => denRes P A f.results.toList env []
  | none => A.fail "body"
end den
end Go.Lift
end
