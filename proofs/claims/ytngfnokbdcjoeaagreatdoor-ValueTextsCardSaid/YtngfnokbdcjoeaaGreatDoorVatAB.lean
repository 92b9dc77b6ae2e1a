/- The law behind: one part of its proof (joined by program out of my own texts). No condition. -/
import Derived.Test.YtngfnokbdcjoeaaGreatDoorVatAA
import Derived.Scope
import Derived.WalkKit
section
namespace Go.Lift
def G : Type := (Ending → World → Prop) → World → Prop
def retG (v : Value) : G := fun R w => R (.returned v) w
def failG (_ : String) : G := fun _ _ => False
def iteG (b : Bool) (x y : G) : G := match b with
 | true => x
 | false => y
theorem iteG_and {b : Bool} {x y : G} {R : Ending → World → Prop} {w : World} (h : iteG b x y R w) : (b = true → x R w) ∧ (b = false → y R w) := by
 cases b
 ·exact ⟨fun e => (by cases e), fun _ => h⟩
 ·exact ⟨fun _ => h, fun e => (by cases e)⟩
def nnG (p : Option Addr) (k : Addr → G) : G := match p with
 | some a => k a
 | none => fun _ _ => False
theorem nnG_ex {p : Option Addr} {k : Addr → G} {R : Ending → World → Prop} {w : World} (h : nnG p k R w) : ∃ a, p = some a ∧ k a R w := by
 cases p with
 | none => exact h.elim
 | some a => exact ⟨a, rfl, h⟩
def ldG (c : CT) (a : Addr) (k : c.T → G) : G := fun R w => ∃ x, w.cell? a = some (c.val x) ∧ k x R w
def ldRowG (n : Nat) (a : Addr) (k : Array Value → G) : G := fun R w => ∃ cs : Array Value, cs.size = n ∧ Held w (a, cs.toList) ∧ k cs R w
def stG (a : Addr) (v : Value) (k : G) : G := fun R w => v.oneCell' = true ∧ (∃ u, w.cell? a = some u) ∧ w.frozen? a = false ∧ k R (w.setCell a v)
def newG (o : Obj) (k : Nat → G) : G := fun R w => k w.heap.size R (w.alloc o)
def shapeG (r : Nat) (k : Option (TypeId × Nat) → G) : G := fun R w => k (w.shape? r) R w
def idxG (p : Option Addr) (n : Nat) (i : Int) (sz : Nat) (k : Addr → G) : G := fun R w => ∃ a, p = some a ∧ 0 ≤ i ∧ i < n ∧ k (a.add (i.toNat * sz)) R w
def byteAt (s : ByteArray) (i : Int) : Int := ((s.data.toList.getD i.toNat 0).toNat : Int)
def chrG (s : ByteArray) (i : Int) (k : Int → G) : G := fun R w => 0 ≤ i ∧ i < s.size ∧ k (byteAt s i) R w
def subG (s : ByteArray) (l h : Int) (k : ByteArray → G) : G := fun R w => 0 ≤ l ∧ l ≤ h ∧ h ≤ s.size ∧ k (s.extract l.toNat h.toNat) R w
def resliceG (p : Option Addr) (c : Nat) (l h m : Int) (sz : Nat) (k : Option Addr → Nat → Nat → G) : G := fun R w =>
 0 ≤ l ∧ l ≤ h ∧ h ≤ m ∧ m ≤ c ∧ k (if m.toNat = l.toNat then p else p.map (·.add (l.toNat * sz))) (h.toNat - l.toNat) (m.toNat - l.toNat) R w
def catG (a b : ByteArray) (k : ByteArray → G) : G := fun R w => a.size + b.size ≤ 9223372036854775807 ∧ k (a ++ b) R w
def assumeG (b : Bool) (k : G) : G := match b with
 | true => k
 | false => fun _ _ => False
theorem assumeG_and {b : Bool} {k : G} {R : Ending → World → Prop} {w : World} (h : assumeG b k R w) : b = true ∧ k R w := by
 cases b
 ·exact h.elim
 ·exact ⟨rfl, h⟩
def opG (P : Program) (s : Sem Value) (v : VT) (k : Cur G v.cts) : G := fun R w => ∃ (x : v.T) (w' : World), s.run P w = .ok (v.val x) w' ∧ unc k x R w'
def opUG (P : Program) (s : Sem Unit) (k : G) : G := fun R w => ∃ w' : World, s.run P w = .ok () w' ∧ k R w'
def callG (P : Program) (f : FuncId) (args : Array Value) (vs : List VT) (k : CurV G vs) : G := fun R w =>
 Calls P f args w fun e w' => (∃ xs, e = .returned (packV vs xs) ∧ uncV k xs R w') ∨ ∃ c, e = .panicked c ∧ R (.panicked c) w'
def callVG (P : Program) (fv : Value) (args : Array Value) (vs : List VT) (k : CurV G vs) : G := fun R w =>
 ∃ f a c, fv = .func (.func f) a c ∧ (resOf P f).isSome = true ∧ Calls P f (a ++ args ++ c) w fun e w' => (∃ xs, e = .returned (packV vs xs) ∧ uncV k xs R w') ∨ ∃ c, e = .panicked c ∧ R (.panicked c) w'
def opVG (P : Program) (s : Sem Value) (vs : List VT) (k : CurV G vs) : G := fun R w => ∃ (xs : HV vs) (w' : World), s.run P w = .ok (packV vs xs) w' ∧ uncV k xs R w'
def panicG (v : Value) : G := fun R w => (∃ t u, v = .iface t u) ∧ R (.panicked [{ v, recovered := false }]) w
def joinG (vs : List VT) (x : CurV G vs → G) (k : CurV G vs) : G := x k
def iterG (vs : List VT) (body : CurV G vs → CurV G vs) : Nat → CurV G vs
 | 0 => curV fun _ _ _ => False
 | n + 1 => body (iterG vs body n)
def loopG (vs : List VT) (body : CurV G vs → CurV G vs) : CurV G vs := curV fun xs R w => ∃ n, uncV (iterG vs body n) xs R w
def keepG (fs : List Fact) (k : G) : G := fun R w => (∀ f ∈ fs, Held w f) ∧ k R w
def drewG (k : G) : G := fun R w => k R w.drew
def bothG (x y : G) : G := fun R w => x R w ∧ y R w
def GA (P : Program) : Alg where
 X := G
 ret := retG
 fail := failG
 ite := iteG
 nn := nnG
 ld := ldG
 ldRow := ldRowG
 st := stG
 new := newG
 shape := shapeG
 idx := idxG
 chr := chrG
 sub := subG
 reslice := resliceG
 cat := catG
 assume := assumeG
 op := opG P
 opU := opUG P
 opV := opVG P
 panic := panicG
 call := callG P
 callV := callVG P
 join := joinG
 loop := loopG
 keep := keepG
 drew := drewG
 both := bothG
theorem unV {vs : List VT} {f : HV vs → G} {xs : HV vs} {R : Ending → World → Prop} {w : World} (h : uncV (curV f) xs R w) : f xs R w := by
 rw [uncV_curV] at h; exact h
theorem un1 {cs : List CT} {f : HL cs → G} {xs : HL cs} {R : Ending → World → Prop} {w : World} (h : unc (cur f) xs R w) : f xs R w := by
 rw [unc_cur] at h; exact h
section
variable {P : Program} {D : List Deferred}
theorem pureVal_run : ∀ {s : Sem Next} {v : Value}, pureVal P s = some v → ∀ w, s.run P w = .ok (.value v) w := by
 intro s
 induction s with
 | pure a =>
  intro v h w
  cases a <;> simp only [pureVal] at h <;> cases h
  rfl
 | program k ih =>
  intro v h w
  simp only [pureVal] at h
  simpa [Sem.run] using ih P h w
 | _ => intro v h; simp [pureVal] at h
structure EnvOk (D : List Deferred) (env : Env) (n : Nat) (a : Act) : Prop where
 size : a.tmps.size = n
 defers : a.defers = D
 get : ∀ t e, env.get t = some e → a.tmps.getD t undef = e.val
theorem EnvOk.ev {env : Env} {n : Nat} {a : Act} (h : EnvOk D env n a) {x : Operand} {e : EV} (hx : env.ev x = some e) : a.eval x = e.val := by
 cases x with
 | tmp t => exact h.get t e hx
 | const v => cases hx; rfl
 | global g => cases hx; rfl
 | func f => cases hx; rfl
theorem EnvOk.ρ {env : Env} {n : Nat} {a : Act} (h : EnvOk D env n a) {x : Operand} (hx : env.has x = true) : a.eval x = env.ρ x := by
 unfold Env.has at hx
 unfold Env.ρ
 cases he : env.ev x with
 | none => simp [he] at hx
 | some e => exact h.ev he
theorem noSel (P : Program) {o : Oper} (h : isVal P o = true) : ∀ cs b, o.op ≠ .select cs b := by
 intro cs b he
 simp [isVal, he] at h
theorem EnvOk.exec {env : Env} {n : Nat} {a : Act} (h : EnvOk D env n a) {o : Oper} (ha : hasAll o env = true) (hs : ∀ cs b, o.op ≠ .select cs b) :
  execOp a.eval o = execOp env.ρ o :=
 execOp_congr o hs fun x hx => h.ρ (by
  unfold hasAll at ha
  rw [List.all_eq_true] at ha
  exact ha x (Array.mem_toList_iff.2 hx))
def Gives (P : Program) (o : Oper) (env : Env) (e : EV) (fs : List Fact) : Prop :=
 ∀ w, (∀ f ∈ fs, Held w f) → (execOp env.ρ o).run P w = .ok (.value e.val) w
def ValOk (P : Program) (o : Oper) (env : Env) (k : EV → List Fact → G) (R : Ending → World → Prop) (w : World) : Prop :=
 ∃ e fs, k e fs R w ∧ (∀ f ∈ fs, Held w f) ∧ Gives P o env e fs
theorem denPure_ok {o : Oper} {env : Env} {k : EV → List Fact → G} {R : Ending → World → Prop} {w : World}
  (h : denPure P (GA P) o env k R w) : ValOk P o env k R w := by
 unfold denPure at h
 cases hv : pureVal P (execOp env.ρ o) with
 | none => simp only [hv] at h; exact h.elim
 | some v => simp only [hv] at h; exact ⟨.v v, [], h, by simp, fun w' _ => pureVal_run hv w'⟩
theorem ρ_ev {env : Env} {x : Operand} {e : EV} (h : env.ev x = some e) : env.ρ x = e.val := by simp [Env.ρ, h]
theorem denPick_ok {o : Oper} {c a b : Operand} (ho : o.op = .pick c a b) {env : Env} {k : EV → List Fact → G} {R : Ending → World → Prop} {w : World}
  (h : denPick (GA P) c a b env k R w) : ValOk P o env k R w := by
 unfold denPick at h
 cases ha : env.ev a with
 | none => simp only [ha] at h; exact h.elim
 | some ea =>
  cases hb : env.ev b with
  | none => simp only [ha, hb] at h; exact h.elim
  | some eb =>
   simp only [ha, hb] at h
   have run : ∀ t : Bool, (∃ e, env.ev c = some e ∧ e.val = .bool t) → Gives P o env (if t then ea else eb) [] := by
    rintro t ⟨e, he, hv⟩ w' _
    unfold execOp
    simp only [ho, ρ_ev he, hv, ρ_ev ha, ρ_ev hb, asBool]
    cases t <;> rfl
   cases hc : env.ev c with
   | none => simp only [hc] at h; exact h.elim
   | some ec =>
    simp only [hc] at h
    cases ec with
    | opq x => exact h.elim
    | kb t =>
     cases t
     ·exact ⟨eb, [], h, by simp, run false ⟨_, hc, rfl⟩⟩
     ·exact ⟨ea, [], h, by simp, run true ⟨_, hc, rfl⟩⟩
    | v x =>
     cases x <;> first | exact h.elim | skip
     rename_i t
     cases t
     ·exact ⟨eb, [], h, by simp, run false ⟨_, hc, rfl⟩⟩
     ·exact ⟨ea, [], h, by simp, run true ⟨_, hc, rfl⟩⟩
theorem denNil_ok {o : Oper} {x : Operand} (ho : o.op = .nilCheck x) {env : Env} {k : EV → List Fact → G} {R : Ending → World → Prop} {w : World}
  (h : denNil P (GA P) o x env k R w) : ValOk P o env k R w := by
 unfold denNil at h
 cases hx : env.ev x with
 | none => simp only [hx] at h; exact h.elim
 | some e =>
  simp only [hx] at h
  cases e with
  | opq y => exact h.elim
  | kb b => exact h.elim
  | v y =>
   cases y <;> first | exact denPure_ok h | skip
   rename_i p
   obtain ⟨a, rfl, hk⟩ := nnG_ex h
   refine ⟨_, [], hk, by simp, fun w' _ => ?_⟩
   unfold execOp
   simp only [ho, ρ_ev hx, EV.val]
   rfl
theorem run_u {t : TypeId} {d : TypeDesc} (h : P.underlying t = some d) (w : World) : (underlying t).run P w = .ok d w := by
 simp [underlying, h]
theorem run_size {t : TypeId} {i : TypeInfo} (h : P.info? t = some i) (w : World) : (sizeOf t).run P w = .ok i.size w := by
 simp [sizeOf, typeInfo, h]
theorem cellsOf_info {t : TypeId} {i : TypeInfo} (h : P.info? t = some i) : P.cellsOf t = i.size := by simp [Program.cellsOf, h]
theorem info_of_cells {t : TypeId} (h : P.cellsOf t ≠ 0) : ∃ i, P.info? t = some i := by
 unfold Program.cellsOf at h
 cases hi : P.info? t with
 | none => simp [hi] at h
 | some i => exact ⟨i, rfl⟩
theorem denField_ok {o : Oper} {s : TypeId} {x : Operand} {f : Nat} (ho : o.op = .fieldAddr s x f) {env : Env} {k : EV → List Fact → G} {R : Ending → World → Prop} {w : World}
  (h : denField P (GA P) s x f env k R w) : ValOk P o env k R w := by
 unfold denField at h
 cases hs : P.underlying s with
 | none => simp only [hs] at h; exact h.elim
 | some d =>
  simp only [hs] at h
  cases d <;> first | exact h.elim | skip
  rename_i fs
  dsimp only at h
  cases hf : fs[f]? with
  | none => simp only [hf] at h; exact h.elim
  | some fld =>
   simp only [hf] at h
   cases hx : env.ρ x <;> simp only [hx] at h <;> first | exact h.elim | skip
   rename_i p
   cases p with
   | none => exact h.elim
   | some a =>
    dsimp only at h
    cases hb : Nat.beq (P.cellsOf fld.type) 0 with
    | true => simp only [hb] at h; exact h.elim
    | false =>
     simp only [hb] at h
     have hne : P.cellsOf fld.type ≠ 0 := fun e => by rw [e] at hb; cases hb
     obtain ⟨i, hi⟩ := info_of_cells hne
     refine ⟨_, [], h, by simp, fun w' _ => ?_⟩
     rw [cellsOf_info hi] at hne
     unfold execOp
     simp [ho, hx, Instr.fieldAt, run_u hs, hf, Instr.sureAddr, fieldPlace, run_size hi, hne, EV.val]
theorem denIdxA_ok {o : Oper} {t : TypeId} {x i : Operand} (ho : o.op = .indexAddr t x i) {env : Env} {k : EV → List Fact → G} {R : Ending → World → Prop} {w : World}
  (h : denIdxA P (GA P) t x i env k R w) : ValOk P o env k R w := by
 unfold denIdxA at h
 cases hs : P.underlying t with
 | none => simp only [hs] at h; exact h.elim
 | some d =>
  simp only [hs] at h
  cases d <;> first | exact h.elim | skip
  case slice e =>
   dsimp only at h
   cases hi : P.info? e with
   | none => simp only [hi] at h; exact h.elim
   | some ti =>
    simp only [hi] at h
    cases hx : env.ρ x <;> simp only [hx] at h <;> first | exact h.elim | skip
    rename_i p n c
    cases hj : env.ρ i <;> simp only [hj] at h <;> first | exact h.elim | skip
    rename_i q j
    obtain ⟨a, rfl, h0, h1, hk⟩ := h
    refine ⟨_, [], hk, by simp, fun w' _ => ?_⟩
    unfold execOp
    simp [ho, hx, hj, Instr.indexAt, asIntOf, run_u hs, run_size hi, h0, h1, EV.val]
  case array len e =>
   dsimp only at h
   cases hi : P.info? e with
   | none => simp only [hi] at h; exact h.elim
   | some ti =>
    simp only [hi] at h
    cases hx : env.ρ x <;> simp only [hx] at h <;> first | exact h.elim | skip
    rename_i p
    cases hj : env.ρ i <;> simp only [hj] at h <;> first | exact h.elim | skip
    rename_i q j
    cases hb : Nat.ble len 1 with
    | true => simp only [hb] at h; exact h.elim
    | false =>
     simp only [hb] at h
     obtain ⟨a, rfl, h0, h1, hk⟩ := h
     refine ⟨_, [], hk, by simp, fun w' _ => ?_⟩
     unfold execOp
     simp [ho, hx, hj, Instr.indexAt, asIntOf, run_u hs, run_size hi, h0, h1, EV.val, Instr.sureAddr]
theorem byteAt_get (s : ByteArray) (i : Nat) (h : i < s.size) : s[i]? = some s[i] ∧ ((s[i]).toNat : Int) = byteAt s i := by
 constructor
 ·simp [h]
 ·simp only [byteAt, Int.toNat_natCast]
  congr 2
  simp [h]
  rfl
theorem denIdx_ok {o : Oper} {t : TypeId} {x i : Operand} (ho : o.op = .index t x i) {env : Env} {k : EV → List Fact → G} {R : Ending → World → Prop} {w : World}
  (h : denIdx P (GA P) o t x i env k R w) : ValOk P o env k R w := by
 unfold denIdx at h
 cases hs : P.underlying t with
 | none => simp only [hs] at h; exact denPure_ok h
 | some d =>
  simp only [hs] at h
  cases d <;> first | exact denPure_ok h | skip
  dsimp only at h
  cases hx : env.ρ x <;> simp only [hx] at h <;> first | exact h.elim | skip
  rename_i s
  cases hj : env.ρ i <;> simp only [hj] at h <;> first | exact h.elim | skip
  rename_i q j
  obtain ⟨h0, h1, hk⟩ := h
  refine ⟨_, [], hk, by simp, fun w' _ => ?_⟩
  obtain ⟨n, rfl⟩ := Int.eq_ofNat_of_zero_le h0
  have h2 : n < s.size := by omega
  obtain ⟨e1, e2⟩ := byteAt_get s n h2
  unfold execOp
  simp [ho, hx, hj, Instr.index, asIntOf, run_u hs, EV.val, h2]
  exact e2
def Bd (o : Option Value) (d l : Int) : Prop := (o = none ∧ l = d) ∨ ∃ q, o = some (.int q l)
theorem bnd_ok {env : Env} {o : Option Operand} {d l : Int} (h : bnd env o d = some l) : Bd (o.map env.ρ) d l := by
 cases o with
 | none => simp only [bnd, Option.some.injEq] at h; exact .inl ⟨rfl, h.symm⟩
 | some x =>
  simp only [bnd] at h
  cases hx : env.ρ x <;> simp only [hx] at h <;> first | cases h | skip
  rename_i q
  exact .inr ⟨q, by simp [hx]⟩
theorem run_bounds (b : Bool) (len cap : Nat) (lo hi mx : Option Value) (l h m : Int) (hl : Bd lo 0 l) (hh : Bd hi len h) (hm : Bd mx cap m)
  (hn : hi = none → mx = none) (h0 : 0 ≤ l) (h1 : l ≤ h) (h2 : h ≤ m) (h3 : m ≤ cap) (w : World) :
  (Instr.sliceBounds b len cap lo hi mx).run P w = .ok (l.toNat, h.toNat, m.toNat) w := by
 have e2 : 0 ≤ h := by omega
 have e3 : 0 ≤ m := by omega
 rcases hm with ⟨rfl, rfl⟩ | ⟨qm, rfl⟩
 ·rcases hh with ⟨rfl, rfl⟩ | ⟨qh, rfl⟩
  ·rcases hl with ⟨rfl, rfl⟩ | ⟨ql, rfl⟩
   ·simp [Instr.sliceBounds]
   ·simp [Instr.sliceBounds, run_sliceBound, h0, h1]
  ·have eh : (h.toNat : Int) = h := Int.toNat_of_nonneg e2
   rcases hl with ⟨rfl, rfl⟩ | ⟨ql, rfl⟩
   ·simp [Instr.sliceBounds, run_sliceBound, e2, h2]
   ·simp [Instr.sliceBounds, run_sliceBound, e2, h2, h0, h1, eh]
 ·have em : (m.toNat : Int) = m := Int.toNat_of_nonneg e3
  rcases hh with ⟨rfl, rfl⟩ | ⟨qh, rfl⟩
  ·cases hn rfl
  ·have eh : (h.toNat : Int) = h := Int.toNat_of_nonneg e2
   rcases hl with ⟨rfl, rfl⟩ | ⟨ql, rfl⟩
   ·simp [Instr.sliceBounds, run_sliceBound, e2, h2, e3, h3, em]
   ·simp [Instr.sliceBounds, run_sliceBound, e2, h2, h0, h1, e3, h3, em, eh]
theorem denSlice_ok {o : Oper} {t : TypeId} {x : Operand} {lo hi mx : Option Operand} (ho : o.op = .slice t x lo hi mx) {env : Env} {k : EV → List Fact → G} {R : Ending → World → Prop} {w : World}
  (h : denSlice P (GA P) t x lo hi mx env k R w) : ValOk P o env k R w := by
 unfold denSlice at h
 cases hs : P.underlying t with
 | none => simp only [hs] at h; exact h.elim
 | some d =>
  simp only [hs] at h
  cases d <;> first | exact h.elim | skip
  case string =>
   dsimp only at h
   cases mx with
   | some _ => exact h.elim
   | none =>
    cases hx : env.ρ x <;> simp only [hx] at h <;> first | exact h.elim | skip
    rename_i s
    cases hl : bnd env lo 0 with
    | none => simp only [hl] at h; exact h.elim
    | some l =>
     cases hh : bnd env hi s.size with
     | none => simp only [hl, hh] at h; exact h.elim
     | some hv =>
      simp only [hl, hh] at h
      obtain ⟨h0, h1, h2, hk⟩ := h
      refine ⟨_, [], hk, by simp, fun w' _ => ?_⟩
      have hb := fun w => run_bounds (P := P) false s.size s.size (lo.map env.ρ) (hi.map env.ρ) none l hv s.size (bnd_ok hl) (bnd_ok hh) (.inl ⟨rfl, rfl⟩) (fun _ => rfl) h0 h1 h2 (Int.le_refl _) w
      unfold execOp
      simp only [ho]
      simp [hx, Instr.sliceAt, Instr.slice, run_u hs, hb, EV.val]
  case slice e =>
   dsimp only at h
   cases hi' : P.info? e with
   | none => simp only [hi'] at h; exact h.elim
   | some ti =>
    simp only [hi'] at h
    cases hx : env.ρ x <;> simp only [hx] at h <;> first | exact h.elim | skip
    rename_i p n c
    have key : (hi = none → mx = none) → ∀ l hv m, bnd env lo 0 = some l → bnd env hi n = some hv → bnd env mx c = some m → m ≤ (c : Int) →
      resliceG p c l hv m ti.size (fun a n' c' => k (.v (.slice a n' c')) []) R w → ValOk P o env k R w := by
     intro hnn l hv m hl hh hm _ hres
     obtain ⟨h0, h1, h2, h3, hk⟩ := hres
     refine ⟨_, [], hk, by simp, fun w' _ => ?_⟩
     have hb := fun w => run_bounds (P := P) true n c (lo.map env.ρ) (hi.map env.ρ) (mx.map env.ρ) l hv m (bnd_ok hl) (bnd_ok hh) (bnd_ok hm) (by simpa using hnn) h0 h1 h2 h3 w
     unfold execOp
     simp only [ho]
     simp [hx, Instr.sliceAt, Instr.slice, run_u hs, hb, run_size hi', EV.val]
    cases hi with
    | none =>
     cases mx with
     | some _ => exact h.elim
     | none =>
      dsimp only at h
      cases hl : bnd env lo 0 with
      | none => simp only [hl] at h; exact h.elim
      | some l => 
       have e1 : bnd env none (n : Int) = some (n : Int) := rfl
       have e2 : bnd env none (c : Int) = some (c : Int) := rfl
       simp only [hl, e1, e2] at h
       obtain ⟨ha, hk⟩ := assumeG_and h
       exact key (fun _ => rfl) l _ _ hl rfl rfl (by simp) hk
    | some hx' =>
     dsimp only at h
     cases hl : bnd env lo 0 with
     | none => simp only [hl] at h; exact h.elim
     | some l => 
      cases hh : bnd env (some hx') n with
      | none => simp only [hl, hh] at h; exact h.elim
      | some hv =>
       cases hm : bnd env mx c with
       | none => simp only [hl, hh, hm] at h; exact h.elim
       | some m =>
        simp only [hl, hh, hm] at h
        obtain ⟨ha, hk⟩ := assumeG_and h
        exact key (fun e => by cases e) l hv m hl hh hm (by simpa using ha) hk
  case array n e =>
   dsimp only at h
   cases hi' : P.info? e with
   | none => simp only [hi'] at h; exact h.elim
   | some ti =>
    simp only [hi'] at h
    cases hx : env.ρ x <;> simp only [hx] at h <;> first | exact h.elim | skip
    rename_i p
    cases p with
    | none => exact h.elim
    | some a =>
    dsimp only at h
    have key : (hi = none → mx = none) → ∀ l hv m, bnd env lo 0 = some l → bnd env hi n = some hv → bnd env mx n = some m → m ≤ (n : Int) →
      resliceG (some a) n l hv m ti.size (fun a n' c' => k (.v (.slice a n' c')) []) R w → ValOk P o env k R w := by
     intro hnn l hv m hl hh hm _ hres
     obtain ⟨h0, h1, h2, h3, hk⟩ := hres
     refine ⟨_, [], hk, by simp, fun w' _ => ?_⟩
     have hb := fun w => run_bounds (P := P) false n n (lo.map env.ρ) (hi.map env.ρ) (mx.map env.ρ) l hv m (bnd_ok hl) (bnd_ok hh) (bnd_ok hm) (by simpa using hnn) h0 h1 h2 h3 w
     unfold execOp
     simp only [ho]
     simp [hx, Instr.sliceAt, run_u hs, Instr.sureAddr, hb, run_size hi', EV.val]
     split <;> rfl
    cases hi with
    | none =>
     cases mx with
     | some _ => exact h.elim
     | none =>
      dsimp only at h
      cases hl : bnd env lo 0 with
      | none => simp only [hl] at h; exact h.elim
      | some l => 
       have e1 : bnd env none (n : Int) = some (n : Int) := rfl
       simp only [hl, e1] at h
       obtain ⟨ha, hk⟩ := assumeG_and h
       exact key (fun _ => rfl) l _ _ hl rfl rfl (by simp) hk
    | some hx' =>
     dsimp only at h
     cases hl : bnd env lo 0 with
     | none => simp only [hl] at h; exact h.elim
     | some l => 
      cases hh : bnd env (some hx') n with
      | none => simp only [hl, hh] at h; exact h.elim
      | some hv =>
       cases hm : bnd env mx n with
       | none => simp only [hl, hh, hm] at h; exact h.elim
       | some m =>
        simp only [hl, hh, hm] at h
        obtain ⟨ha, hk⟩ := assumeG_and h
        exact key (fun e => by cases e) l hv m hl hh hm (by simpa using ha) hk
theorem ldCells_ok : ∀ (cs : List CT) (a : Addr) (i : Nat) (acc : List Value) (k : List Value → G) (R : Ending → World → Prop) (w : World),
  ldCells (GA P) cs a i acc k R w → ∃ l : List Value, l.length = cs.length ∧ k (acc.reverse ++ l) R w ∧ ∀ j v, l[j]? = some v → w.cell? (a.add (i + j)) = some v
 | [], _, _, acc, k, R, w, h => ⟨[], rfl, by simpa [ldCells] using h, by simp⟩
 | c :: cs, a, i, acc, k, R, w, h => by
  obtain ⟨x, hx, hk⟩ := h
  obtain ⟨l, hl, hk', hc⟩ := ldCells_ok cs a (i + 1) (c.val x :: acc) k R w hk
  refine ⟨c.val x :: l, by simp [hl], by simpa using hk', ?_⟩
  intro j v hj
  cases j with
  | zero => simp only [List.getElem?_cons_zero, Option.some.injEq] at hj; subst hj; exact hx
  | succ j =>
   have := hc j v (by simpa using hj)
   rwa [show i + 1 + j = i + (j + 1) by omega] at this
def aggD (d : TypeDesc) : Bool := match d with | .struct _ | .array _ _ => true | _ => false
theorem run_isAgg {t : TypeId} {d : TypeDesc} (h : P.underlying t = some d) (w : World) :
  (isAgg t).run P w = .ok (aggD d) w := by
 unfold isAgg
 simp only [Sem.run_bind, run_u h, Result.andThen_ok]
 cases d <;> rfl
theorem run_loadVar_agg {t : TypeId} {d : TypeDesc} {i : TypeInfo} (h : P.underlying t = some d) (hd : aggD d = true) (hi : P.info? t = some i)
  (a : Addr) (l : List Value) (hl : l.length = i.size) (w : World) (hc : Held w (a, l)) : (loadVar t a).run P w = .ok (.agg l.toArray) w := by
 unfold loadVar
 simp only [Sem.run_bind, run_isAgg h, Result.andThen_ok, hd, if_true, run_size hi, ← hl, run_loadCells_list (P := P) w a l hc]
 rfl
theorem denLoad_ok {o : Oper} {t : TypeId} {x : Operand} (ho : o.op = .load t x) {env : Env} {k : EV → List Fact → G} {R : Ending → World → Prop} {w : World}
  (h : denLoad P (GA P) t x env k R w) : ValOk P o env k R w ∧ ∃ e fs, k e fs R w ∧ (∀ f ∈ fs, Held w f) ∧ ∀ a, env.ρ x = .pointer (some a) → ∀ w', (∀ f ∈ fs, Held w' f) → (loadVar t a).run P w' = .ok e.val w' := by
 unfold denLoad at h
 cases hx : env.ρ x <;> simp only [hx] at h <;> first | exact h.elim | skip
 rename_i p
 cases p with
 | none => exact h.elim
 | some a =>
  dsimp only at h
  have fin : (∃ e fs, k e fs R w ∧ (∀ f ∈ fs, Held w f) ∧ ∀ w', (∀ f ∈ fs, Held w' f) → (loadVar t a).run P w' = .ok e.val w') →
    ValOk P o env k R w ∧ ∃ e fs, k e fs R w ∧ (∀ f ∈ fs, Held w f) ∧ ∀ a', Value.pointer (some a) = .pointer (some a') → ∀ w', (∀ f ∈ fs, Held w' f) → (loadVar t a').run P w' = .ok e.val w' := by
   rintro ⟨e, fs, h1, h2, h3⟩
   refine ⟨⟨e, fs, h1, h2, fun w' hw' => ?_⟩, e, fs, h1, h2, fun a' ea w' hw' => by cases ea; exact h3 w' hw'⟩
   unfold execOp
   simp only [ho]
   simp [hx, Instr.loadAt, Instr.sureAddr, h3 w' hw']
  have agg : ∀ d, P.underlying t = some d → aggD d = true →
    (match vtOf P t with
     | some (.agg cs) => match Nat.beq cs.length (P.cellsOf t) with
      | true => ldCells (GA P) cs a 0 [] fun l => k (.v (.agg l.toArray)) [(a, l)]
      | false => (GA P).fail "load"
     | some (.one .row) => (GA P).ldRow (P.cellsOf t) a fun cs => k (.v (.agg cs)) [(a, cs.toList)]
     | _ => (GA P).fail "load" : G) R w → ∃ e fs, k e fs R w ∧ (∀ f ∈ fs, Held w f) ∧ ∀ w', (∀ f ∈ fs, Held w' f) → (loadVar t a).run P w' = .ok e.val w' := by
   intro d hd hda hh
   have hinfo : ∃ i, P.info? t = some i := by
    unfold Program.underlying at hd
    cases hi : P.info? t with
    | none => simp [hi] at hd
    | some i => exact ⟨i, rfl⟩
   obtain ⟨i, hi⟩ := hinfo
   cases hv : vtOf P t with
   | none => simp only [hv] at hh; exact hh.elim
   | some v =>
    simp only [hv] at hh
    cases v with
    | one c =>
     cases c <;> first | exact hh.elim | skip
     obtain ⟨cs, hs, hc, hk⟩ := hh
     refine ⟨_, _, hk, by simpa using hc, fun w' hw' => ?_⟩
     rw [cellsOf_info hi] at hs
     have := run_loadVar_agg hd hda hi a cs.toList (by simpa using hs) w' (hw' _ (List.mem_singleton.2 rfl))
     simpa [EV.val] using this
    | agg cs =>
     dsimp only at hh
     cases hb : Nat.beq cs.length (P.cellsOf t) with
     | false => simp only [hb] at hh; exact hh.elim
     | true =>
      simp only [hb] at hh
      obtain ⟨l, hl, hk, hc⟩ := ldCells_ok cs a 0 [] _ R w hh
      rw [cellsOf_info hi] at hb
      have hl2 : l.length = i.size := by rw [hl]; exact Nat.eq_of_beq_eq_true hb
      refine ⟨_, _, hk, ?_, fun w' hw' => ?_⟩
      ·intro f hf
       rw [List.mem_singleton.1 hf]
       intro j v hj
       have := hc j v (by simpa using hj)
       simpa using this
      ·exact run_loadVar_agg hd hda hi a l hl2 w' (by have := hw' _ (List.mem_singleton.2 rfl); simpa using this)
  cases hd : P.underlying t with
  | none => simp only [hd] at h; exact h.elim
  | some d =>
   simp only [hd] at h
   apply fin
   have one : aggD d = false → (match ctOf P t with
     | some c => (GA P).ld c a fun y => k (mkEV (.one c) (y, ())) [(a, [c.val y])]
     | none => (GA P).fail "load" : G) R w → ∃ e fs, k e fs R w ∧ (∀ f ∈ fs, Held w f) ∧ ∀ w', (∀ f ∈ fs, Held w' f) → (loadVar t a).run P w' = .ok e.val w' := by
    intro hda hh
    cases hc : ctOf P t with
    | none => simp only [hc] at hh; exact hh.elim
    | some c =>
     simp only [hc] at hh
     obtain ⟨y, hy, hk⟩ := hh
     refine ⟨_, _, hk, ?_, fun w' hw' => ?_⟩
     ·intro f hf
      rw [List.mem_singleton.1 hf]
      intro j v hj
      cases j with
      | zero => simp only [List.getElem?_cons_zero, Option.some.injEq] at hj; subst hj; rw [Addr.add_zero']; exact hy
      | succ j => simp at hj
     ·have h0 := hw' _ (List.mem_singleton.2 rfl) 0 _ rfl
      rw [Addr.add_zero'] at h0
      unfold loadVar
      simp only [Sem.run_bind, run_isAgg hd, Result.andThen_ok, hda, Bool.false_eq_true, if_false, run_load, h0]
      rw [mkEV_val]
      rfl
   cases d <;> first | exact agg _ hd rfl h | exact one rfl h
theorem run_binOp {o : Oper} {op : BinOp} {t yt : TypeId} {x y : Operand} (ho : o.op = .binOp op t x y yt) {env : Env} {v : Value} {w : World}
  (hg : (eqGuard op t x y (env.ρ x) (env.ρ y)).run P w = .ok () w) (hb : (binOp op t (env.ρ x) (env.ρ y)).run P w = .ok v w) :
  (execOp env.ρ o).run P w = .ok (.value v) w := by
 unfold execOp
 simp only [ho]
 simp [hg, hb]
theorem guard_plain {op : BinOp} {t : TypeId} {x y : Operand} {a b : Value} (h : ∀ c d, ¬(a = .agg c ∧ b = .agg d)) (h2 : ¬(a = .nilIface ∧ b = .nilIface)) (w : World) :
  (eqGuard op t x y a b).run P w = .ok () w := by
 unfold eqGuard
 split <;> split
 all_goals first | rfl | (cases a <;> cases b <;> first | rfl | (exact absurd ⟨rfl, rfl⟩ (h _ _)) | (exact absurd ⟨rfl, rfl⟩ h2))
theorem run_equal_ptr {t e : TypeId} (hs : P.underlying t = some (.pointer e)) (p : Option Addr) (w : World) :
  (Op.equal t (.pointer p) (.pointer none)).run P w = .ok p.isNone w := by
 have key : ∀ d, (Op.equalIn (d + 1) t (.pointer p) (.pointer none)).run P w = .ok p.isNone w := fun d => by
  cases p <;> simp [Op.equalIn, run_u hs]
 exact key 9999
theorem run_equal_slice {t e : TypeId} (hs : P.underlying t = some (.slice e)) (p : Option Addr) (n c n2 c2 : Nat) (w : World) :
  (Op.equal t (.slice p n c) (.slice none n2 c2)).run P w = .ok p.isNone w := by
 have key : ∀ d, (Op.equalIn (d + 1) t (.slice p n c) (.slice none n2 c2)).run P w = .ok p.isNone w := fun d => by
  cases p <;> simp [Op.equalIn, run_u hs]
 exact key 9999
theorem denBin_ok {o : Oper} {op : BinOp} {t yt : TypeId} {x y : Operand} (ho : o.op = .binOp op t x y yt) {env : Env} {k : EV → List Fact → G} {R : Ending → World → Prop} {w : World}
  (h : denBin P (GA P) o op t x y env k R w) : ValOk P o env k R w := by
 unfold denBin at h
 cases hs : P.underlying t with
 | none => simp only [hs] at h; exact denPure_ok h
 | some d =>
  simp only [hs] at h
  cases d <;> first | exact denPure_ok h | skip
  case string =>
   cases op <;> first | exact denPure_ok h | skip
   dsimp only at h
   cases hx : env.ρ x <;> simp only [hx] at h <;> first | exact h.elim | skip
   rename_i a
   cases hy : env.ρ y <;> simp only [hy] at h <;> first | exact h.elim | skip
   rename_i b
   obtain ⟨hle, hk⟩ := h
   refine ⟨_, [], hk, by simp, fun w' _ => run_binOp ho (by rw [hx, hy]; exact guard_plain (by simp) (by simp) w') ?_⟩
   rw [hx, hy]
   have : ¬ ((a.size + b.size : Nat) : Int) > IntKind.i64.max := by simp [IntKind.max, IntKind.signed, IntKind.bits]; omega
   simp only [binOp, Op.stringOp, if_neg this]
   rfl
  case int q =>
   cases op <;> first | exact denPure_ok h | skip
   case quo =>
    dsimp only at h
    cases hx : env.ρ x <;> simp only [hx] at h <;> first | exact h.elim | skip
    rename_i q1 a
    cases hy : env.ρ y <;> simp only [hy] at h <;> first | exact h.elim | skip
    rename_i q2 b
    cases hq : decide (q1 = q2) with
    | false => simp only [hq] at h; exact h.elim
    | true =>
     simp only [hq] at h
     obtain rfl := of_decide_eq_true hq
     obtain ⟨hne, hk⟩ := assumeG_and h
     refine ⟨_, [], hk, by simp, fun w' _ => run_binOp ho (by rw [hx, hy]; exact guard_plain (by simp) (by simp) w') ?_⟩
     rw [hx, hy]
     have : b ≠ 0 := by simpa using hne
     simp [binOp, Op.intDiv, this, EV.val]
   case rem =>
    dsimp only at h
    cases hx : env.ρ x <;> simp only [hx] at h <;> first | exact h.elim | skip
    rename_i q1 a
    cases hy : env.ρ y <;> simp only [hy] at h <;> first | exact h.elim | skip
    rename_i q2 b
    cases hq : decide (q1 = q2) with
    | false => simp only [hq] at h; exact h.elim
    | true =>
     simp only [hq] at h
     obtain rfl := of_decide_eq_true hq
     obtain ⟨hne, hk⟩ := assumeG_and h
     refine ⟨_, [], hk, by simp, fun w' _ => run_binOp ho (by rw [hx, hy]; exact guard_plain (by simp) (by simp) w') ?_⟩
     rw [hx, hy]
     have : b ≠ 0 := by simpa using hne
     simp [binOp, Op.intDiv, this, EV.val]
   case shl =>
    dsimp only at h
    cases hx : env.ρ x <;> simp only [hx] at h <;> first | exact h.elim | skip
    rename_i q1 a
    cases hy : env.ρ y <;> simp only [hy] at h <;> first | exact h.elim | skip
    rename_i q2 b
    obtain ⟨hne, hk⟩ := assumeG_and h
    refine ⟨_, [], hk, by simp, fun w' _ => run_binOp ho (by rw [hx, hy]; exact guard_plain (by simp) (by simp) w') ?_⟩
    rw [hx, hy]
    have : ¬ b < 0 := by have := of_decide_eq_true hne; omega
    simp [binOp, Op.shift, this, EV.val]
   case shr =>
    dsimp only at h
    cases hx : env.ρ x <;> simp only [hx] at h <;> first | exact h.elim | skip
    rename_i q1 a
    cases hy : env.ρ y <;> simp only [hy] at h <;> first | exact h.elim | skip
    rename_i q2 b
    obtain ⟨hne, hk⟩ := assumeG_and h
    refine ⟨_, [], hk, by simp, fun w' _ => run_binOp ho (by rw [hx, hy]; exact guard_plain (by simp) (by simp) w') ?_⟩
    rw [hx, hy]
    have : ¬ b < 0 := by have := of_decide_eq_true hne; omega
    simp [binOp, Op.shift, this, EV.val]
  case pointer e =>
   cases op <;> first | exact denPure_ok h | skip
   all_goals
    dsimp only at h
    cases hn : isNilC y <;> simp only [hn] at h <;> first | exact h.elim | skip
    cases hx : env.ρ x <;> simp only [hx] at h <;> first | exact h.elim | skip
    rename_i p
    cases hy : env.ρ y <;> simp only [hy] at h <;> first | exact h.elim | skip
    rename_i p2
    cases p2 <;> first | exact h.elim | skip
    refine ⟨_, [], h, by simp, fun w' _ => run_binOp ho (by rw [hx, hy]; exact guard_plain (by simp) (by simp) w') ?_⟩
    rw [hx, hy]
    simp only [binOp, Sem.run_bind, run_equal_ptr hs, Result.andThen_ok, Sem.run_pure, EV.val]
  case slice e =>
   cases op <;> first | exact denPure_ok h | skip
   all_goals
    dsimp only at h
    cases hn : isNilC y <;> simp only [hn] at h <;> first | exact h.elim | skip
    cases hx : env.ρ x <;> simp only [hx] at h <;> first | exact h.elim | skip
    rename_i p n c
    cases hy : env.ρ y <;> simp only [hy] at h <;> first | exact h.elim | skip
    rename_i p2 n2 c2
    cases p2 <;> first | exact h.elim | skip
    refine ⟨_, [], h, by simp, fun w' _ => run_binOp ho (by rw [hx, hy]; exact guard_plain (by simp) (by simp) w') ?_⟩
    rw [hx, hy]
    simp only [binOp, Sem.run_bind, run_equal_slice hs, Result.andThen_ok, Sem.run_pure, EV.val]
theorem denVal_ok {o : Oper} {env : Env} {k : EV → List Fact → G} {R : Ending → World → Prop} {w : World}
  (h : denVal P (GA P) o env k R w) : hasAll o env = true ∧ ValOk P o env k R w := by
 unfold denVal at h
 cases ha : hasAll o env with
 | false => simp only [ha] at h; exact h.elim
 | true =>
  simp only [ha] at h
  refine ⟨rfl, ?_⟩
  have mv : ∀ x, (o.op = .move x ∨ o.op = .assign x) → (match env.ev x with | some e => k e [] | none => (GA P).fail "move" : G) R w → ValOk P o env k R w := by
   intro x ho hh
   cases hx : env.ev x with
   | none => simp only [hx] at hh; exact hh.elim
   | some e =>
    simp only [hx] at hh
    refine ⟨e, [], hh, by simp, fun w' _ => ?_⟩
    unfold execOp
    rcases ho with ho | ho <;> simp only [ho, ρ_ev hx] <;> rfl
  cases ho : o.op <;> simp only [ho] at h <;>
   first
    | exact mv _ (.inl ho) h
    | exact mv _ (.inr ho) h
    | exact denPick_ok ho h
    | exact denNil_ok ho h
    | exact denField_ok ho h
    | exact denIdxA_ok ho h
    | exact denIdx_ok ho h
    | exact denSlice_ok ho h
    | exact (denLoad_ok ho h).1
    | exact denBin_ok ho h
    | exact denPure_ok h
def Kept (bk : List Nat) (a a' : Act) : Prop := ∀ t, memN bk t = true → a'.tmps.getD t undef = a.tmps.getD t undef
theorem Kept.refl (bk : List Nat) (a : Act) : Kept bk a a := fun _ _ => rfl
theorem Kept.trans {bk : List Nat} {a b c : Act} (h : Kept bk a b) (k : Kept bk b c) : Kept bk a c := fun t ht => (k t ht).trans (h t ht)
def Goes (D : List Deferred) (n : Nat) (bk : List Nat) (a : Act) (k : Env → G) (R : Ending → World → Prop) (a' : Act) (w' : World) : Prop :=
 ∃ env', EnvOk D env' n a' ∧ Kept bk a a' ∧ k env' R w'
theorem putE_ok {n : Nat} {bk : List Nat} {dst : Option Tmp} {e : EV} {env : Env} {k : Env → G} {R : Ending → World → Prop} {w : World} {a : Act}
  (h : putE (GA P) n bk dst e env k R w) (ha : EnvOk D env n a) : Goes D n bk a k R (a.put dst e.val) w := by
 cases dst with
 | none => exact ⟨env, ha, Kept.refl _ _, h⟩
 | some d =>
  simp only [putE] at h
  cases hc : (Nat.blt d n && !memN bk d) with
  | false => simp only [hc] at h; exact h.elim
  | true =>
   simp only [hc] at h
   simp only [Bool.and_eq_true, Bool.not_eq_true'] at hc
   have hd : d < n := by have h1 := hc.1; rw [Nat.blt_eq] at h1; exact h1
   refine ⟨_, ⟨?_, ha.defers, ?_⟩, ?_, h⟩
   ·simp [Act.put, ha.size]
   ·intro t x hx
    simp only [Env.get] at hx
    cases ht : Nat.beq d t with
    | true =>
     simp only [ht, Option.some.injEq] at hx
     obtain rfl := Nat.eq_of_beq_eq_true ht
     subst hx
     simp [Act.put, ha.size, hd]
    | false =>
     simp only [ht] at hx
     have hne : d ≠ t := fun e => by subst e; rw [Nat.beq_refl] at ht; cases ht
     have := ha.get t x hx
     simp only [Act.put, Array.getD_eq_getD_getElem?, Array.getElem?_setIfInBounds_ne hne] at this ⊢
     exact this
   ·intro t ht
    have hne : d ≠ t := fun e => by subst e; rw [hc.2] at ht; cases ht
    simp only [Act.put, Array.getD_eq_getD_getElem?, Array.getElem?_setIfInBounds_ne hne]
theorem run_st {a : Addr} {v : Value} {w : World} (m : Mode) (h1 : v.oneCell' = true) (h2 : ∃ u, w.cell? a = some u) (h3 : w.frozen? a = false) {α : Type} (k : Sem α) :
  (Sem.store m a v k).run P w = k.run P (w.setCell a v) := by
 obtain ⟨u, hu⟩ := h2
 cases v <;> first | (simp [Value.oneCell'] at h1; done) | simp [Sem.run, hu, h3]
theorem denSem_ok : ∀ {s : Sem Next} {k : Next → G} {R : Ending → World → Prop} {w : World}, denSem P (GA P) s k R w → ∃ x w', s.run P w = .ok x w' ∧ k x R w' := by
 intro s
 induction s with
 | pure x => intro k R w h; exact ⟨x, w, rfl, h⟩
 | program f ih => intro k R w h; exact ih P (by simpa [denSem] using h)
 | new o f ih => intro k R w h; exact ih w.heap.size (w := w.alloc o) h
 | shape r f ih => intro k R w h; exact ih (w.shape? r) h
 | store m a v f ih =>
  intro k R w h
  obtain ⟨h1, h2, h3, h4⟩ := h
  obtain ⟨x, w', hr, hk⟩ := ih h4
  exact ⟨x, w', by rw [run_st m h1 h2 h3]; exact hr, hk⟩
 | mark m f ih => intro k R w h; exact ih h
 | _ => intro k R w h; exact h.elim
theorem resOf_spec {f : FuncId} {vs : List VT} (h : resOf P f = some vs) : ∃ fn c, P.funcs[f]? = some fn ∧ fn.body = some c ∧ (fn.name == "runtime.NumGoroutine") = false := by
 unfold resOf at h
 cases hf : P.funcs[f]? with
 | none => simp [hf] at h
 | some fn =>
  cases hb : fn.body with
  | none => simp [hf, hb] at h
  | some c =>
   cases hn : (fn.name == "runtime.NumGoroutine") with
   | true => simp only [hf, hb, hn] at h; cases h
   | false => exact ⟨fn, c, rfl, hb, hn⟩
theorem run_callFunc {f : FuncId} {vs : List VT} (h : resOf P f = some vs) (args : Array Value) (w : World) : (callFunc f args).run P w = .ok (.enter f args) w := by
 obtain ⟨fn, c, hf, hb, hn⟩ := resOf_spec h
 unfold callFunc
 simp only [Sem.run_bind, run_program, Result.andThen_ok, hf, hn, Bool.false_eq_true, if_false, hb, Option.isNone_some]
 rfl
def PQ (bk : List Nat) (D : List Deferred) (a0 : Act) (R : Ending → World → Prop) (Q : Exit → Act → World → Prop) : Prop := ∀ c (a : Act) w, a.defers = D → Kept bk a0 a → R (.panicked c) w → Q (.panic c) a w
def PA (R : Ending → World → Prop) (Q : Exit → Act → World → Prop) (a : Act) : Prop := ∀ c w, R (.panicked c) w → Q (.panic c) a w
theorem putE_free {n : Nat} {bk : List Nat} {dst : Option Tmp} {e : EV} {env : Env} {k : Env → G} {R : Ending → World → Prop} {w : World} (h : putE (GA P) n bk dst e env k R w) : ∀ d, dst = some d → memN bk d = false := by
 rintro d rfl
 simp only [putE] at h
 cases hc : (Nat.blt d n && !memN bk d) with
 | false => simp only [hc] at h; exact h.elim
 | true =>
  simp only [Bool.and_eq_true, Bool.not_eq_true'] at hc
  exact hc.2
theorem Kept.unput {bk : List Nat} {a0 a : Act} {dst : Option Tmp} {v : Value} (hd : ∀ d, dst = some d → memN bk d = false) (h : Kept bk a0 (a.put dst v)) : Kept bk a0 a := fun t ht => by
 rw [← h t ht]
 cases dst with
 | none => rfl
 | some d =>
  have hne : d ≠ t := fun e => by subst e; rw [hd _ rfl] at ht; cases ht
  simp only [Act.put, Array.getD_eq_getD_getElem?, Array.getElem?_setIfInBounds_ne hne]
theorem packE_val : ∀ (vs : List VT) (xs : HV vs), (packE vs xs).val = packV vs xs
 | [], _ => rfl
 | [v], (x, _) => mkEV_val v x
 | _ :: _ :: _, _ => rfl
theorem denCall_ok {o : Oper} {c : Call} (ho : o.op = .call c) {fv : Operand} (hc : c.callee = .value fv) {f : FuncId} {first captured : Array Value} {env : Env}
  (hfv : env.ρ fv = .func (.func f) first captured) {n : Nat} {bk : List Nat} {k : Env → G} {R : Ending → World → Prop} {w : World} {a : Act} {args : Array Value} (hargs : first ++ c.args.map env.ρ ++ captured = args)
  (h : denCall P (GA P) n bk o f args env k R w) (ha : EnvOk D env n a) (he : execOp a.eval o = execOp env.ρ o)
  {K : Act → World → Prop} {Q : Exit → Act → World → Prop} (hP : PA R Q a) (hK : ∀ a' w', Goes D n bk a k R a' w' → K a' w') : o.wp P a w K Q := by
 subst hargs
 unfold denCall at h
 cases hr : resOf P f with
 | none => simp only [hr] at h; exact h.elim
 | some vs =>
  simp only [hr] at h
  unfold Oper.wp
  rw [he]
  have hrun : (execOp env.ρ o).run P w = .ok (.enter f (first ++ c.args.map env.ρ ++ captured)) w := by
   unfold execOp
   simp only [ho]
   simp only [resolve, hc, hfv, Deferred.ofValue, invoke, Sem.run_bind, Sem.run_pure, Result.andThen_ok, run_callFunc hr]
  rw [hrun, Oper.upon_enter]
  refine Calls.mono h ?_
  rintro e w' (⟨xs, rfl, hk⟩ | ⟨c, rfl, hk⟩)
  rotate_left
  ·exact hP _ _ hk
  apply hK
  replace hk := unV hk
  have key : ∀ ev : EV, ev.val = packV vs xs → putE (GA P) n bk o.dst ev env k R w' → Goes D n bk a k R (a.put o.dst (packV vs xs)) w' := fun ev hev hp => hev ▸ putE_ok hp ha
  match vs, xs, hk, key with
  | [], xs, hk, key => exact key _ rfl hk
  | [v], (x, _), hk, key => exact key _ (mkEV_val v x) hk
  | _ :: _ :: _, xs, hk, key => exact key _ rfl hk
theorem denOpR_ok {s : Sem Value} {t : TypeId} {dst : Option Tmp} {env : Env} {n : Nat} {bk : List Nat} {k : Env → G} {R : Ending → World → Prop} {w : World} {a : Act}
  (h : denOpR P (GA P) n bk s t dst env k R w) (ha : EnvOk D env n a) : ∃ v w', s.run P w = .ok v w' ∧ Goes D n bk a k R (a.put dst v) w' := by
 unfold denOpR at h
 cases hv : resT P t with
 | none => simp only [hv] at h; exact h.elim
 | some vs =>
  simp only [hv] at h
  obtain ⟨xs, w', hr, hk⟩ := h
  exact ⟨_, w', hr, packE_val vs xs ▸ putE_ok (unV hk) ha⟩
theorem denOpT_ok {s : Sem Value} {t : TypeId} {dst : Option Tmp} {env : Env} {n : Nat} {bk : List Nat} {k : Env → G} {R : Ending → World → Prop} {w : World} {a : Act}
  (h : denOpT P (GA P) n bk s t dst env k R w) (ha : EnvOk D env n a) : ∃ v w', s.run P w = .ok v w' ∧ Goes D n bk a k R (a.put dst v) w' := by
 unfold denOpT at h
 have key : (match vtOf P t with
   | some v => (GA P).op s v (cur fun x => putE (GA P) n bk dst (mkEV v x) env k)
   | none => (GA P).fail "type" : G) R w → ∃ v w', s.run P w = .ok v w' ∧ Goes D n bk a k R (a.put dst v) w' := by
  intro hh
  cases hv : vtOf P t with
  | none => simp only [hv] at hh; exact hh.elim
  | some v =>
   simp only [hv] at hh
   obtain ⟨x, w', hr, hk⟩ := hh
   replace hk := un1 hk
   exact ⟨_, w', hr, mkEV_val v x ▸ putE_ok hk ha⟩
 cases hu : P.underlying t with
 | none => simp only [hu] at h; exact key h
 | some d =>
  simp only [hu] at h
  cases d <;> first | exact key h | skip
  rename_i ts
  dsimp only at h
  cases hv : vtsOf P ts.toList <;> simp only [hv] at h <;> exact h.elim
theorem run_storeVar_agg {t : TypeId} {i : TypeInfo} (hi : P.info? t = some i) (a : Addr) (v : Value) (hs : v.cells.size = i.size) (w : World) :
  (storeVar t a v).run P w = (storeCells a v.cells.toList).run P w := by
 unfold storeVar
 simp [run_size hi, hs]
theorem denStore_go_ok {x : Operand} (env : Env) (n : Nat) (bk : List Nat) (k : Env → G) (R : Ending → World → Prop) (dst : Option Tmp) (p : Addr) :
  ∀ (vs : List Value) (i : Nat) (w : World), denStore.go (GA P) n bk env k dst p vs i R w →
   ∃ w', (storeCells p vs i).run P w = .ok () w' ∧ putE (GA P) n bk dst (.v undef) env k R w'
 | [], _, w, h => ⟨w, rfl, h⟩
 | v :: vs, i, w, h => by
  obtain ⟨h1, h2, h3, h4⟩ := h
  obtain ⟨w', hr, hp⟩ := denStore_go_ok (x := x) env n bk k R dst p vs (i + 1) _ h4
  refine ⟨w', ?_, hp⟩
  obtain ⟨u, hu⟩ := h2
  simp only [storeCells, Sem.run_bind, run_store _ _ _ _ _ h1, hu, h3, Bool.false_eq_true, if_false, Result.andThen_ok]
  exact hr
theorem oneCell_cells {v : Value} (h : v.oneCell' = true) : v.cells = #[v] := by cases v <;> first | rfl | (simp [Value.oneCell'] at h)
theorem denStore_ok {t : TypeId} {x v : Operand} {env : Env} {n : Nat} {bk : List Nat} {k : Env → G} {R : Ending → World → Prop} {dst : Option Tmp} {w : World}
  (h : denStore P (GA P) n bk t x v env k dst R w) : ∃ p w', env.ρ x = .pointer (some p) ∧ (storeVar t p (env.ρ v)).run P w = .ok () w' ∧ putE (GA P) n bk dst (.v undef) env k R w' := by
 unfold denStore at h
 cases hx : env.ρ x <;> simp only [hx] at h <;> first | exact h.elim | skip
 rename_i q
 cases q with
 | none => exact h.elim
 | some p =>
  dsimp only at h
  cases hv : vtOf P t with
  | none => simp only [hv] at h; exact h.elim
  | some vt =>
   simp only [hv] at h
   have one : (match Nat.beq (P.cellsOf t) 1 with
     | true => (GA P).st p (env.ρ v) (putE (GA P) n bk dst (.v undef) env k)
     | false => (GA P).fail "store" : G) R w → ∃ p' w', Value.pointer (some p) = .pointer (some p') ∧ (storeVar t p' (env.ρ v)).run P w = .ok () w' ∧ putE (GA P) n bk dst (.v undef) env k R w' := by
    intro hh
    cases hb : Nat.beq (P.cellsOf t) 1 with
    | false => simp only [hb] at hh; exact hh.elim
    | true =>
     simp only [hb] at hh
     have h1 : P.cellsOf t = 1 := Nat.eq_of_beq_eq_true hb
     obtain ⟨i, hi⟩ := info_of_cells (P := P) (t := t) (by omega)
     obtain ⟨h2, ⟨u, hu⟩, h4, h5⟩ := hh
     refine ⟨p, _, rfl, ?_, h5⟩
     rw [run_storeVar_agg hi p (env.ρ v) (by rw [oneCell_cells h2, ← cellsOf_info hi, h1]; rfl), oneCell_cells h2]
     simp only [storeCells, Sem.run_bind, run_store _ _ _ _ _ h2, Addr.add_zero', hu, h4, Bool.false_eq_true, if_false, Result.andThen_ok]
     rfl
   cases vt with
   | one c =>
    cases c <;> first
     | exact one h
     | (obtain ⟨w', hr, hk⟩ := h; exact ⟨p, w', rfl, hr, hk⟩)
   | agg cs =>
    dsimp only at h
    cases hy : env.ρ v <;> simp only [hy] at h <;> first | exact h.elim | skip
    rename_i cells
    cases hb : Nat.beq cells.size (P.cellsOf t) with
    | false => simp only [hb] at h; exact h.elim
    | true =>
     simp only [hb] at h
     have h1 := Nat.eq_of_beq_eq_true hb
     have hinfo : ∃ i, P.info? t = some i := by
      unfold vtOf Program.underlying at hv
      cases hi : P.info? t with
      | some i => exact ⟨i, rfl⟩
      | none => simp [hi, ctOf, Program.underlying] at hv
     obtain ⟨i, hi⟩ := hinfo
     obtain ⟨w', hr, hp⟩ := denStore_go_ok (x := x) env n bk k R dst p _ _ w h
     refine ⟨p, w', rfl, ?_, hp⟩
     rw [run_storeVar_agg hi p _ (by simp only [Value.cells]; rw [h1, cellsOf_info hi])]
     exact hr
theorem wp_value {o : Oper} {a : Act} {w w' : World} {v : Value} {K : Act → World → Prop} {Q : Exit → Act → World → Prop}
  (h : (execOp a.eval o).run P w = .ok (.value v) w') (hK : K (a.put o.dst v) w') : o.wp P a w K Q := by
 unfold Oper.wp; rw [h]; exact hK
theorem wp_skipped {o : Oper} {a : Act} {w w' : World} {K : Act → World → Prop} {Q : Exit → Act → World → Prop}
  (h : (execOp a.eval o).run P w = .ok .skip w') (hK : K (a.put o.dst undef) w') : o.wp P a w K Q := by
 unfold Oper.wp; rw [h]; exact hK
theorem fill_one (place : Nat → Option (Nat × Nat)) (m : Nat) (hp : place 0 = some (0, m)) (v : Value) (hv : v.cells.size = m) (z : Array Value) (hz : z.size = m) :
  Instr.fill place z [(0, v)] = some v.cells := by
 have key : ∀ (l : List Value) (k : Nat) (acc : Array Value), k + l.length = acc.size → (l.zipIdx k).foldl (fun cs (c, j) => cs.setIfInBounds (0 + j) c) acc = (acc.toList.take k ++ l).toArray := by
  intro l
  induction l with
  | nil => intro k acc h; simp at h; subst h; simp only [List.zipIdx_nil, List.foldl_nil, List.append_nil]; rw [← Array.length_toList, List.take_length]
  | cons c l ih =>
   intro k acc h
   simp only [List.zipIdx_cons, List.foldl_cons, Nat.zero_add]
   have hk : k < acc.size := by simp at h; omega
   have := ih (k + 1) (acc.setIfInBounds k c) (by simp at h ⊢; omega)
   simp only [Nat.zero_add] at this
   rw [this]
   congr 1
   simp only [Array.toList_setIfInBounds]
   rw [List.take_set, List.take_succ_eq_append_getElem (by simpa using hk)]
   rw [List.set_append_right _ _ (by simp; omega)]
   ·simp [Nat.min_eq_left (Nat.le_of_lt hk)]
 simp only [Instr.fill, hp]
 rw [if_neg (by simp [hv, hz])]
 have h2 := key v.cells.toList 0 z (by simp [hv, hz])
 rw [← Array.foldl_toList]
 have h3 : v.cells.zipIdx.toList = v.cells.toList.zipIdx := by simp
 rw [h3, h2]
 simp
theorem onePart_ok {m : Nat} {ps : Array (Nat × Operand)} {x : Operand} (h : onePart m ps = some x) : m = 1 ∧ ps = #[(0, x)] := by
 unfold onePart at h
 cases hm : Nat.beq m 1 with
 | false => simp only [hm] at h; cases h
 | true =>
  simp only [hm] at h
  obtain rfl := Nat.eq_of_beq_eq_true hm
  obtain ⟨l⟩ := ps
  match l, h with
  | [], h => cases h
  | [(i, y)], h =>
   dsimp only at h
   cases hi : Nat.beq i 0 with
   | false => simp only [hi] at h; cases h
   | true =>
    simp only [hi, Option.some.injEq] at h
    obtain rfl := Nat.eq_of_beq_eq_true hi
    subst h
    exact ⟨rfl, rfl⟩
  | _ :: _ :: _, h => cases h
theorem run_buildOne {o : Oper} {t e : TypeId} {x : Operand} (ho : o.op = .buildSlice t 1 #[(0, x)]) (hs : P.underlying t = some (.slice e)) (hz : hasZero P e = true) (hzs : (zeroOf P e).size = P.cellsOf e)
  (hge : 1 ≤ P.cellsOf e) (hle : P.cellsOf e ≤ 4096) {env : Env} {cs : Array Value} (hcs : (env.ρ x).cells = cs) (hsz : cs.size = P.cellsOf e) (w : World) :
  (execOp env.ρ o).run P w = .ok (.value (.slice (some ⟨w.heap.size, 0, none⟩) 1 1)) (w.alloc (.cells cs e)) := by
 subst hcs
 unfold hasZero at hz
 cases hi : P.info? e with
 | none => simp [hi] at hz
 | some i =>
  simp only [hi] at hz
  obtain ⟨z, hz⟩ := Option.isSome_iff_exists.1 hz
  have he : zeroOf P e = z.cells := by simp [zeroOf, hi, hz]
  rw [he] at hzs
  rw [cellsOf_info hi] at *
  have hf : Instr.fill (fun j => some (j * i.size, i.size)) ((Array.range (1 * i.size)).map (z.cells[· % z.cells.size]!)) [(0, env.ρ x)] = some (env.ρ x).cells :=
   fill_one _ i.size (by simp) _ hsz _ (by simp)
  unfold execOp
  simp only [ho]
  have h1 : ¬ (1 * i.size > 2 ^ 24) := by omega
  have h2 : ¬ (1 * i.size = 0) := by omega
  simp only [Instr.buildSlice, Sem.run_bind, run_u hs, Result.andThen_ok, run_size hi, if_neg h1, if_neg h2, zeroValue, typeInfo, run_program, hi, hz, Sem.run_pure, List.map_toArray, List.map_cons, List.map_nil, hf]
  simp [newRow]
theorem denEff_ok {o : Oper} {env : Env} {n : Nat} {bk : List Nat} {k : Env → G} {R : Ending → World → Prop} {w : World} {a : Act}
  (h : denEff P (GA P) n bk o env k R w) (ha : EnvOk D env n a) {K : Act → World → Prop} {Q : Exit → Act → World → Prop} (hP : PA R Q a) (hK : ∀ a' w', Goes D n bk a k R a' w' → K a' w') : o.wp P a w K Q := by
 unfold denEff at h
 cases hall : hasAll o env with
 | false => simp only [hall] at h; exact h.elim
 | true =>
  simp only [hall] at h
  have sem : (∀ cs b, o.op ≠ .select cs b) → denPlain P (GA P) n bk o env k R w → o.wp P a w K Q := by
   intro hs hh
   obtain ⟨x, w', hr, hx⟩ := denSem_ok hh
   rw [← ha.exec hall hs] at hr
   cases x <;> first
    | exact wp_value hr (hK _ _ (putE_ok hx ha))
    | exact wp_skipped hr (hK _ _ (putE_ok hx ha))
    | exact hx.elim
  have opT : ∀ {s : Sem Value} {t : TypeId}, (∀ cs b, o.op ≠ .select cs b) → (∀ v w', s.run P w = .ok v w' → (execOp env.ρ o).run P w = .ok (.value v) w') →
    (denOpT P (GA P) n bk s t o.dst env k : G) R w → o.wp P a w K Q := by
   intro s t hs hex hh
   obtain ⟨v, w', hr, hg⟩ := denOpT_ok hh ha
   exact wp_value (by rw [ha.exec hall hs]; exact hex v w' hr) (hK _ _ hg)
  cases ho : o.op <;> simp only [ho] at h <;> first | exact sem (by simp [ho]) h | skip
  case store t x v =>
   obtain ⟨p, w', hx, hr, hp⟩ := denStore_ok h
   refine wp_skipped (w' := w') ?_ (hK _ _ (putE_ok hp ha))
   rw [ha.exec hall (by simp [ho])]
   unfold execOp
   simp only [ho]
   simp [Instr.storeAt, Instr.sureAddr, hx, hr]
  case binOp op t x y yt =>
   obtain ⟨b, w', hr, hp⟩ := h
   refine wp_value (w' := w') ?_ (hK _ _ (putE_ok hp ha))
   rw [ha.exec hall (by simp [ho])]
   unfold execOp
   unfold eqSem at hr
   simp only [ho, Sem.run_bind] at hr ⊢
   rw [hr]
   rfl
  case convert s d x =>
   refine opT (by simp [ho]) (fun v w' hr => ?_) h
   unfold execOp
   simp only [ho, Sem.run_bind, hr, Result.andThen_ok]
   rfl
  case alloc t =>
   cases hz : hasZero P t with
   | false => simp only [hz] at h; exact h.elim
   | true =>
    simp only [hz] at h
    unfold hasZero at hz
    cases hi : P.info? t with
    | none => simp [hi] at hz
    | some i =>
     simp only [hi] at hz
     obtain ⟨z, hz⟩ := Option.isSome_iff_exists.1 hz
     have he : zeroOf P t = z.cells := by simp [zeroOf, hi, hz]
     refine wp_value (w' := w.alloc (.cells (zeroOf P t) t)) ?_ (hK _ _ (putE_ok h ha))
     rw [ha.exec hall (by simp [ho]), he]
     unfold execOp
     simp only [ho]
     simp [Instr.alloc, zeroValue, typeInfo, hi, hz, newVar, newRow]
     rfl
  case buildSlice t m parts =>
   unfold denBuild at h
   cases hop : onePart m parts with
   | none => simp only [hop] at h; exact sem (by simp [ho]) h
   | some x =>
   simp only [hop] at h
   obtain ⟨rfl, rfl⟩ := onePart_ok hop
   cases hs : P.underlying t with
   | none => simp only [hs] at h; exact h.elim
   | some d =>
    simp only [hs] at h
    cases d <;> first | exact h.elim | skip
    rename_i e
    dsimp only at h
    cases hc : (hasZero P e && Nat.beq (zeroOf P e).size (P.cellsOf e) && Nat.ble 1 (P.cellsOf e) && Nat.ble (P.cellsOf e) 4096) with
    | false => simp only [hc] at h; exact h.elim
    | true =>
     simp only [hc] at h
     simp only [Bool.and_eq_true] at hc
     obtain ⟨⟨⟨hz, hzs⟩, hge⟩, hle⟩ := hc
     have hzs := Nat.eq_of_beq_eq_true hzs
     have hge := Nat.le_of_ble_eq_true hge
     have hle := Nat.le_of_ble_eq_true hle
     have fin : ∀ cs : Array Value, (env.ρ x).cells = cs → cs.size = P.cellsOf e →
       (putE (GA P) n bk o.dst (.v (.slice (some ⟨w.heap.size, 0, none⟩) 1 1)) env k : G) R (w.alloc (.cells cs e)) → o.wp P a w K Q := by
      intro cs hcs hsz hp
      refine wp_value (w' := w.alloc (.cells cs e)) ?_ (hK _ _ (putE_ok hp ha))
      rw [ha.exec hall (by simp [ho])]
      exact run_buildOne ho hs hz hzs hge hle hcs hsz w
     cases hx : env.ev x with
     | none => simp only [hx] at h; exact h.elim
     | some u =>
      simp only [hx] at h
      have one : (match Nat.beq (P.cellsOf e) 1 with
        | true => (GA P).assume u.val.oneCell' ((GA P).new (.cells #[u.val] e (0, 0)) fun b => putE (GA P) n bk o.dst (.v (.slice (some ⟨b, 0, none⟩) 1 1)) env k)
        | false => (GA P).fail "buildSlice" : G) R w → o.wp P a w K Q := by
       intro hh
       cases hb : Nat.beq (P.cellsOf e) 1 with
       | false => simp only [hb] at hh; exact hh.elim
       | true =>
        simp only [hb] at hh
        exact fin _ (by rw [ρ_ev hx, oneCell_cells (assumeG_and hh).1]) (by rw [Nat.eq_of_beq_eq_true hb]; rfl) (assumeG_and hh).2
      cases u with
      | kb b => exact one h
      | opq y => exact one h
      | v y =>
       cases y <;> first | exact one h | skip
       rename_i cs
       obtain ⟨h1, h2⟩ := assumeG_and h
       exact fin cs (by rw [ρ_ev hx]; rfl) (Nat.eq_of_beq_eq_true h1) h2
  case makeMap t r =>
   refine opT (by simp [ho]) (fun v w' hr => ?_) h
   unfold execOp
   simp only [ho, Sem.run_bind, hr, Result.andThen_ok]
   rfl
  case lookup t x i ok =>
   obtain ⟨v, w', hr, hg⟩ := denOpR_ok h ha
   refine wp_value ?_ (hK _ _ hg)
   rw [ha.exec hall (by simp [ho])]
   unfold execOp
   simp only [ho, Sem.run_bind, hr, Result.andThen_ok]
   rfl
  case typeAssert x xT as ok =>
   cases hv : pureVal P (execOp env.ρ o) with
   | some v =>
    simp only [hv] at h
    refine wp_value ?_ (hK _ _ (putE_ok h ha))
    rw [ha.exec hall (by simp [ho])]
    exact pureVal_run hv w
   | none =>
    simp only [hv] at h
    obtain ⟨v, w', hr, hg⟩ := denOpR_ok h ha
    refine wp_value ?_ (hK _ _ hg)
    rw [ha.exec hall (by simp [ho])]
    unfold execOp
    simp only [ho, Sem.run_bind, hr, Result.andThen_ok]
    rfl
  case mapUpdate t m kk x =>
   obtain ⟨w', hr, hp⟩ := h
   refine wp_skipped (w' := w') ?_ (hK _ _ (putE_ok hp ha))
   rw [ha.exec hall (by simp [ho])]
   unfold execOp
   simp only [ho, Sem.run_bind, hr, Result.andThen_ok]
   rfl
  case insert t m kk x =>
   obtain ⟨w', hr, hp⟩ := h
   refine wp_skipped (w' := w') ?_ (hK _ _ (putE_ok hp ha))
   rw [ha.exec hall (by simp [ho])]
   unfold execOp
   simp only [ho, Sem.run_bind, hr, Result.andThen_ok]
   rfl
  case panic x =>
   obtain ⟨⟨t, u, hv⟩, hR⟩ := h
   unfold Oper.wp
   rw [ha.exec hall (by simp [ho])]
   unfold execOp
   simp only [ho, hv, Instr.panic, Sem.run_bind]
   rw [hv] at hR
   exact hP _ _ hR
  case makeSlice t l c =>
   refine opT (by simp [ho]) (fun v w' hr => ?_) h
   unfold execOp
   simp only [ho, Sem.run_bind, hr, Result.andThen_ok]
   rfl
  case select cs b => exact h.elim
  case call c =>
   obtain ⟨callee, args, argTypes⟩ := c
   have he : execOp a.eval o = execOp env.ρ o := ha.exec hall (by simp [ho])
   cases callee with
   | invoke r m => exact h.elim
   | value fv =>
    cases fv with
    | const v => exact h.elim
    | global g => exact h.elim
    | func f => exact denCall_ok ho rfl (first := #[]) (captured := #[]) rfl (by simp) h ha he hP hK
    | tmp t =>
     dsimp only at h
     cases hg : env.get t with
     | none => simp only [hg] at h; exact h.elim
     | some e =>
      simp only [hg] at h
      cases e with
      | kb b => exact h.elim
      | v x =>
       cases x <;> first | exact h.elim | skip
       rename_i fn first captured
       cases fn <;> first | exact h.elim | skip
       exact denCall_ok ho rfl (by simp [Env.ρ, Env.ev, hg, EV.val]) rfl h ha he hP hK
      | opq fv =>
       dsimp only at h
       cases hv : resT P o.type with
       | none => simp only [hv] at h; exact h.elim
       | some vs' =>
        simp only [hv] at h
        obtain ⟨f, first, captured, rfl, hr, hc⟩ := h
        obtain ⟨vs, hvs⟩ := Option.isSome_iff_exists.1 hr
        unfold Oper.wp
        rw [he]
        have hrun : (execOp env.ρ o).run P w = .ok (.enter f (first ++ args.map env.ρ ++ captured)) w := by
         unfold execOp
         simp only [ho]
         simp only [resolve, Env.ρ, Env.ev, hg, EV.val, Deferred.ofValue, invoke, Sem.run_bind, Sem.run_pure, Result.andThen_ok, run_callFunc hvs]
        rw [hrun, Oper.upon_enter]
        refine Calls.mono hc ?_
        rintro e w' (⟨xs, rfl, hk⟩ | ⟨c, rfl, hk⟩)
        rotate_left
        ·exact hP _ _ hk
        apply hK
        have hp := putE_ok (unV hk) ha
        rw [packE_val] at hp
        exact hp
   | builtin b =>
    cases b <;> first | exact h.elim | skip
    case append =>
     refine opT (by simp [ho]) (fun v w' hr => ?_) h
     unfold execOp
     simp only [ho, resolve, invoke, builtin, Sem.run_bind, Sem.run_pure, Result.andThen_ok, hr]
    case clear =>
     obtain ⟨v, w', hr, hg⟩ := denOpR_ok h ha
     refine wp_value ?_ (hK _ _ hg)
     rw [he]
     unfold execOp
     simp only [ho, resolve, invoke, builtin, Sem.run_bind, Sem.run_pure, Result.andThen_ok, hr]
    case delete =>
     obtain ⟨v, w', hr, hg⟩ := denOpR_ok h ha
     refine wp_value ?_ (hK _ _ hg)
     rw [he]
     unfold execOp
     simp only [ho, resolve, invoke, builtin, Sem.run_bind, Sem.run_pure, Result.andThen_ok, hr]
    case len =>
     obtain ⟨v, w', hr, hg⟩ := denOpR_ok h ha
     refine wp_value ?_ (hK _ _ hg)
     rw [he]
     unfold execOp
     simp only [ho, resolve, invoke, builtin, Sem.run_bind, Sem.run_pure, Result.andThen_ok, hr]
    case copy =>
     obtain ⟨⟨x, u⟩, w', hr, hp⟩ := h
     refine wp_value (w' := w') ?_ (hK _ _ (putE_ok hp ha))
     rw [he]
     unfold execOp
     simp only [ho, resolve, invoke, builtin, Sem.run_bind, Sem.run_pure, Result.andThen_ok, hr]
     rfl
theorem denOp_ok {o : Oper} {env : Env} {n : Nat} {bk : List Nat} {k : Env → G} {R : Ending → World → Prop} {w : World} {a : Act}
  (h : denOp P (GA P) n bk o env k R w) (ha : EnvOk D env n a) {K : Act → World → Prop} {Q : Exit → Act → World → Prop} (hP : PA R Q a) (hK : ∀ a' w', Goes D n bk a k R a' w' → K a' w') : o.wp P a w K Q := by
 unfold denOp at h
 cases hv : isVal P o with
 | false => simp only [hv] at h; exact denEff_ok h ha hP hK
 | true =>
  simp only [hv] at h
  obtain ⟨hall, e, fs, hk, hf, hg⟩ := denVal_ok h
  exact wp_value (by rw [ha.exec hall (noSel P hv)]; exact hg w hf) (hK _ _ (putE_ok hk ha))
theorem gd_yield {ops : List Oper} {o : Oper} {j : Nat} {want : Bool} (hg : o.guard = some (j, want)) {oj : Oper} {d : Nat} (hj : ops[j]? = some oj) (hd : oj.dst = some d) (tmps : Array Value) :
  Region.wanted o (yielded ops.toArray tmps) = ((match tmps[d]? with | some (.bool b) => some b | _ => none) == some want) := by
 simp [Region.wanted, hg, yielded, hj, hd]
 rfl
theorem gd_ok {ops : List Oper} {env : Env} {o : Oper} {n : Nat} {a : Act} (ha : EnvOk D env n a) :
  match gd ops env o with
  | .run => Region.wanted o (yielded ops.toArray a.tmps) = true
  | .skip => Region.wanted o (yielded ops.toArray a.tmps) = false
  | .split d b want => env.get d = some (.v (.bool b)) ∧ Region.wanted o (yielded ops.toArray a.tmps) = (b == want)
  | .bad => True := by
 unfold gd
 cases hg : o.guard with
 | none => simp [Region.wanted, hg]
 | some jw =>
  obtain ⟨j, want⟩ := jw
  dsimp only
  cases hj : ops[j]? with
  | none => trivial
  | some oj =>
   dsimp only
   cases hd : oj.dst with
   | none => trivial
   | some d =>
    dsimp only
    have hy := gd_yield hg hj hd a.tmps
    cases he : env.get d with
    | none => trivial
    | some e =>
     have hget := ha.get d e he
     cases e with
     | opq x => trivial
     | kb b =>
      have hb : a.tmps[d]? = some (.bool b) := by
       rw [Array.getD_eq_getD_getElem?] at hget
       cases ht : a.tmps[d]? with
       | none => rw [ht] at hget; cases hget
       | some u => rw [ht] at hget; exact congrArg some hget
      rw [hb] at hy
      cases b <;> cases want <;> simpa using hy
     | v x =>
      cases x <;> first | trivial | skip
      case bool b =>
       have hb : a.tmps[d]? = some (.bool b) := by
        rw [Array.getD_eq_getD_getElem?] at hget
        cases ht : a.tmps[d]? with
        | none => rw [ht] at hget; cases hget
        | some u => rw [ht] at hget; exact congrArg some hget
       rw [hb] at hy
       exact ⟨he, by rw [hy]; rfl⟩
      case tuple vs =>
       have hb : (match a.tmps[d]? with | some (.bool b) => some b | _ => none) = none := by
        rw [Array.getD_eq_getD_getElem?] at hget
        cases ht : a.tmps[d]? with
        | none => rfl
        | some u => rw [ht] at hget; change u = _ at hget; subst hget; rfl
       rw [hb] at hy
       rw [hy]
       rfl
theorem EnvOk.decide {env : Env} {n : Nat} {a : Act} (ha : EnvOk D env n a) {d : Nat} {b : Bool} (h : env.get d = some (.v (.bool b))) : EnvOk D ((d, .kb b) :: env) n a :=
 ⟨ha.size, ha.defers, fun t e he => by
  simp only [Env.get] at he
  cases ht : Nat.beq d t with
  | true =>
   simp only [ht, Option.some.injEq] at he
   obtain rfl := Nat.eq_of_beq_eq_true ht
   subst he
   exact (show a.tmps.getD d undef = (EV.v (.bool b)).val from ha.get _ _ h)
  | false => simp only [ht] at he; exact ha.get t e he⟩
theorem denOps_ok {ops : List Oper} {n : Nat} {bk : List Nat} {k : Env → G} {R : Ending → World → Prop} {Q : Exit → Act → World → Prop} (a0 : Act)
  (hP : PQ bk D a0 R Q) (hQ : ∀ a' w', Goes D n bk a0 k R a' w' → Q .normal a' w') : ∀ (l : List Oper) (env : Env) (a : Act) (w : World), EnvOk D env n a → Kept bk a0 a →
   denOps P (GA P) n bk ops l env k R w → wpList P ops.toArray Q l a w
 | [], env, a, w, ha, hk, h => hQ a w ⟨env, ha, hk, h⟩
 | o :: l, env, a, w, ha, hkp, h => by
  have run : ∀ env, EnvOk D env n a → Region.wanted o (yielded ops.toArray a.tmps) = true → (denOp P (GA P) n bk o env fun env' => denOps P (GA P) n bk ops l env' k : G) R w →
    wpList P ops.toArray Q (o :: l) a w := by
   intro env ha hw hh
   simp only [wpList, hw, if_true]
   refine .inl (denOp_ok hh ha (fun c w => hP c a w ha.defers hkp) fun a' w' hg => ?_)
   obtain ⟨env', h1, h2, h3⟩ := hg
   exact denOps_ok a0 hP hQ l env' a' w' h1 (hkp.trans h2) h3
  have skip : ∀ env, EnvOk D env n a → Region.wanted o (yielded ops.toArray a.tmps) = false → (putE (GA P) n bk o.dst (.v undef) env fun env' => denOps P (GA P) n bk ops l env' k : G) R w →
    wpList P ops.toArray Q (o :: l) a w := by
   intro env ha hw hh
   simp only [wpList, hw]
   obtain ⟨env', h1, h2, h3⟩ := putE_ok hh ha
   exact denOps_ok a0 hP hQ l env' _ w h1 (hkp.trans h2) h3
  simp only [denOps] at h
  have hg := gd_ok (ops := ops) (o := o) ha
  cases hgd : gd ops env o with
  | run => simp only [hgd] at h hg; exact run env ha hg h
  | skip => simp only [hgd] at h hg; exact skip env ha hg h
  | bad => simp only [hgd] at h; exact h.elim
  | split d b want =>
   simp only [hgd] at h hg
   obtain ⟨h1, h2⟩ := iteG_and h
   cases b
   ·have h2 := h2 rfl
    have hd := ha.decide hg.1
    cases want
    ·exact run _ hd hg.2 h2
    ·exact skip _ hd hg.2 h2
   ·have h1 := h1 rfl
    have hd := ha.decide hg.1
    cases want
    ·exact skip _ hd hg.2 h1
    ·exact run _ hd hg.2 h1
def wpAnyO (P : Program) (ops : Array Oper) (Q : Exit → Act → World → Prop) (Ob : Nat → World → World → Prop) : Nat → Array Bool → Act → World → Prop
 | 0, listed, a, w => Region.ready .any ops listed = [] ∧ Q .normal a w
 | fuel + 1, listed, a, w =>
  (Region.ready .any ops listed = [] → Q .normal a w) ∧
  ∀ i ∈ Region.ready .any ops listed, wpOp P ops Q i (fun a' w' => Ob i w w' ∧ wpAnyO P ops Q Ob fuel (listed.setIfInBounds i true) a' w') a w
theorem wpAnyO_any {ops : Array Oper} {Q : Exit → Act → World → Prop} {Ob : Nat → World → World → Prop} : ∀ (fuel : Nat) (listed : Array Bool) (a : Act) (w : World), wpAnyO P ops Q Ob fuel listed a w → wpAny P .any ops Q fuel listed a w
 | 0, _, _, _, h => h
 | fuel + 1, _, _, _, h => ⟨h.1, fun i hi => wpOp_mono (fun a' w' h' => wpAnyO_any fuel _ a' w' h'.2) (h.2 i hi)⟩
theorem wpAnyO_mono {ops : Array Oper} {Q : Exit → Act → World → Prop} {Ob Ob' : Nat → World → World → Prop} (hO : ∀ i w w', Ob' i w w' → Ob i w w') :
  ∀ (fuel : Nat) (listed : Array Bool) (a : Act) (w : World), wpAnyO P ops Q Ob' fuel listed a w → wpAnyO P ops Q Ob fuel listed a w
 | 0, _, _, _, h => h
 | fuel + 1, _, _, _, h => ⟨h.1, fun i hi => wpOp_mono (fun a' w' h' => ⟨hO _ _ _ h'.1, wpAnyO_mono hO fuel _ a' w' h'.2⟩) (h.2 i hi)⟩
def Closed (ops : Array Oper) (listed : Array Bool) : Prop :=
 ∀ j o, ops[j]? = some o → listed.getD j true = true → ∀ e ∈ o.after, Region.binds .any e = true → listed.getD e.on false = true
theorem Closed.set {ops : Array Oper} {listed : Array Bool} (h : Closed ops listed) {i : Nat} (hi : i ∈ Region.ready .any ops listed) : Closed ops (listed.setIfInBounds i true) := by
 intro j o ho hj e he hb
 obtain ⟨h0, oi, hoi, hall⟩ := mem_ready.1 hi
 by_cases hij : i = j
 ·subst hij
  rw [ho] at hoi
  cases hoi
  exact getD_set_true (hall e he hb)
 ·rw [getD_set_ne true hij] at hj
  exact getD_set_true (h j o ho hj e he hb)
theorem getD_lt {listed : Array Bool} {i : Nat} (h : listed.getD i true = false) : listed.getD i false = false := by
 rw [Array.getD_eq_getD_getElem?] at h ⊢
 cases ht : listed[i]? with
 | none => rfl
 | some b => rw [ht] at h; exact h
theorem dep2_not_ready {ops : Array Oper} {listed : Array Bool} (hc : Closed ops listed) {i j : Nat} {oj : Oper} (hi : listed.getD i true = false) (hj : ops[j]? = some oj) (hd : dep2 ops.toList oj i = true) :
  j ∉ Region.ready .any ops listed := by
 intro hr
 obtain ⟨h0, o, ho, hall⟩ := mem_ready.1 hr
 rw [hj] at ho
 cases ho
 have hi' := getD_lt hi
 unfold dep2 at hd
 rw [Bool.or_eq_true] at hd
 rcases hd with hd | hd
 ·unfold edge1 at hd
  obtain ⟨e, he, hb⟩ := List.any_eq_true.1 hd
  rw [Bool.and_eq_true] at hb
  have := hall e (Array.mem_toList_iff.1 he) hb.1
  rw [Nat.eq_of_beq_eq_true hb.2, hi'] at this
  cases this
 ·obtain ⟨e, he, hb⟩ := List.any_eq_true.1 hd
  rw [Bool.and_eq_true] at hb
  have hon := hall e (Array.mem_toList_iff.1 he) hb.1
  have hb2 := hb.2
  rw [Array.getElem?_toList] at hb2
  cases hm : ops[e.on]? with
  | none => rw [hm] at hb2; cases hb2
  | some m =>
   rw [hm] at hb2
   unfold edge1 at hb2
   obtain ⟨e2, he2, hb3⟩ := List.any_eq_true.1 hb2
   rw [Bool.and_eq_true] at hb3
   have hon' : listed.getD e.on true = true := by
    rw [Array.getD_eq_getD_getElem?] at hon ⊢
    cases ht : listed[e.on]? with
    | none => rfl
    | some b => rw [ht] at hon; exact hon
   have := hc e.on m hm hon' e2 (Array.mem_toList_iff.1 he2) hb3.1
   rw [Nat.eq_of_beq_eq_true hb3.2, hi'] at this
   cases this
theorem wpAnyO_first {ops : Array Oper} {Q : Exit → Act → World → Prop} {Ob : Nat → World → World → Prop} {S : World → Prop} {i : Nat} {oi : Oper} {v : Value} (hi : ops[i]? = some oi)
  (hsel : ∀ (j : Nat) (o : Oper) cs b, ops[j]? = some o → o.op ≠ .select cs b) (hQ : ∀ c a w, Q (.panic c) (a.put oi.dst v) w → Q (.panic c) a w) (hOi : ∀ w, Ob i w w) :
  ∀ (fuel : Nat) (listed : Array Bool) (a : Act) (w : World), Closed ops listed →
   (∀ j oj, ops[j]? = some oj → j ≠ i → listed.getD j true = false → (∀ e ∈ oj.after, Region.binds .any e = true → e.on ≠ i) → oi.apart ops oj = true) →
   (∀ j oj, ops[j]? = some oj → j ≠ i → listed.getD j true = false → dep2 ops.toList oj i = false → ∀ w w', Ob j w w' → S w → S w') →
   i ∈ Region.ready .any ops listed → YieldsIf P ops S oi v a → S w →
   wpAnyO P ops Q Ob fuel (listed.setIfInBounds i true) (a.put oi.dst v) w → wpAnyO P ops Q Ob (fuel + 1) listed a w := by
 intro fuel
 induction fuel with
 | zero =>
  intro listed a w _ _ _ hr hy hS H
  refine ⟨fun h => (by rw [h] at hr; cases hr), fun j hj => ?_⟩
  by_cases hji : j = i
  ·subst hji; exact hy.wpOp hi hS ⟨hOi _, H⟩
  ·have := ready_mono hj hji
   rw [H.1] at this
   cases this
 | succ fuel ih =>
  intro listed a w hcl hfree hob hr hy hS H
  refine ⟨fun h => (by rw [h] at hr; cases hr), fun j hj => ?_⟩
  by_cases hji : j = i
  ·subst hji; exact hy.wpOp hi hS ⟨hOi _, H⟩
  ·have h1 := H.2 j (ready_mono hj hji)
   obtain ⟨hjun, oj, hoj, hall⟩ := mem_ready.1 hj
   have hnot : ∀ e ∈ oj.after, Region.binds .any e = true → e.on ≠ i := fun e he hb heq => by
    have h1 := hall e he hb
    have h0 := (mem_ready.1 hr).1
    rw [heq, getD_lt h0] at h1
    cases h1
   have hndep : dep2 ops.toList oj i = false := by
    cases hd : dep2 ops.toList oj i with
    | false => rfl
    | true => exact absurd hj (dep2_not_ready hcl (mem_ready.1 hr).1 hoj hd)
   have h2 := wpOp_putIf hoj (hfree j oj hoj hji hjun hnot) (fun cs b => hsel i oi cs b hi) (fun cs b => hsel j oj cs b hoj) hQ hy h1
   have keepj : ∀ k, (listed.setIfInBounds j true).getD k true = false → listed.getD k true = false := fun k hun => by
    by_cases hjk : j = k
    ·subst hjk; exact hjun
    ·rw [getD_set_ne true hjk] at hun; exact hun
   refine wpOp_mono (fun a' w' h3 => ⟨h3.2.1, ih (listed.setIfInBounds j true) a' w' (hcl.set hj) (fun k ok hk hki hun hno => hfree k ok hk hki (keepj k hun) hno)
    (fun k ok hk hki hun hno => hob k ok hk hki (keepj k hun) hno) (ready_mono hr (Ne.symm hji)) h3.1 (hob j oj hoj hji hjun hndep w w' h3.2.1 hS) ?_⟩) h2
   rw [Array.setIfInBounds_comm _ _ hji]
   exact h3.2.2
def ObOf (ops : Array Oper) (fs : List OF) (i : Nat) (w w' : World) : Prop := w' = w ∨ ∀ o, ops[i]? = some o → ∀ p ∈ fs, dep2 ops.toList o p.1 = false → Held w' p.2
end
section
variable {P : Program} {D : List Deferred}
theorem listedOf_getD (m : Nat) (d : Bool) : ∀ (done : List Nat) (j : Nat), j < m → (listedOf m done).getD j d = memN done j := by
 intro done
 have hsz : ∀ done : List Nat, (listedOf m done).size = m := by
  intro done
  induction done with
  | nil => simp [listedOf]
  | cons i done ih => simp only [listedOf, List.foldr_cons, Array.size_setIfInBounds]; exact ih
 induction done with
 | nil => intro j hj; simp [listedOf, memN, hj]
 | cons i done ih =>
  intro j hj
  have he : listedOf m (i :: done) = (listedOf m done).setIfInBounds i true := rfl
  rw [he]
  simp only [memN]
  cases hb : Nat.beq i j with
  | true =>
   obtain rfl := Nat.eq_of_beq_eq_true hb
   have : i < (listedOf m done).size := by rw [hsz]; exact hj
   simp [this]
  | false =>
   have hne : i ≠ j := fun e => by subst e; rw [Nat.beq_refl] at hb; cases hb
   rw [getD_set_ne d hne]
   exact ih j hj
theorem listedOf_size (m : Nat) : ∀ done : List Nat, (listedOf m done).size = m
 | [] => by simp [listedOf]
 | i :: done => by
  have he : listedOf m (i :: done) = (listedOf m done).setIfInBounds i true := rfl
  rw [he, Array.size_setIfInBounds, listedOf_size m done]
theorem listedOf_inN (m : Nat) (done : List Nat) (j : Nat) : (listedOf m done).getD j false = inN m done j := by
 unfold inN
 by_cases hj : j < m
 ·rw [listedOf_getD m false done j hj, show Nat.blt j m = true by rw [Nat.blt_eq]; exact hj, Bool.true_and]
 ·have h1 : (listedOf m done)[j]? = none := Array.getElem?_eq_none (by rw [listedOf_size]; omega)
  have h2 : Nat.blt j m = false := by
   cases hb : Nat.blt j m with
   | false => rfl
   | true => rw [Nat.blt_eq] at hb; exact absurd hb hj
  rw [Array.getD_eq_getD_getElem?, h1, h2]
  rfl
theorem waitsL_ok (m : Nat) (done : List Nat) : ∀ es : List Edge, waitsL m done es = es.all fun e => !Region.binds .any e || (listedOf m done).getD e.on false
 | [] => rfl
 | e :: es => by
  simp only [waitsL, List.all_cons]
  rw [listedOf_inN]
  cases (!Region.binds .any e || inN m done e.on) <;> simp [waitsL_ok m done es]
theorem readyL_ok (ops : Array Oper) (done : List Nat) : Region.ready .any ops (listedOf ops.size done) = readyL ops.size done ops.toList 0 := by
 have key : ∀ (l : List Oper) (k : Nat), (∀ j, l[j]? = ops[k + j]?) → k + l.length = ops.size →
   (List.range' k l.length).filter (fun i => !(listedOf ops.size done).getD i true && ((ops[i]?).map (·.after.all fun e => !Region.binds .any e || (listedOf ops.size done).getD e.on false)).getD false) = readyL ops.size done l k := by
  intro l
  induction l with
  | nil => intro k _ _; rfl
  | cons o l ih =>
   intro k hl hlen
   have h0 : ops[k]? = some o := by simpa using (hl 0).symm
   have hk : k < ops.size := by simp at hlen; omega
   have ih' := ih (k + 1) (fun j => by have := hl (j + 1); simpa [Nat.add_assoc, Nat.add_comm 1 j] using this) (by simp at hlen ⊢; omega)
   simp only [List.length_cons, List.range'_succ, List.filter_cons, h0, Option.map_some, Option.getD_some, ih', readyL]
   rw [listedOf_getD ops.size true done k hk, waitsL_ok]
   have e1 : (o.after.all fun e => !Region.binds .any e || (listedOf ops.size done).getD e.on false) = (o.after.toList.all fun e => !Region.binds .any e || (listedOf ops.size done).getD e.on false) := by
    rw [Array.all_toList]
   rw [e1]
   cases memN done k <;> cases (o.after.toList.all fun e => !Region.binds .any e || (listedOf ops.size done).getD e.on false) <;> simp
 have := key ops.toList 0 (by simp) (by simp)
 rw [← this]
 unfold Region.ready
 rw [List.range_eq_range']
 simp
theorem beq_nat (a b : Nat) : (a == b) = Nat.beq a b := by rw [Bool.eq_iff_iff]; simp
theorem freeL_ok (ops : Array Oper) (done : List Nat) {i : Nat} {oi : Oper} (hi : ops[i]? = some oi) (h : freeL ops oi done i ops.toList 0 = true) : Region.free .any ops (listedOf ops.size done) i = true := by
 unfold Region.free
 simp only [hi]
 rw [List.all_eq_true]
 intro j hj
 rw [List.mem_range] at hj
 have key : ∀ (l : List Oper) (k : Nat), (∀ j, l[j]? = ops[k + j]?) → freeL ops oi done i l k = true → ∀ j oj, l[j]? = some oj →
   (k + j == i || memN done (k + j) || (oj.after.toList.any (fun e => Region.binds .any e && Nat.beq e.on i) || oi.apart ops oj)) = true := by
  intro l
  induction l with
  | nil => intro k _ _ j oj hj; simp at hj
  | cons o l ih =>
   intro k hl hf j oj hj
   simp only [freeL] at hf
   have hrest : freeL ops oi done i l (k + 1) = true := by
    cases hc : (Nat.beq k i || memN done k) with
    | true => simp only [hc] at hf; exact hf
    | false =>
     simp only [hc] at hf
     cases hc2 : (o.after.toList.any (fun e => Region.binds .any e && Nat.beq e.on i) || oi.apart ops o) with
     | true => simp only [hc2] at hf; exact hf
     | false => simp only [hc2] at hf; cases hf
   cases j with
   | zero =>
    simp only [List.getElem?_cons_zero, Option.some.injEq] at hj
    subst hj
    cases hc : (Nat.beq k i || memN done k) with
    | true =>
     have : (k == i || memN done k) = true := by rw [beq_nat]; exact hc
     rw [Nat.add_zero, this]; rfl
    | false =>
     simp only [hc] at hf
     cases hc2 : (o.after.toList.any (fun e => Region.binds .any e && Nat.beq e.on i) || oi.apart ops o) with
     | true => rw [Bool.or_true]
     | false => simp only [hc2] at hf; cases hf
   | succ j =>
    have := ih (k + 1) (fun j => by have := hl (j + 1); simpa [Nat.add_assoc, Nat.add_comm 1 j] using this) hrest j oj (by simpa using hj)
    rwa [show k + 1 + j = k + (j + 1) by omega] at this
 have hk := key ops.toList 0 (by simp) h j ops[j] (by simp [hj])
 rw [Nat.zero_add] at hk
 rw [listedOf_getD ops.size true done j hj]
 simp only [Array.getElem?_eq_getElem hj]
 have e1 : (ops[j].after.any fun e => Region.binds .any e && e.on == i) = (ops[j].after.toList.any fun e => Region.binds .any e && Nat.beq e.on i) := by
  rw [Array.any_toList]
  simp only [beq_nat]
 rw [e1]
 exact hk
theorem stillF_mem {ops : List Oper} {o : Oper} : ∀ {fs : List OF} {p : OF}, p ∈ fs → dep2 ops o p.1 = false → p ∈ stillF ops o fs
 | (i, f) :: fs, p, hp, hd => by
  simp only [stillF]
  rcases List.mem_cons.1 hp with rfl | hp
  ·simp only [hd]; exact List.mem_cons_self
  ·cases dep2 ops o i with
   | true => exact stillF_mem hp hd
   | false => exact List.mem_cons_of_mem _ (stillF_mem hp hd)
theorem factsOf_mem {f : Fact} {i : Nat} : ∀ {fs : List OF}, (i, f) ∈ fs → f ∈ factsOf fs
 | (j, g) :: fs, h => by
  rcases List.mem_cons.1 h with h | h
  ·cases h; exact List.mem_cons_self
  ·exact List.mem_cons_of_mem _ (factsOf_mem h)
theorem own_mem {i : Nat} {p : OF} : ∀ {fs' : List Fact} {fs : List OF}, p ∈ own i fs' fs ↔ (p.1 = i ∧ p.2 ∈ fs') ∨ p ∈ fs
 | [], fs => by simp [own]
 | f :: fs', fs => by
  simp only [own, List.mem_cons, own_mem (fs' := fs')]
  constructor
  ·rintro (rfl | ⟨h1, h2⟩ | h)
   ·exact .inl ⟨rfl, .inl rfl⟩
   ·exact .inl ⟨h1, .inr h2⟩
   ·exact .inr h
  ·rintro (⟨h1, rfl | h2⟩ | h)
   ·exact .inl (Prod.ext h1 rfl)
   ·exact .inr (.inl ⟨h1, h2⟩)
   ·exact .inr (.inr h)
theorem oneEff_ok {ops : Array Oper} {o : Oper} {env : Env} {fs : List OF} {next : Env → List OF → G} {n : Nat} {bk : List Nat} {R : Ending → World → Prop} {w : World} {a : Act}
  (h : oneEff P (GA P) n bk ops.toList o env fs next R w) (ha : EnvOk D env n a) {K : Act → World → Prop} {Q : Exit → Act → World → Prop} (hP : PA R Q a)
  (hK : ∀ a' w', (∃ env', EnvOk D env' n a' ∧ Kept bk a a' ∧ (∀ p ∈ fs, dep2 ops.toList o p.1 = false → Held w' p.2) ∧ next env' fs R w') → K a' w') : o.wp P a w K Q := by
 unfold oneEff at h
 refine denOp_ok h ha hP fun a' w' hg => ?_
 obtain ⟨env', h1, h2, h3⟩ := hg
 apply hK
 refine ⟨env', h1, h2, ?_⟩
 cases hs : stillF ops.toList o fs with
 | nil =>
  rw [hs] at h3
  refine ⟨fun p hp hd => ?_, h3⟩
  have := stillF_mem hp hd
  rw [hs] at this
  cases this
 | cons f r =>
  rw [hs] at h3
  refine ⟨fun p hp hd => h3.1 _ ?_, h3.2⟩
  have := stillF_mem hp hd
  rw [hs] at this
  exact factsOf_mem (i := p.1) this
theorem movable_gd {ops : List Oper} {env : Env} {o : Oper} (h : movable P ops env o = true) : isVal P o = true ∨ gd ops env o = .skip := by
 unfold movable at h
 cases hg : gd ops env o <;> simp only [hg] at h <;> first | exact .inl h | exact .inr rfl | cases h
theorem bothL_ok : ∀ {l : List G} {R : Ending → World → Prop} {w : World}, bothL (GA P) l R w → ∀ x ∈ l, x R w
 | [], _, _, h => h.elim
 | [x], R, w, h => by
  intro y hy
  rw [List.mem_singleton.1 hy]
  exact h
 | x :: y :: l, R, w, h => by
  intro z hz
  rcases List.mem_cons.1 hz with rfl | hz
  ·exact h.1
  ·exact bothL_ok h.2 z hz
theorem closed_nil {ops : Array Oper} : Closed ops (listedOf ops.size []) := by
 intro j o ho hj
 have hlt : j < ops.size := (Array.getElem?_eq_some_iff.1 ho).1
 rw [listedOf_getD _ _ _ _ hlt] at hj
 cases hj
theorem denDraw_ok {ops : Array Oper} {n : Nat} {bk : List Nat} {k : Env → G} {R : Ending → World → Prop} {Q : Exit → Act → World → Prop} (a0 : Act) (hs : Region.noSelect ops = true)
  (hP : PQ bk D a0 R Q) (hQ : ∀ a' w', Goes D n bk a0 k R a' w' → Q .normal a' w') (hp : ∀ c a dst v w, (∀ d, dst = some d → memN bk d = false) → Q (.panic c) (a.put dst v) w → Q (.panic c) a w) : ∀ (fuel : Nat) (done : List Nat) (fs : List OF) (env : Env) (a : Act) (w : World),
   EnvOk D env n a → Kept bk a0 a → Closed ops (listedOf ops.size done) → denDraw P (GA P) n bk ops fuel done fs env k R w → wpAnyO P ops Q (ObOf ops fs) fuel (listedOf ops.size done) a w
 | 0, done, fs, env, a, w, ha, hkp, hcl, h => by
  simp only [denDraw] at h
  cases hr : readyL ops.size done ops.toList 0 with
  | nil => simp only [hr] at h; exact ⟨by rw [readyL_ok, hr], hQ a w ⟨env, ha, hkp, h⟩⟩
  | cons i r => simp only [hr] at h; exact h.elim
 | fuel + 1, done, fs, env, a, w, ha, hkp, hcl, h => by
  simp only [denDraw] at h
  rw [forceL_eq] at h
  have ih := fun done' fs' env' a' w' h1 h2 h3 h4 => denDraw_ok (k := k) (R := R) (Q := Q) a0 hs hP hQ hp fuel done' fs' env' a' w' h1 h2 h3 h4
  have hrd := readyL_ok ops done
  cases hr : readyL ops.size done ops.toList 0 with
  | nil =>
   simp only [hr] at h
   rw [hr] at hrd
   exact ⟨fun _ => hQ a w ⟨env, ha, hkp, h⟩, by rw [hrd]; simp⟩
  | cons r0 rest =>
   simp only [hr] at h
   rw [hr] at hrd
   have hset : ∀ i, (listedOf ops.size done).setIfInBounds i true = listedOf ops.size (i :: done) := fun _ => rfl
   cases hfind : (r0 :: rest).find? (pickable P ops done env) with
   | some i =>
    simp only [hfind] at h
    have hmem := List.mem_of_find?_eq_some hfind
    have hcond := List.find?_some hfind
    unfold pickable at hcond
    cases ho : ops[i]? with
    | none => simp only [ho] at h; exact h.elim
    | some o =>
     simp only [ho] at h hcond
     simp only [Bool.and_eq_true] at hcond
     have hready : i ∈ Region.ready .any ops (listedOf ops.size done) := by rw [hrd]; exact hmem
     have hfree := freeL_ok ops done ho hcond.2
     have hcl' : Closed ops (listedOf ops.size (i :: done)) := by rw [← hset]; exact hcl.set hready
     -- taken first, with a value
     have take : (∀ d, o.dst = some d → memN bk d = false) → ∀ (e : EV) (fs' : List Fact), (∀ f ∈ fs', Held w f) → YieldsIf P ops (fun w => ∀ f ∈ fs', Held w f) o e.val a →
       (∃ env', EnvOk D env' n (a.put o.dst e.val) ∧ Kept bk a (a.put o.dst e.val) ∧ denDraw P (GA P) n bk ops fuel (i :: done) (own i fs' fs) env' k R w) →
       wpAnyO P ops Q (ObOf ops fs) (fuel + 1) (listedOf ops.size done) a w := by
      intro hput e fs' hf' hy hn
      obtain ⟨env', h1, h2, h3⟩ := hn
      refine wpAnyO_mono (Ob' := ObOf ops (own i fs' fs)) (fun j w w' h => h.imp id fun h o ho p hp hd => h o ho p (own_mem.2 (.inr hp)) hd) _ _ _ _ ?_
      refine wpAnyO_first (S := fun w => ∀ f ∈ fs', Held w f) ho (Region.noSelect_spec hs) (fun c a w hq => hp _ _ _ _ _ hput hq) (fun w => .inl rfl) fuel _ a w hcl
       (Region.free_spec ho hfree) ?_ hready hy hf' ?_
      ·intro j oj hj hji _ hd w w' hob hS
       rcases hob with rfl | hob
       ·exact hS
       ·exact fun f hf => hob oj hj (i, f) (own_mem.2 (.inl ⟨rfl, hf⟩)) hd
      ·rw [hset]
       exact ih _ _ _ _ _ h1 (hkp.trans h2) hcl' h3
     have skip : ∀ env, EnvOk D env n a → Region.wanted o (yielded ops a.tmps) = false →
       (oneSkip (GA P) n bk o env fs fun env' fs' => denDraw P (GA P) n bk ops fuel (i :: done) fs' env' k : G) R w →
       wpAnyO P ops Q (ObOf ops fs) (fuel + 1) (listedOf ops.size done) a w := by
      intro env ha hw hh
      obtain ⟨env', h1, h2, h3⟩ := putE_ok hh ha
      exact take (putE_free hh) (.v undef) [] (fun f hm => absurd hm (by simp)) (.inr ⟨hw, rfl⟩) ⟨env', h1, h2, h3⟩
     have run : ∀ env, EnvOk D env n a → isVal P o = true → Region.wanted o (yielded ops a.tmps) = true →
       (oneVal P (GA P) n bk i o env fs fun env' fs' => denDraw P (GA P) n bk ops fuel (i :: done) fs' env' k : G) R w →
       wpAnyO P ops Q (ObOf ops fs) (fuel + 1) (listedOf ops.size done) a w := by
      intro env ha hv hw hh
      obtain ⟨hall, e, fs', hk, hf', hg⟩ := denVal_ok hh
      refine take (putE_free hk) e fs' hf' (.inl ⟨hw, fun w' hw' => ?_⟩) (putE_ok hk ha)
      rw [ha.exec hall (noSel P hv)]
      exact hg w' hw'
     have hg := gd_ok (ops := ops.toList) (o := o) ha
     rw [Array.toArray_toList] at hg
     have hmv := movable_gd hcond.1
     simp only [one] at h
     cases hgd : gd ops.toList env o with
     | bad => simp only [hgd] at h; exact h.elim
     | skip => simp only [hgd] at h hg; exact skip env ha hg h
     | run => 
      simp only [hgd] at h hg hmv
      exact run env ha (hmv.resolve_right (by simp)) hg h
     | split d b want =>
      simp only [hgd] at h hg hmv
      have hv := hmv.resolve_right (by simp)
      obtain ⟨h1, h2⟩ := iteG_and h
      have hd := ha.decide hg.1
      cases b
      ·have h2 := h2 rfl
       cases want
       ·exact run _ hd hv hg.2 h2
       ·exact skip _ hd hg.2 h2
      ·have h1 := h1 rfl
       cases want
       ·exact skip _ hd hg.2 h1
       ·exact run _ hd hv hg.2 h1
   | none =>
    simp only [hfind] at h
    have hall := bothL_ok h
    refine ⟨fun h0 => absurd (hrd ▸ h0) (by simp), fun i hi => ?_⟩
    have hcl' : Closed ops (listedOf ops.size (i :: done)) := by rw [← hset]; exact hcl.set hi
    rw [hrd] at hi
    have h := hall _ (List.mem_map_of_mem hi)
    cases ho : ops[i]? with
    | none => simp only [ho] at h; exact h.elim
    | some o =>
     simp only [ho] at h
     unfold wpOp
     simp only [ho]
     have run : ∀ env, EnvOk D env n a → Region.wanted o (yielded ops a.tmps) = true →
       (oneEff P (GA P) n bk ops.toList o env fs fun env' fs' => denDraw P (GA P) n bk ops fuel (i :: done) fs' env' k : G) R w →
       if Region.wanted o (yielded ops a.tmps) = true then o.wp P a w (fun a' w' => ObOf ops fs i w w' ∧ wpAnyO P ops Q (ObOf ops fs) fuel ((listedOf ops.size done).setIfInBounds i true) a' w') Q ∨ (o.asks P a w ∧ LetsOut Q)
       else ObOf ops fs i w w ∧ wpAnyO P ops Q (ObOf ops fs) fuel ((listedOf ops.size done).setIfInBounds i true) (a.put o.dst undef) w := by
      intro env ha hw hh
      rw [if_pos hw]
      refine .inl (oneEff_ok hh ha (fun c w => hP c a w ha.defers hkp) ?_)
      rintro a' w' ⟨env', h1, h2, h3, h4⟩
      refine ⟨.inr fun o' ho' p hp hd => ?_, ?_⟩
      ·rw [ho] at ho'
       cases ho'
       exact h3 p hp hd
      ·rw [hset]
       exact ih _ _ _ _ _ h1 (hkp.trans h2) hcl' h4
     have skip : ∀ env, EnvOk D env n a → Region.wanted o (yielded ops a.tmps) = false →
       (oneSkip (GA P) n bk o env fs fun env' fs' => denDraw P (GA P) n bk ops fuel (i :: done) fs' env' k : G) R w →
       if Region.wanted o (yielded ops a.tmps) = true then o.wp P a w (fun a' w' => ObOf ops fs i w w' ∧ wpAnyO P ops Q (ObOf ops fs) fuel ((listedOf ops.size done).setIfInBounds i true) a' w') Q ∨ (o.asks P a w ∧ LetsOut Q)
       else ObOf ops fs i w w ∧ wpAnyO P ops Q (ObOf ops fs) fuel ((listedOf ops.size done).setIfInBounds i true) (a.put o.dst undef) w := by
      intro env ha hw hh
      rw [if_neg (by rw [hw]; simp)]
      obtain ⟨env', h1, h2, h3⟩ := putE_ok hh ha
      exact ⟨.inl rfl, by rw [hset]; exact ih _ _ _ _ _ h1 (hkp.trans h2) hcl' h3⟩
     have hg := gd_ok (ops := ops.toList) (o := o) ha
     rw [Array.toArray_toList] at hg
     simp only [one] at h
     cases hgd : gd ops.toList env o with
     | bad => simp only [hgd] at h; exact h.elim
     | skip => simp only [hgd] at h hg; exact skip env ha hg h
     | run => simp only [hgd] at h hg; exact run env ha hg h
     | split d b want =>
      simp only [hgd] at h hg
      obtain ⟨h1, h2⟩ := iteG_and h
      have hd := ha.decide hg.1
      cases b
      ·have h2 := h2 rfl
       cases want
       ·exact run _ hd hg.2 h2
       ·exact skip _ hd hg.2 h2
      ·have h1 := h1 rfl
       cases want
       ·exact skip _ hd hg.2 h1
       ·exact run _ hd hg.2 h1
theorem denRegion_ok {id : Nat} {ops : Array Oper} {draw : Bool} {env : Env} {n : Nat} {bk : List Nat} {k : Env → G} {R : Ending → World → Prop} {w : World} {a : Act} {Q : Exit → Act → World → Prop}
  (hm : P.follows .mixedOrders = true) (h : denRegion P (GA P) n bk ops draw env k R w) (ha : EnvOk D env n a) (hP : PQ bk D a R Q) (hQ : ∀ a' w', Goes D n bk a k R a' w' → Q .normal a' w')
  (hp : ∀ c a dst v w, (∀ d, dst = some d → memN bk d = false) → Q (.panic c) (a.put dst v) w → Q (.panic c) a w) : (Code.region id ops draw).wp P Q a w := by
 unfold denRegion at h
 cases draw with
 | false =>
  dsimp only at h
  have := denOps_ok (P := P) (ops := ops.toList) a hP hQ ops.toList env a w ha (Kept.refl _ _) h
  rw [Array.toArray_toList] at this
  exact wp_region_list this
 | true =>
  dsimp only at h
  cases hs : Region.noSelect ops with
  | false => simp only [hs] at h; exact h.elim
  | true =>
   simp only [hs] at h
   exact wp_region_any hm (wpAnyO_any _ _ _ _ (by have := denDraw_ok a hs hP hQ hp _ [] [] env a w.drew ha (Kept.refl _ _) closed_nil h; exact this))
def QK (D : List Deferred) (n : Nat) (bk : List Nat) (a : Act) (k : Ex → Env → G) (R : Ending → World → Prop) : Exit → Act → World → Prop
 | .normal, a', w' => Goes D n bk a (k .normal) R a' w'
 | .exit id, a', w' => Goes D n bk a (k (.exit id)) R a' w'
 | .ret, a', w' => Goes D n bk a (k .ret) R a' w'
 | .panic c, a', w' => a'.defers = D ∧ Kept bk a a' ∧ R (.panicked c) w'
 | _, _, _ => False
theorem memN_append {l r : List Nat} {t : Nat} : memN (l ++ r) t = (memN l t || memN r t) := by
 induction l with
 | nil => simp [memN]
 | cons x l ih =>
  simp only [List.cons_append, memN]
  cases Nat.beq x t <;> simp [ih]
theorem Kept.left {l r : List Nat} {a b : Act} (h : Kept (l ++ r) a b) : Kept l a b := fun t ht => h t (by rw [memN_append, ht]; rfl)
theorem Kept.right {l r : List Nat} {a b : Act} (h : Kept (l ++ r) a b) : Kept r a b := fun t ht => h t (by rw [memN_append, ht, Bool.or_true])
theorem Goes.weaken {n : Nat} {bk bk' : List Nat} {a a1 : Act} {k : Env → G} {R : Ending → World → Prop} {a' : Act} {w' : World} (hkp : Kept bk a a1) (hb : ∀ b, Kept bk' a1 b → Kept bk a1 b) (h : Goes D n bk' a1 k R a' w') : Goes D n bk a k R a' w' := by
 obtain ⟨env', h1, h2, h3⟩ := h
 exact ⟨env', h1, hkp.trans (hb _ h2), h3⟩
theorem QK.weaken {n : Nat} {bk bk' : List Nat} {a a1 : Act} {k : Ex → Env → G} {R : Ending → World → Prop} {e : Exit} {a' : Act} {w' : World} (hkp : Kept bk a a1) (hb : ∀ b, Kept bk' a1 b → Kept bk a1 b) (h : QK D n bk' a1 k R e a' w') : QK D n bk a k R e a' w' := by
 cases e <;> first | exact Goes.weaken hkp hb h | exact ⟨h.1, hkp.trans (hb _ h.2.1), h.2.2⟩ | exact h.elim
theorem rem_get {ds : List Nat} : ∀ {env : Env} {t : Nat} {e : EV}, (env.rem ds).get t = some e → env.get t = some e ∧ memN (env.rem ds).keys t = true
 | [], _, _, h => by cases h
 | (i, x) :: env, t, e, h => by
  simp only [Env.rem] at h ⊢
  cases hm : memN ds i with
  | true =>
   simp only [hm] at h ⊢
   obtain ⟨h1, h2⟩ := rem_get h
   refine ⟨?_, h2⟩
   simp only [Env.get]
   cases hb : Nat.beq i t with
   | false => exact h1
   | true =>
    exfalso
    obtain rfl := Nat.eq_of_beq_eq_true hb
    have hno : ∀ env : Env, (env.rem ds).get i = none := by
     intro env
     induction env with
     | nil => rfl
     | cons p env ih =>
      obtain ⟨j, y⟩ := p
      simp only [Env.rem]
      cases hj : memN ds j with
      | true => exact ih
      | false =>
       simp only [Env.get]
       cases hb2 : Nat.beq j i with
       | false => exact ih
       | true => obtain rfl := Nat.eq_of_beq_eq_true hb2; rw [hm] at hj; cases hj
    rw [hno] at h
    cases h
  | false =>
   simp only [hm, Env.get] at h ⊢
   cases hb : Nat.beq i t with
   | true => simp only [hb] at h; exact ⟨h, by simp [Env.keys, memN, hb]⟩
   | false =>
    simp only [hb] at h
    obtain ⟨h1, h2⟩ := rem_get h
    exact ⟨h1, by simp [Env.keys, memN, hb, h2]⟩
theorem EnvOk.rem {env : Env} {n : Nat} {a a' : Act} {ds bk : List Nat} (h : EnvOk D env n a) (hs : a'.tmps.size = n) (hd : a'.defers = D) (hk : Kept (bk ++ (env.rem ds).keys) a a') : EnvOk D (env.rem ds) n a' :=
 ⟨hs, hd, fun t e he => by
  obtain ⟨h1, h2⟩ := rem_get he
  rw [hk.right t h2]
  exact h.get t e h1⟩
theorem EnvOk.slots {n : Nat} {a : Act} {base : Env} (hb : EnvOk D base n a) {env : Env} (h : EnvOk D env n a) : ∀ {s : Slots} {xs : HV s.vs}, getSlots s env = some xs → EnvOk D (putSlots s xs base) n a
 | [], _, _ => hb
 | (t, v) :: s, xs, hx => by
  simp only [getSlots] at hx
  cases he : env.get t with
  | none => simp only [he] at hx; cases hx
  | some e =>
   simp only [he] at hx
   cases hv : v.get e.val with
   | none => simp only [hv] at hx; cases hx
   | some x =>
    simp only [hv] at hx
    cases hr : getSlots s env with
    | none => simp only [hr] at hx; cases hx
    | some ys =>
     simp only [hr] at hx
     obtain rfl := Option.some.inj hx
     have ih := EnvOk.slots hb h hr
     refine ⟨ih.size, ih.defers, fun t' e' he' => ?_⟩
     simp only [putSlots, Env.get] at he'
     cases hb' : Nat.beq t t' with
     | true =>
      simp only [hb', Option.some.injEq] at he'
      obtain rfl := Nat.eq_of_beq_eq_true hb'
      subst he'
      rw [mkEV_val, VT.get_val hv]
      exact h.get _ _ he
     | false => simp only [hb'] at he'; exact ih.get _ _ he'
theorem join_end {s : Slots} {ds bk : List Nat} {env : Env} {n : Nat} {a a' : Act} (ha : EnvOk D env n a) {k : Env → G} {R : Ending → World → Prop} {w' : World}
  (h : Goes D n (bk ++ (env.rem ds).keys) a (fun env' => match getSlots s env' with
   | some xs => uncV (curV fun xs => forceE (putSlots s xs (env.rem ds)) k) xs
   | none => (GA P).fail "join") R a' w') : Goes D n bk a k R a' w' := by
 obtain ⟨env', h1, h2, h3⟩ := h
 cases hs : getSlots s env' with
 | none => simp only [hs] at h3; exact h3.elim
 | some xs =>
  simp only [hs] at h3
  have h3 := unV h3
  rw [forceE_eq] at h3
  exact ⟨_, EnvOk.slots (ha.rem h1.size h1.defers h2) h1 hs, h2.left, h3⟩
theorem noPanic {n : Nat} {bk : List Nat} {a : Act} {k : Ex → Env → G} {R : Ending → World → Prop} : ∀ c a' dst v w', (∀ d, dst = some d → memN bk d = false) → QK D n bk a k R (.panic c) (a'.put dst v) w' → QK D n bk a k R (.panic c) a' w' := fun _ a' dst _ _ hd h => ⟨by have := h.1; cases dst <;> exact this, h.2.1.unput hd, h.2.2⟩
theorem pqK {n : Nat} {bk : List Nat} {a : Act} {k : Ex → Env → G} {R : Ending → World → Prop} : PQ bk D a R (QK D n bk a k R) := fun _ _ _ h1 h2 h3 => ⟨h1, h2, h3⟩
theorem keptL {bk l : List Nat} {a b : Act} : Kept (bk ++ l) a b → Kept bk a b := Kept.left
theorem den_ok (hm : P.follows .mixedOrders = true) {n : Nat} {R : Ending → World → Prop} : ∀ (c : Code) (h : H) (bk : List Nat) (env : Env) (k : Ex → Env → G) (a : Act) (w : World),
  den P (GA P) n c h bk env k R w → EnvOk D env n a → c.wp P (QK D n bk a k R) a w := by
 intro c
 induction c with
 | skip => intro h bk env k a w hh ha; exact wp_skip ⟨env, ha, Kept.refl _ _, by cases h <;> exact hh⟩
 | region id ops d =>
  intro h bk env k a w hh ha
  have plain : (denRegion P (GA P) n bk ops d env (k .normal) : G) R w → (Code.region id ops d).wp P (QK D n bk a k R) a w := fun hh =>
   denRegion_ok hm hh ha pqK (fun _ _ hg => hg) noPanic
  cases h with
  | r s =>
   simp only [den, denJoin] at hh
   simp only [forceL_eq, forceE_eq] at hh
   exact wp_mono (denRegion_ok (Q := fun e a' w' => match e with | .normal => Goes D n bk a (k .normal) R a' w' | .panic c => a'.defers = D ∧ Kept (bk ++ (env.rem (ops.toList.filterMap (·.dst))).keys) a a' ∧ R (.panicked c) w' | _ => False) hm hh ha (fun _ _ _ h1 h2 h3 => ⟨h1, h2, h3⟩) (fun _ _ hg => join_end ha hg) (fun _ a' dst _ _ hd h => ⟨by have := h.1; cases dst <;> exact this, h.2.1.unput hd, h.2.2⟩))
    (fun e a' w' q => by cases e <;> first | exact q | exact ⟨q.1, q.2.1.left, q.2.2⟩ | exact q.elim)
  | _ => exact plain hh
 | seq x y ihx ihy =>
  intro h bk env k a w hh ha
  have go : ∀ ha' hb', (den P (GA P) n x ha' bk env (fun e env' => match e with
    | .normal => den P (GA P) n y hb' bk env' k
    | e => k e env') : G) R w → (Code.seq x y).wp P (QK D n bk a k R) a w := by
   intro ha' hb' hh
   refine wp_seq (wp_mono (ihx ha' bk env _ a w hh ha) fun e a' w' q => ?_)
   cases e with
   | normal =>
    obtain ⟨env', h1, h2, h3⟩ := q
    exact wp_mono (ihy hb' bk env' k a' w' h3 h1) fun e a'' w'' q => QK.weaken h2 (fun _ h => h) q
   | _ => exact q
  cases h with
  | leaf => exact go _ _ hh
  | seq ha' hb' => exact go _ _ hh
  | _ => exact hh.elim
 | cond c x y ihx ihy =>
  intro h bk env k a w hh ha
  have go : ∀ (hx hy : H) (bk' : List Nat) (kk : Ex → Env → G) (Q : Exit → Act → World → Prop), (∀ e a' w', QK D n bk' a kk R e a' w' → Q e a' w') →
    (match env.ev c with
     | some (.kb true) => den P (GA P) n x hx bk' env kk
     | some (.kb false) => den P (GA P) n y hy bk' env kk
     | some (.v (.bool b)) => (GA P).ite b (den P (GA P) n x hx bk' env kk) (den P (GA P) n y hy bk' env kk)
     | _ => (GA P).fail "cond" : G) R w → (Code.cond c x y).wp P Q a w := by
   intro hx hy bk' kk Q hQ hh
   have yes : a.eval c = .bool true → (den P (GA P) n x hx bk' env kk : G) R w → (Code.cond c x y).wp P Q a w := fun he hd => wp_cond_true he (wp_mono (ihx hx bk' env kk a w hd ha) hQ)
   have no : a.eval c = .bool false → (den P (GA P) n y hy bk' env kk : G) R w → (Code.cond c x y).wp P Q a w := fun he hd => wp_cond_false he (wp_mono (ihy hy bk' env kk a w hd ha) hQ)
   cases hc : env.ev c with
   | none => simp only [hc] at hh; exact hh.elim
   | some e =>
    have hev := ha.ev hc
    simp only [hc] at hh
    cases e with
    | opq v => exact hh.elim
    | kb b => cases b; exact no hev hh; exact yes hev hh
    | v u =>
     cases u <;> first | exact hh.elim | skip
     rename_i b
     cases b
     ·exact no hev hh
     ·exact yes hev hh
  cases h with
  | leaf => exact go _ _ _ _ _ (fun _ _ _ q => q) hh
  | cond hx hy => exact go _ _ _ _ _ (fun _ _ _ q => q) hh
  | condj s hx hy =>
   simp only [den, denJoin] at hh
   simp only [forceL_eq, forceE_eq] at hh
   refine go hx hy _ _ _ (fun e a' w' q => ?_) hh
   cases e with
   | normal => exact join_end ha q
   | exit id => exact Goes.weaken (Kept.refl _ _) (fun _ => keptL) q
   | ret => exact Goes.weaken (Kept.refl _ _) (fun _ => keptL) q
   | panic c => exact ⟨q.1, keptL q.2.1, q.2.2⟩
   | _ => exact q.elim
  | _ => exact hh.elim
 | block id b ih =>
  intro h bk env k a w hh ha
  cases h with
  | block s hb =>
   simp only [den, denJoin] at hh
   simp only [forceL_eq, forceE_eq] at hh
   refine wp_block (wp_mono (ih hb _ env _ a w hh ha) fun e a' w' q => ?_)
   cases e with
   | normal => exact join_end ha q
   | exit i =>
    simp only [Exit.inBlock]
    obtain ⟨env', h1, h2, h3⟩ := q
    cases hb' : Nat.beq i id with
    | true =>
     simp only [hb'] at h3
     rw [if_pos (Nat.eq_of_beq_eq_true hb')]
     exact join_end ha ⟨env', h1, h2, h3⟩
    | false =>
     simp only [hb'] at h3
     rw [if_neg (fun e => by subst e; rw [Nat.beq_refl] at hb'; cases hb')]
     exact ⟨env', h1, h2.left, h3⟩
   | ret => exact Goes.weaken (Kept.refl _ _) (fun _ => keptL) q
   | panic c => exact ⟨q.1, keptL q.2.1, q.2.2⟩
   | _ => exact q.elim
  | _ => exact hh.elim
 | loop b ih =>
  intro h bk env k a w hh ha
  cases h with
  | loop s hb =>
   simp only [den] at hh
   cases hs : getSlots s env with
   | none => simp only [hs] at hh; exact hh.elim
   | some xs0 =>
    simp only [hs] at hh
    simp only [forceL_eq, forceE_eq] at hh
    obtain ⟨m, hit⟩ := unV hh
    refine wp_loop_rounds m ?_
    have key : ∀ m (xs : HV s.vs) (a1 : Act) (w1 : World), Kept (bk ++ (env.rem (dsts b)).keys) a a1 → EnvOk D (putSlots s xs (env.rem (dsts b))) n a1 →
      uncV (iterG s.vs (fun rec => curV fun xs => den P (GA P) n b hb (bk ++ (env.rem (dsts b)).keys) (putSlots s xs (env.rem (dsts b))) fun e env' => match e with
       | .normal => match getSlots s env' with
        | some ys => uncV rec ys
        | none => (GA P).fail "loop"
       | e => k e env') m) xs R w1 → Code.rounds P b (QK D n bk a k R) m a1 w1 := by
     intro m
     induction m with
     | zero => intro xs a1 w1 _ _ h0; exact (unV h0).elim
     | succ m ihm =>
      intro xs a1 w1 hk1 he1 h1
      have h1 := unV h1
      refine wp_mono (ih hb _ _ _ a1 w1 h1 he1) fun e a' w' q => ?_
      cases e with
      | normal =>
       obtain ⟨env', g1, g2, g3⟩ := q
       cases hs' : getSlots s env' with
       | none => simp only [hs'] at g3; exact g3.elim
       | some ys =>
        simp only [hs'] at g3
        exact ihm ys a' w' (hk1.trans g2) (EnvOk.slots (ha.rem g1.size g1.defers (hk1.trans g2)) g1 hs') g3
      | exit i => exact Goes.weaken hk1.left (fun _ => keptL) q
      | ret => exact Goes.weaken hk1.left (fun _ => keptL) q
      | panic c => exact ⟨q.1, hk1.left.trans (keptL q.2.1), q.2.2⟩
      | _ => exact q.elim
    exact key m xs0 a w (Kept.refl _ _) (EnvOk.slots (ha.rem (bk := bk) ha.size ha.defers (Kept.refl _ _)) ha hs) hit
  | _ => exact hh.elim
 | scope b ih =>
  intro h bk env k a w hh ha
  have hd : (den P (GA P) n b h bk env k : G) R w := by cases h <;> exact hh
  refine wp_scope_straight (wp_mono (ih h bk env k a w hd ha) fun e a' w' q => ?_)
  cases e <;> exact q
 | label l => intro h bk env k a w hh ha; exact wp_label ⟨env, ha, Kept.refl _ _, by cases h <;> exact hh⟩
 | exit id => intro h bk env k a w hh ha; exact wp_exit ⟨env, ha, Kept.refl _ _, by cases h <;> exact hh⟩
 | ret => intro h bk env k a w hh ha; exact wp_ret ⟨env, ha, Kept.refl _ _, by cases h <;> exact hh⟩
 | _ => intro h bk env k a w hh ha; cases h <;> exact hh.elim
def resV (tmps : Array Value) : ResultVar → Sem Value
 | .tmp t => pure (tmps.getD t undef)
 | .cell a t => do loadVar t (← asAddr (tmps.getD a undef))
def packL : List Value → Value
 | [v] => v
 | l => .tuple l.toArray
theorem denRes_ok {n : Nat} {R : Ending → World → Prop} {w : World} {a : Act} : ∀ (rs : List ResultVar) (env : Env) (acc : List Value), EnvOk D env n a → denRes P (GA P) rs env acc R w →
  ∃ vs : List Value, (rs.mapM (resV a.tmps)).run P w = .ok vs w ∧ R (.returned (packL (acc.reverse ++ vs))) w
 | [], env, acc, ha, h => by
  refine ⟨[], rfl, ?_⟩
  rw [List.append_nil]
  match acc, h with
  | [], h => exact h
  | [v], h => exact h
  | u :: v :: l, h =>
   have : packL (u :: v :: l).reverse = .tuple (u :: v :: l).reverse.toArray := by
    unfold packL
    split
    ·rename_i heq
     have := congrArg List.length heq
     simp at this
    ·rfl
   rw [this]
   exact h
 | .tmp t :: rs, env, acc, ha, h => by
  simp only [denRes] at h
  cases he : env.get t with
  | none => simp only [he] at h; exact h.elim
  | some e =>
   simp only [he] at h
   obtain ⟨vs, h1, h2⟩ := denRes_ok rs env _ ha h
   refine ⟨e.val :: vs, ?_, by simpa using h2⟩
   rw [List.mapM_cons]
   simp only [Sem.run_bind, resV, Sem.run_pure, Result.andThen_ok, h1, ha.get t e he]
 | .cell p t :: rs, env, acc, ha, h => by
  simp only [denRes] at h
  cases he : env.has (.tmp p) with
  | false => simp only [he] at h; exact h.elim
  | true =>
   simp only [he] at h
   obtain ⟨_, e, fs, hk, hf, hl⟩ := denLoad_ok (o := { dst := none, op := .load t (.tmp p), type := 0, pos := "", after := #[], guard := none }) rfl h
   obtain ⟨vs, h1, h2⟩ := denRes_ok rs env _ ha hk
   refine ⟨e.val :: vs, ?_, by simpa using h2⟩
   have hp : ∃ ad, env.ρ (.tmp p) = .pointer (some ad) := by
    unfold denLoad at h
    cases hx : env.ρ (.tmp p) <;> simp only [hx] at h <;> first | exact h.elim | skip
    rename_i q
    cases q with
    | none => exact h.elim
    | some ad => exact ⟨ad, rfl⟩
   obtain ⟨ad, hp⟩ := hp
   have hev : a.tmps.getD p undef = .pointer (some ad) := (ha.ρ he).trans hp
   rw [List.mapM_cons]
   simp only [Sem.run_bind, resV, hev, asAddr, Sem.run_pure, Result.andThen_ok, hl ad hp w hf, h1]
theorem args0_ok : ∀ {ps : List VT} {xs : HV ps} {i : Nat} {t : Nat} {e : EV}, (args0 ps xs i).get t = some e → ∃ j, t = i + j ∧ (valsV ps xs)[j]? = some e.val
 | [], _, _, _, _, h => by cases h
 | v :: ps, (x, xs), i, t, e, h => by
  simp only [args0, Env.get] at h
  cases hb : Nat.beq i t with
  | true =>
   simp only [hb, Option.some.injEq] at h
   obtain rfl := Nat.eq_of_beq_eq_true hb
   subst h
   exact ⟨0, rfl, by simp [valsV, mkEV_val]⟩
  | false =>
   simp only [hb] at h
   obtain ⟨j, rfl, hj⟩ := args0_ok h
   exact ⟨j + 1, by omega, by simpa [valsV] using hj⟩
theorem length_valsV : ∀ (ps : List VT) (xs : HV ps), (valsV ps xs).length = ps.length
 | [], _ => rfl
 | _ :: ps, (_, xs) => by simp [valsV, length_valsV ps xs]
theorem results_eq (fn : Func) (tmps : Array Value) : results fn tmps = (fn.results.mapM (resV tmps) >>= fun vs => pure (if h : vs.size = 1 then vs[0] else .tuple vs)) := by
 unfold results
 refine congrArg (fun g : ResultVar → Sem Value => fn.results.mapM g >>= fun vs => pure (if h : vs.size = 1 then vs[0] else .tuple vs)) (?_ : _ = resV tmps)
 funext x
 cases x <;> rfl
theorem lift (hm : P.follows .mixedOrders = true) {f : FuncId} {fn : Func} (hf : P.funcs[f]? = some fn) {ps : List VT} {h : H} {T : CurV G ps} (hT : denF P (GA P) fn ps h = T)
  (hn : Nat.ble ps.length fn.ntmps = true) (xs : HV ps) (R : Ending → World → Prop) (w : World) (hR : uncV T xs R w) : Calls P f (valsV ps xs).toArray w R := by
 subst hT
 have hR := unV hR
 cases hb : fn.body with
 | none => simp only [hb] at hR; exact hR.elim
 | some c =>
  simp only [hb] at hR
  refine calls_of_wp hf hb (wp_mono (den_ok (D := []) hm c h [] _ _ _ w hR ?_) fun e a w' q => ?_)
  ·have hle : ps.length ≤ fn.ntmps := Nat.le_of_ble_eq_true hn
   refine ⟨by simp [length_valsV]; omega, rfl, fun t e he => ?_⟩
   obtain ⟨j, rfl, hj⟩ := args0_ok he
   simp only [Nat.zero_add, Array.getD_eq_getD_getElem?]
   have hlt : j < (valsV ps xs).length := (List.getElem?_eq_some_iff.1 hj).1
   rw [Array.getElem?_append_left (by simpa using hlt)]
   simp [hj]
  ·have fin : ∀ ex, (∀ id, ex ≠ Ex.exit id) → Goes [] fn.ntmps [] { tmps := (valsV ps xs).toArray ++ Array.replicate (fn.ntmps - (valsV ps xs).toArray.size) undef, defers := [] } (fun env => (match ex with
     | .exit _ => (GA P).fail "exit"
     | _ => denRes P (GA P) fn.results.toList env [] : G)) R a w' → a.defers = [] ∧ ∃ v, (results fn a.tmps).run P w' = .ok v w' ∧ R (.returned v) w' := by
    intro ex hex hg
    obtain ⟨env', h1, _, h3⟩ := hg
    refine ⟨h1.defers, ?_⟩
    have h3 : (denRes P (GA P) fn.results.toList env' [] : G) R w' := by cases ex <;> first | exact h3 | exact absurd rfl (hex _)
    obtain ⟨vs, h4, h5⟩ := denRes_ok _ _ _ h1 h3
    refine ⟨packL vs, ?_, by simpa using h5⟩
    rw [results_eq, Sem.run_bind, Array.mapM_eq_mapM_toList, Sem.run_map, h4]
    simp only [Result.andThen_ok, Sem.run_pure]
    congr 1
    match vs with
    | [] => rfl
    | [v] => rfl
    | _ :: _ :: _ => rfl
   cases e with
   | normal => exact fin .normal (by simp) q
   | ret => exact fin .ret (by simp) q
   | exit id => obtain ⟨_, _, _, h3⟩ := q; exact h3.elim
   | panic c => exact ⟨q.1, q.2.2⟩
   | _ => exact q.elim
end
end Go.Lift
end
