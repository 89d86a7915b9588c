/- Statements and calls of the small machine: definitions. -/
import Derived.Test.YtfddiediieblhaaAbsJ
set_option linter.unusedVariables false
set_option linter.unusedSimpArgs false
namespace Go.Abs

inductive Ex where
  | norm
  | exit (id : Nat)
  | ret
  | pan (v : AV)

inductive CRes where
  | ret (v : AV)
  | pan (v : AV)

inductive Md where
  | ret
  | pan (v : AV) (r : Bool)

/-- What is deferred: a call, or the calls of a loop's rounds (there are none). -/
inductive DI where
  | fn (f : FuncId) (args : List AV)
  | col (b : Nat)

structure St where
  tm : Tm
  h : AHeap
  df : List DI

abbrev CallF := FuncId → List AV → AHeap → Option (CRes × AHeap)

noncomputable def ev (tm : Tm) : Operand → Option AV
  | .tmp t => some (tm.get t)
  | .const v => ofV v
  | .global _ => none
  | .func f => some (.fn (.func f) [] [])

noncomputable def putT (tm : Tm) (dst : Option Tmp) (v : AV) : Tm :=
  match dst with
  | some d => tm.set d v
  | none => tm

/-- Whether an operation is carried out. -/
noncomputable def guardOf (ops : Array Oper) (o : Oper) (tm : Tm) : Option Bool :=
  match o.guard with
  | none => some true
  | some (j, want) => match (ops[j]?).bind (·.dst) with
    | none => none
    | some d => match tm.get d with
      | .bool b => some (b == want)
      | .tup [] => some false
      | _ => none

/-- What is deferred. -/
def dfr (ρ : Operand → Option AV) (c : Call) (P : Program) : Option DI :=
  match c.callee, mapM' ρ c.args.toList with
  | .value f, some args => match ρ f with
    | some (.fn (.func g) x y) => if fnOk P g then some (.fn g (x ++ args ++ y)) else none
    | _ => none
  | _, _ => none

/-- One operation, calls and all. -/
noncomputable def stepA (P : Program) (call : CallF) (o : Oper) (st : St) : Option (Ex × St) :=
  match o.op with
  | .defer c => match dfr (ev st.tm) c P with
    | some d => some (.norm, ⟨putT st.tm o.dst (.tup []), st.h, d :: st.df⟩)
    | none => none
  | .panic x => match ev st.tm x with
    | some (.ifc t v) => some (.pan (.ifc t v), st)
    | _ => none
  | _ => match exOp P (ev st.tm) st.h o with
    | some (.val v) => some (.norm, ⟨putT st.tm o.dst v, st.h, st.df⟩)
    | some (.valh v h) => some (.norm, ⟨putT st.tm o.dst v, h, st.df⟩)
    | some (.call f args) => match call f args st.h with
      | some (.ret v, h) => some (.norm, ⟨putT st.tm o.dst v, h, st.df⟩)
      | some (.pan v, h) => some (.pan v, ⟨st.tm, h, st.df⟩)
      | none => none
    | _ => none

noncomputable def runOps (P : Program) (call : CallF) (ops : Array Oper) : List Oper → St → Option (Ex × St)
  | [], st => some (.norm, st)
  | o :: rest, st => match guardOf ops o st.tm with
    | some true => match stepA P call o st with
      | some (.norm, st') => runOps P call ops rest st'
      | r => r
    | some false => runOps P call ops rest ⟨putT st.tm o.dst (.tup []), st.h, st.df⟩
    | none => none

def loopN (body : St → Option (Ex × St)) : Nat → St → Option (Ex × St)
  | 0, _ => none
  | n + 1, st => match body st with
    | some (.norm, st') => loopN body n st'
    | r => r

noncomputable def evalC (P : Program) (call : CallF) (draw : Array Oper → St → Option (Ex × St)) (n : Nat) : Code → St → Option (Ex × St)
  | .skip, st => some (.norm, st)
  | .region _ ops d, st => if d then draw ops st else runOps P call ops ops.toList st
  | .seq a b, st => match evalC P call draw n a st with
    | some (.norm, st') => evalC P call draw n b st'
    | r => r
  | .cond c x y, st => match ev st.tm c with
    | some (.bool b) => if b then evalC P call draw n x st else evalC P call draw n y st
    | _ => none
  | .block id c, st => match evalC P call draw n c st with
    | some (.exit i, st') => if i = id then some (.norm, st') else some (.exit i, st')
    | r => r
  | .loop c, st => loopN (evalC P call draw n c) n st
  | .exit id, st => some (.exit id, st)
  | .ret, st => some (.ret, st)
  | .rangeFunc g ps asg body, st => match ev st.tm g with
    | some (.fn (.func gf) x lb) => if fnOk P gf then
        match call gf (x ++ [.fn (.yield (st.h.length + 1)) [] []] ++ lb) ((st.h ++ [.dfd]) ++ [.loop false st.tm ps asg body st.h.length]) with
        | some (.ret _, h') => match h'[st.h.length + 1]? with
          | some (.loop false _ _ _ _ _) => some (.norm, ⟨st.tm, h'.set (st.h.length + 1) .dead, .col st.h.length :: st.df⟩)
          | _ => none
        | some (.pan v, h') => some (.pan v, ⟨st.tm, h', .col st.h.length :: st.df⟩)
        | none => none
      else none
    | _ => none
  | _, _ => none

/-- No deferred calls, no ranges over functions. -/
def calmO (o : Oper) : Bool := match o.op with
  | .defer _ => false
  | _ => true
def calmC : Code → Bool
  | .region _ ops _ => ops.toList.all calmO
  | .seq a b => calmC a && calmC b
  | .cond _ a b => calmC a && calmC b
  | .block _ c => calmC c
  | .loop c => calmC c
  | .rangeFunc _ _ _ _ => false
  | _ => true

/-- The results of a function. -/
noncomputable def resA (P : Program) (tm : Tm) (h : AHeap) : List ResultVar → Option (List AV)
  | [] => some []
  | .tmp t :: r => (resA P tm h r).map (tm.get t :: ·)
  | .cell a t :: r => match loadA P h t (tm.get a), resA P tm h r with
    | some v, some vs => some (v :: vs)
    | _, _ => none

noncomputable def retA (P : Program) (fn : Func) (tm : Tm) (h : AHeap) : Option AV :=
  match resA P tm h fn.results.toList with
  | some [v] => some v
  | some vs => some (.tup vs)
  | none => none

def settleA : Md → Md
  | .pan _ true => .ret
  | m => m

noncomputable def startT (fn : Func) (args : List AV) : Tm := Tm.setL args 0 (Tm.new (args.length + (fn.ntmps - args.length)))

/-- The first operation asks for a panic. -/
def isRecover (ops : Array Oper) : Option (Option Tmp × List Oper) :=
  match ops.toList with
  | o :: rest => match o.op, o.guard with
    | .call { callee := .builtin .recover, .. }, none => some (o.dst, rest)
    | _, _ => none
  | _ => none

/-- Operations without calls. -/
noncomputable def runV (P : Program) (ops : Array Oper) : List Oper → St → Option St
  | [], st => some st
  | o :: rest, st => match guardOf ops o st.tm with
    | some true => match exOp P (ev st.tm) st.h o with
      | some (.val v) => runV P ops rest ⟨putT st.tm o.dst v, st.h, st.df⟩
      | some (.valh v h) => runV P ops rest ⟨putT st.tm o.dst v, h, st.df⟩
      | _ => none
    | some false => runV P ops rest ⟨putT st.tm o.dst (.tup []), st.h, st.df⟩
    | none => none

noncomputable def evalV (P : Program) (call : CallF) (draw : Array Oper → St → Option (Ex × St)) (n : Nat) (ops : Array Oper) (more : List Oper) (rest : Code) (st : St) : Option (Ex × St) :=
  match runV P ops more st with
  | some st' => evalC P call draw n rest st'
  | none => none

/-- How a deferred call ends. -/
noncomputable def defFin (P : Program) (fn : Func) (u' : Md) (r : Option (Ex × St)) : Option (Md × AHeap) := match r with
  | some (.norm, st) | some (.ret, st) => if st.df.isEmpty then (match retA P fn st.tm st.h with | some _ => some (u', st.h) | none => none) else none
  | _ => none

/-- A deferred call. -/
noncomputable def evalDef (P : Program) (call : CallF) (draw : Array Oper → St → Option (Ex × St)) (n : Nat) (f : FuncId) (args : List AV) (u : Md) (h : AHeap) : Option (Md × AHeap) :=
  match P.funcs[f]? with
  | none => none
  | some fn => match fn.body with
    | none => none
    | some c =>
      match c with
      | .seq (.region _ ops false) rest => match isRecover ops with
        | some (dst, more) => match u with
          | .pan v false => defFin P fn (.pan v true) (evalV P call draw n ops more rest ⟨putT (startT fn args) dst v, h, []⟩)
          | u => defFin P fn u (evalV P call draw n ops more rest ⟨putT (startT fn args) dst .nili, h, []⟩)
        | none => defFin P fn u (evalC P call draw n c ⟨startT fn args, h, []⟩)
      | c => defFin P fn u (evalC P call draw n c ⟨startT fn args, h, []⟩)

/-- What is deferred, carried out. -/
noncomputable def leaveA (P : Program) (call : CallF) (draw : Array Oper → St → Option (Ex × St)) (n : Nat) (fn : Func) (tm : Tm) : List DI → Md → AHeap → Option (CRes × AHeap)
  | [], .ret, h => (retA P fn tm h).map fun v => (.ret v, h)
  | [], .pan v false, h => some (.pan v, h)
  | [], .pan _ true, _ => none
  | .fn f args :: ds, u, h => if !fnOk P f then none else match evalDef P call draw n f args u h with
    | some (u', h') => leaveA P call draw n fn tm ds (settleA u') h'
    | none => none
  | .col b :: ds, u, h => match h[b]? with
    | some .dfd => leaveA P call draw n fn tm ds u (h.set b .dead)
    | _ => none

/-- One round of a range over a function. -/
noncomputable def yieldA (P : Program) (call : CallF) (draw : Array Oper → St → Option (Ex × St)) (n : Nat) (b : Nat) (args : List AV) (h : AHeap) : Option (CRes × AHeap) :=
  match h[b]? with
  | some (.loop false tms ps asg body _) => if ps.size = args.length ∧ calmC asg = true ∧ calmC body = true then
      match evalC P call draw n asg ⟨(ps.toList.zip args).foldl (fun l p => Tm.set l p.1 p.2) tms, h, []⟩ with
      | some (.norm, st1) => match st1.h[b]? with
        | some (.loop false tms1 ps1 asg1 body1 db1) =>
          match evalC P call draw n body ⟨st1.tm, st1.h.set b (.loop true tms1 ps1 asg1 body1 db1), st1.df⟩ with
          | some (.norm, st2) => match st2.h[b]? with
            | some (.loop _ tms2 ps2 asg2 body2 db2) => some (.ret (.bool true), st2.h.set b (.loop false tms2 ps2 asg2 body2 db2))
            | _ => none
          | _ => none
        | _ => none
      | _ => none
    else none
  | _ => none

/-- A function's body. -/
noncomputable def bodyA (P : Program) (call : CallF) (draw : Array Oper → St → Option (Ex × St)) (n : Nat) (f : FuncId) (args : List AV) (h : AHeap) : Option (CRes × AHeap) :=
  match P.funcs[f]? with
  | none => none
  | some fn => match fn.body with
    | none => none
    | some c => match evalC P call draw n c ⟨startT fn args, h, []⟩ with
      | some (.norm, st) | some (.ret, st) => leaveA P call draw n fn st.tm st.df .ret st.h
      | some (.pan v, st) => leaveA P call draw n fn st.tm st.df (.pan v false) st.h
      | _ => none

mutual
/-- No block of the machine's own is named. -/
def AV.pureB : AV → Bool
  | .ptr _ _ _ | .sl _ _ _ _ _ | .map _ => false
  | .pin cs _ => pureBs cs
  | .lst _ xs _ => pureBs xs
  | .fn f x y => !isYield f && (pureBs x && pureBs y)
  | .ifc _ x => x.pureB
  | .agg cs => pureBs cs
  | .tup cs => pureBs cs
  | _ => true
def pureBs : List AV → Bool
  | [] => true
  | x :: xs => x.pureB && pureBs xs
end

/-- How calls are carried out: which are carried out in the caller's own memory ('inl'); what some are known to come to ('sum'). -/
structure Cfg where
  inl : FuncId → Bool
  sum : FuncId → List AV → Option AV
end Go.Abs
