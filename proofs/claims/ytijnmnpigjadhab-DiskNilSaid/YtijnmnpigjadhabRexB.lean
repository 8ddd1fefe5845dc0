import Derived.Test.YtijnmnpigjadhabRexA
/- Rex, part B: from loaded code to Rex code. -/
set_option linter.unusedVariables false
namespace Go.Rex

/-- Which operations (region, place) make something that will be written; each function's mode. -/
structure Ann where
  muts : FuncId → List (Nat × Nat)
  mode : FuncId → FMode

section
variable (P : Program)
def szOf (t : TypeId) : Option Nat := (P.info? t).map (·.size)
def bytesOf (t : TypeId) : Option Nat := (P.info? t).map (·.bytes)
def aggT (t : TypeId) : Option Bool :=
  match P.underlying t with
  | some (.struct _) => some true
  | some (.array _ _) => some true
  | some _ => some false
  | none => none
def offsOk : Nat → List Field → List Nat → Bool
  | _, [], [] => true
  | o, f :: fs, s :: ss => (f.offset == o) && offsOk (o + s) fs ss
  | _, _, _ => false
/-- A struct's fields' sizes. -/
def szsOf (t : TypeId) : Option (List Nat) :=
  match P.underlying t with
  | some (.struct fs) =>
    match optL (fun (f : Field) => szOf P f.type) fs.toList with
    | some szs => if offsOk 0 fs.toList szs && szs.all (fun n => decide (0 < n)) && szOf P t == some (sumN szs) then some szs else none
    | none => none
  | _ => none
def zeroD : Nat → TypeId → Option D
  | 0, _ => none
  | n + 1, t =>
    match P.underlying t with
    | some (.int k) => some (.lit (.int k 0))
    | some .bool => some (.lit (.bool false))
    | some .string => some (.lit (.string ⟨#[]⟩))
    | some (.slice _) => some nilD
    | some (.pointer _) => some (.lit (.pointer none))
    | some (.func ..) => some (.lit .nilFunc)
    | some (.struct fs) =>
      match szsOf P t, optL (fun (f : Field) => zeroD n f.type) fs.toList with
      | some szs, some zs => some (.agg szs zs)
      | _, _ => none
    | some (.array m e) =>
      match szOf P e, zeroD n e with
      | some s, some z => some (.agg (List.replicate m s) (List.replicate m z))
      | _, _ => none
    | _ => none
def valEq : Value → Value → Bool
  | .int k n, .int k' n' => decide (k = k') && decide (n = n')
  | .bool a, .bool b => decide (a = b)
  | .string a, .string b => decide (a = b)
  | .slice none a b, .slice none c d => decide (a = c) && decide (b = d)
  | .pointer none, .pointer none => true
  | .nilFunc, .nilFunc => true
  | _, _ => false
mutual
/-- The cells of a zero value are taken off a list: what is left. -/
def takeZ : D → List Value → Option (List Value)
  | .lit a, v :: r => if valEq a v then some r else none
  | .agg szs fs, l => takeZL szs fs l
  | _, _ => none
def takeZL : List Nat → List D → List Value → Option (List Value)
  | [], [], l => some l
  | n :: szs, f :: fs, l =>
    match takeZ f l with
    | some r => if l.length = n + r.length then takeZL szs fs r else none
    | none => none
  | _, _, _ => none
end
def doneZ : Option (List Value) → Bool
  | some r => r.isEmpty
  | none => false
def zeroFits : D → Value → Bool
  | .agg szs fs, .agg cs => doneZ (takeZL szs fs cs.toList)
  | .agg .., _ => false
  | d, v => doneZ (takeZ d [v])
def zeroOf (t : TypeId) : Option D :=
  match zeroD P 12 t, ((P.info? t).bind fun i => i.zero) with
  | some d, some v => if zeroFits d v then some d else none
  | _, _ => none
def eqTy : Nat → TypeId → Option EqT
  | 0, _ => none
  | n + 1, t =>
    match P.underlying t with
    | some (.int _) => some .int
    | some .bool => some .bool
    | some (.pointer _) => some .ptr
    | some .string => some .str
    | some (.slice _) => some .nilS
    | some (.struct fs) =>
      if P.stoodInHeld t || fs.any (fun f => f.name == "_") then none
      else match szsOf P t, optL (fun (f : Field) => eqTy n f.type) fs.toList with
        | some szs, some l => some (.fields szs l)
        | _, _ => none
    | some (.array m e) => match szOf P e, eqTy n e with
      | some s, some x => some (.fields (List.replicate m s) (List.replicate m x))
      | _, _ => none
    | _ => none
def constD : Value → Option D
  | .bool b => some (.lit (.bool b))
  | .int k n => some (.lit (.int k n))
  | .string s => some (.lit (.string s))
  | .slice none 0 0 => some nilD
  | .pointer none => some (.lit (.pointer none))
  | .nilFunc => some (.lit .nilFunc)
  | _ => none
def digOpd : Operand → Option Opd
  | .tmp t => some (.t t)
  | .const v => (constD v).map .c
  | .func f => some (.c (.fn f 0 []))
  | .global _ => none
def digOpt : Option Operand → Option (Option Opd)
  | none => some none
  | some x => (digOpd x).map some
def digParts (l : List (Nat × Operand)) : Option (List (Nat × Opd)) := optL (fun p => (digOpd p.2).map fun x => (p.1, x)) l
def digCall (b : Builtin) (ts : List TypeId) (xs : List Opd) : Option RO :=
  match b, ts, xs with
  | .len, [t], [x] => match P.underlying t with
    | some .string => some (.len true x)
    | some (.slice _) => some (.len false x)
    | _ => none
  | .cap, [t], [x] => match P.underlying t with
    | some (.slice _) => some (.cap x)
    | _ => none
  | .append, [t, u], [x, y] => match P.underlying t, P.underlying u with
    | some (.slice e), some (.slice _) => match szOf P e, bytesOf P e, zeroOf P e with
      | some s, some b, some z => if 0 < b ∧ 0 < s ∧ z.sz = s then some (.app s (140737488355328 / b) x y) else none
      | _, _, _ => none
    | some (.slice e), some .string => match szOf P e, bytesOf P e, zeroOf P e with
      | some 1, some b, some z => if 0 < b ∧ z.sz = 1 then some (.appS (140737488355328 / b) x y) else none
      | _, _, _ => none
    | some (.slice e), some (.int _) => match szOf P e, bytesOf P e, zeroOf P e with
      | some s, some b, some z => if 0 < b ∧ 0 < s ∧ z.sz = s then some (.appZ s (140737488355328 / b) z x y) else none
      | _, _, _ => none
    | _, _ => none
  | .copy, [t, _], [x, y] => match P.underlying t with
    | some (.slice e) => match szOf P e with
      | some s => if 0 < s then some (.cpy s x y) else none
      | none => none
    | _ => none
  | .clear, [t], [x] => match P.underlying t with
    | some (.slice e) => match szOf P e, zeroOf P e with
      | some s, some z => if 0 < s then some (.clr s z x) else none
      | _, _ => none
    | _ => none
  | .min, _, xs => some (.mm false xs)
  | .max, _, xs => some (.mm true xs)
  | _, _, _ => none
/-- Are these the sizes of a record's fields, or of an array's elements? -/
def shapeOk (t : TypeId) (szs : List Nat) : Bool :=
  (szsOf P t == some szs) || match P.underlying t with
    | some (.array n e) => match szOf P e with
      | some k => szs == List.replicate n k
      | none => false
    | _ => false
def digOp (m : Bool) : Op → Option RO
  | .move x | .assign x => (digOpd x).map .mv
  | .pick c a b => match digOpd c, digOpd a, digOpd b with
    | some c, some a, some b => some (.pick c a b)
    | _, _, _ => none
  | .alloc t => match zeroOf P t, P.underlying t with
    | some z, some (.array _ e) => match szOf P e with
      | some s => if 0 < s then some (.arr s (.c z)) else none
      | none => none
    | some z, some _ => some (.box m (.c z))
    | _, _ => none
  | .box t x => match digOpd x, P.underlying t with
    | some x, some (.array _ e) => match szOf P e with
      | some s => if 0 < s then some (.arr s x) else none
      | none => none
    | some x, some _ => some (.box m x)
    | _, _ => none
  | .build t parts => match zeroOf P t, digParts parts.toList with
    | some (.agg szs z), some ps => if shapeOk P t szs then some (.build szs z ps) else none
    | _, _ => none
  | .buildSlice t n parts => match P.underlying t with
    | some (.slice e) => match szOf P e, zeroOf P e, digParts parts.toList with
      | some s, some z, some ps => if 0 < s ∧ n * s ≤ 16777216 ∧ z.sz = s then some (.bsl m s (List.replicate n z) ps) else none
      | _, _, _ => none
    | _ => none
  | .load t a => match aggT P t, szOf P t, digOpd a with
    | some ag, some s, some a => some (.ld ag s a)
    | _, _, _ => none
  | .store t a v => match szOf P t, digOpd a, digOpd v with
    | some s, some a, some v => some (.st s a v)
    | _, _, _ => none
  | .nilCheck x => (digOpd x).map .nck
  | .binOp op t x y _ => match P.underlying t, digOpd x, digOpd y with
    | some (.int _), some x, some y => some (.bin op x y)
    | some .string, some x, some y => some (.bin op x y)
    | some _, some x, some y =>
      if P.eqGuardType P.depth t then none
      else match op, eqTy P 12 t with
        | .eql, some e => some (.eq false e x y)
        | .neq, some e => some (.eq true e x y)
        | _, _ => none
    | _, _, _ => none
  | .unOp op _ x => (digOpd x).map (.un op)
  | .convert a b x => match P.underlying a, P.underlying b, digOpd x with
    | some (.int _), some (.int k), some x => some (.cvi k x)
    | some .string, some .string, some x => some (.cvs x)
    | some (.slice e), some .string, some x => match P.underlying e with
      | some (.int .u8) => some (.b2s x)
      | _ => none
    | some .string, some (.slice e), some x => match P.underlying e with
      | some (.int .u8) => some (.s2b m x)
      | _ => none
    | _, _, _ => none
  | .makeFunc (.func f) first caps => (optL digOpd (first.toList ++ caps.toList)).map (.mkf f first.size)
  | .makeSlice t l c => match P.underlying t with
    | some (.slice e) => match szOf P e, bytesOf P e, zeroOf P e, digOpd l, digOpd c with
      | some s, some b, some z, some l, some c => if 0 < s ∧ 0 < b then some (.msl m s (140737488355328 / b) z l c) else none
      | _, _, _, _, _ => none
    | _ => none
  | .slice t x lo hi mx => match P.underlying t, digOpd x, digOpt lo, digOpt hi, digOpt mx with
    | some .string, some x, some lo, some hi, some none => some (.sls x lo hi)
    | some (.slice e), some x, some lo, some hi, some mx => match szOf P e with
      | some s => if 0 < s ∧ (mx.isSome → hi.isSome) then some (.slc s x lo hi mx) else none
      | none => none
    | some (.array n e), some x, some lo, some hi, some none => match szOf P e with
      | some s => if 0 < s then some (.sla s n x lo hi) else none
      | none => none
    | some (.pointer a), some x, some lo, some hi, some none => match P.underlying a with
      | some (.array n e) => match szOf P e with
        | some s => if 0 < s then some (.sla s n x lo hi) else none
        | none => none
      | _ => none
    | _, _, _, _, _ => none
  | .fieldAddr t x i => match szsOf P t, digOpd x with
    | some szs, some x => if i < szs.length then some (.fa szs i x) else none
    | _, _ => none
  | .field t x i => match szsOf P t, digOpd x, P.underlying t with
    | some szs, some x, some (.struct fs) => match fs[i]? with
      | some f => match aggT P f.type with
        | some ag => some (.fld ag szs i x)
        | none => none
      | none => none
    | _, _, _ => none
  | .indexAddr t x i => match P.underlying t, digOpd x, digOpd i with
    | some (.slice e), some x, some i => match szOf P e with
      | some s => if 0 < s then some (.ia s x i) else none
      | none => none
    | some (.array n e), some x, some i => match szOf P e with
      | some s => if 0 < s then some (.iaA s n x i) else none
      | none => none
    | _, _, _ => none
  | .index t x i => match P.underlying t, digOpd x, digOpd i with
    | some .string, some x, some i => some (.ixS x i)
    | _, _, _ => none
  | .extract x i => (digOpd x).map fun x => .ext x i
  | .call c => match c.callee with
    | .builtin b => match optL digOpd c.args.toList with
      | some xs => digCall P b c.argTypes.toList xs
      | none => none
    | .value f => match digOpd f, optL digOpd c.args.toList with
      | some f, some xs => some (.call f xs)
      | _, _ => none
    | _ => none
  | _ => none
end

/-- May the operation turn the objects? -/
def writes (A : Ann) : RO → Bool
  | .box m _ => m
  | .arr .. => true
  | .bsl m .. => m
  | .st .. => true
  | .s2b m _ => m
  | .msl m .. => m
  | .call (.c (.fn g _ _)) _ => match A.mode g with
    | .pure scal _ => !scal
    | _ => true
  | .call .. => true
  | .app .. => true
  | .appS .. => true
  | .appZ .. => true
  | .cpy .. => true
  | .clr .. => true
  | _ => false

/-- Something made of nothing that was reckoned: it may come first. -/
def early (r : ROp) : Bool :=
  r.guard.isNone && match r.op with
  | .box true (.c _) => true
  | .arr _ (.c _) => true
  | _ => false
/-! In a region that draws its order: what must come before what; between which of the writers each other operation may come. -/
def edgeBits (b : List Nat) (o : Oper) : Nat := o.after.toList.foldl (fun s e => if Region.binds .any e then s ||| 2 ^ e.on ||| b.getD e.on 0 else s) 0
def edgesLow (i : Nat) (o : Oper) : Bool := o.after.toList.all fun e => !Region.binds .any e || decide (e.on < i)
def bOk (b : List Nat) : Nat → List Oper → Bool
  | _, [] => true
  | i, o :: r => (b.getD i 0 == edgeBits b o) && edgesLow i o && bOk b (i + 1) r
/-- Must i come before j? -/
def bef (b : List Nat) (i j : Nat) : Bool := (b.getD j 0).testBit i
def pairsOk (b : List Nat) : List (ROp × Nat) → Bool
  | [] => true
  | x :: l => l.all (fun y => bef b x.2 y.2 || (ROp.apart x.1 y.1 && (early x.1 || !(x.1.wr && y.1.wr)))) && pairsOk b l
def between (b : List Nat) (l : List (ROp × Nat)) (x : ROp × Nat) : ROp × Nat :=
  ({ x.1 with lo := (l.filter fun y => y.1.wr && bef b y.2 x.2).length, hi := (l.filter fun y => y.1.wr && !bef b x.2 y.2).length }, x.2)
def digOper (P : Program) (A : Ann) (f : FuncId) (id : Nat) (ops : Array Oper) (i : Nat) (o : Oper) : Option ROp :=
  match digOp P ((A.muts f).contains (id, i)) o.op with
  | none => none
  | some ro =>
    match o.guard with
    | none => some { dst := o.dst, op := ro, guard := none, lo := 0, hi := 0, wr := writes A ro }
    | some (j, want) => match (ops[j]?).bind (·.dst) with
      | some t => some { dst := o.dst, op := ro, guard := some (t, want), lo := 0, hi := 0, wr := writes A ro }
      | none => none
def digOps (P : Program) (A : Ann) (f : FuncId) (id : Nat) (ops : Array Oper) : Nat → List Oper → Option (List ROp)
  | _, [] => some []
  | i, o :: r => match digOper P A f id ops i o, digOps P A f id ops (i + 1) r with
    | some x, some l => some (x :: l)
    | _, _ => none
/-- The operations of a region that draws its order, in one order. -/
def earlyOf (l : List ROp) : List (ROp × Nat) := l.zipIdx.filter fun x => early x.1
def lateOf (b : List Nat) (l : List ROp) : List (ROp × Nat) :=
  let q := l.zipIdx.filter fun x => !early x.1
  q.map (between b q)
def dig (P : Program) (A : Ann) (f : FuncId) : Code → Option RC
  | .skip => some .skip
  | .region id ops false => (digOps P A f id ops 0 ops.toList).map .reg
  | .region id ops true =>
    let b := (Region.before ops).toList
    match digOps P A f id ops 0 ops.toList with
    | none => none
    | some l =>
      if bOk b 0 ops.toList && pairsOk b (earlyOf l ++ lateOf b l) then
        some (.draw ((earlyOf l).map (·.1)) ((lateOf b l).map (·.1)))
      else none
  | .seq a b => match dig P A f a, dig P A f b with
    | some x, some y => some (.seq x y)
    | _, _ => none
  | .cond c a b => match digOpd c, dig P A f a, dig P A f b with
    | some c, some x, some y => some (.cond c x y)
    | _, _, _ => none
  | .block id b => (dig P A f b).map (.block id)
  | .loop b => (dig P A f b).map .loop
  | .exit id => some (.exit id)
  | .ret => some .ret
  | _ => none
def digRes (P : Program) : ResultVar → Option RRes
  | .tmp t => some (.t t)
  | .cell a t => match aggT P t, szOf P t with
    | some ag, some s => some (.cell a ag s)
    | _, _ => none
def digFn (P : Program) (A : Ann) (f : FuncId) (fn : Func) : Option RFn :=
  if fn.name == "runtime.NumGoroutine" then none else
  match fn.body with
  | none => none
  | some c => match dig P A f c, optL (digRes P) fn.results.toList with
    | some b, some rs => some { body := b, ntmps := fn.ntmps, results := rs, mode := A.mode f }
    | _, _ => none
end Go.Rex
