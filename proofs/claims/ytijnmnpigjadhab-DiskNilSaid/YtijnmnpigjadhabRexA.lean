import Derived.Below
import Derived.Orders
import Derived.Laws.Cells
import Derived.Laws.IdiomCopy
/- Rex, part A: an executable, deterministic semantics over plain data. D: data; Ob: a mutable row or variable; RO: operations; RC: code; axFn: a call. -/
set_option linter.unusedVariables false
namespace Go.Rex

inductive D where
  | lit (v : Value)
  | agg (szs : List Nat) (fs : List D)
  | tup (ds : List D)
  | sl (es : Nat) (xs : List D) (tg : Bool)
  | pv (d : D)
  | mo (es id ver off len : Nat) (tg : Bool)
  | ptr (id ver off : Nat) (path : List Nat)
  | fn (f : FuncId) (n : Nat) (caps : List D)
  deriving Inhabited

/-- A row, or a variable (a row of one): its elements; how often it has grown; since when its views agree; is it shared with what never changes? -/
structure Ob where
  es : Nat
  xs : List D
  ver : Nat
  minv : Nat
  frz : Bool
  fix : Bool
  deriving Inhabited

abbrev Hp := List Ob

inductive Opd where
  | t (n : Nat)
  | c (d : D)
  deriving Inhabited

/-- How two values of a type are held against each other. -/
inductive EqT where
  | int
  | bool
  | ptr
  | str
  | nilS
  | fields (szs : List Nat) (l : List EqT)
  deriving Inhabited

inductive RO where
  | mv (x : Opd)
  | pick (c a b : Opd)
  | box (m : Bool) (x : Opd)
  | arr (es : Nat) (x : Opd)
  | build (szs : List Nat) (z : List D) (parts : List (Nat × Opd))
  | bsl (m : Bool) (es : Nat) (z : List D) (parts : List (Nat × Opd))
  | ld (ag : Bool) (s : Nat) (x : Opd)
  | st (s : Nat) (a v : Opd)
  | nck (x : Opd)
  | bin (op : BinOp) (x y : Opd)
  | eq (neg : Bool) (e : EqT) (x y : Opd)
  | un (op : UnOp) (x : Opd)
  | cvi (k : IntKind) (x : Opd)
  | cvs (x : Opd)
  | b2s (x : Opd)
  | s2b (m : Bool) (x : Opd)
  | mkf (f : FuncId) (n : Nat) (caps : List Opd)
  | msl (m : Bool) (es lim : Nat) (z : D) (l c : Opd)
  | sls (x : Opd) (lo hi : Option Opd)
  | slc (es : Nat) (x : Opd) (lo hi mx : Option Opd)
  | sla (es n : Nat) (x : Opd) (lo hi : Option Opd)
  | fa (szs : List Nat) (i : Nat) (x : Opd)
  | fld (ag : Bool) (szs : List Nat) (i : Nat) (x : Opd)
  | ia (es : Nat) (x i : Opd)
  | iaA (es n : Nat) (x i : Opd)
  | ixS (x i : Opd)
  | ext (x : Opd) (i : Nat)
  | call (f : Opd) (args : List Opd)
  | len (str : Bool) (x : Opd)
  | cap (x : Opd)
  | app (es lim : Nat) (x y : Opd)
  | appS (lim : Nat) (x y : Opd)
  | appZ (es lim : Nat) (z : D) (x n : Opd)
  | cpy (es : Nat) (x y : Opd)
  | clr (es : Nat) (z : D) (x : Opd)
  | mm (mx : Bool) (xs : List Opd)
  deriving Inhabited

structure ROp where
  dst : Option Nat
  op : RO
  guard : Option (Nat × Bool)
  lo : Nat
  hi : Nat
  wr : Bool
  deriving Inhabited

inductive RC where
  | skip
  | reg (ops : List ROp)
  | draw (pre ops : List ROp)
  | seq (a b : RC)
  | cond (c : Opd) (a b : RC)
  | block (id : Nat) (b : RC)
  | loop (b : RC)
  | exit (id : Nat)
  | ret
  deriving Inhabited

inductive RRes where
  | t (n : Nat)
  | cell (n : Nat) (ag : Bool) (s : Nat)
  deriving Inhabited

/-- eff: shares the caller's objects. pure: has none of them; scal: its results lead nowhere. own: its first result's row is handed over. -/
inductive FMode where
  | eff | pure (scal own : Bool)
  deriving Inhabited

structure RFn where
  body : RC
  ntmps : Nat
  results : List RRes
  mode : FMode
  deriving Inhabited

structure St where
  s : List D
  h : Hp

def und : D := .tup []
/-- A slice that is nil. -/
def nilD : D := .lit (.slice none 0 0)
def Opd.ev (s : List D) : Opd → D
  | .t n => s.getD n und
  | .c d => d

def sumN : List Nat → Nat
  | [] => 0
  | n :: l => n + sumN l

def D.sz : D → Nat
  | .agg szs _ => sumN szs
  | _ => 1
/-- Is it what a variable of so many cells holds? -/
def D.fits (ag : Bool) (s : Nat) : D → Bool
  | .agg szs _ => ag && sumN szs == s
  | .tup _ => false
  | _ => !ag && s == 1

def D.isTup : D → Bool
  | .tup _ => true
  | _ => false
def D.isPtr : D → Bool
  | .pv _ => true
  | .ptr .. => true
  | _ => false

def asPure {α : Type} : Sem α → Option α
  | .pure a => some a
  | _ => none

/-! ### Paths -/
def getPath : D → List Nat → Option (D × Nat)
  | d, [] => some (d, 0)
  | .agg szs fs, i :: p =>
    match fs[i]? with
    | some f =>
      match getPath f p with
      | some (r, o) => some (r, sumN (szs.take i) + o)
      | none => none
    | none => none
  | _, _ :: _ => none
def setPath (v : D) : D → List Nat → Option D
  | _, [] => some v
  | .agg szs fs, i :: p =>
    match fs[i]? with
    | some f =>
      match setPath v f p with
      | some r => some (.agg szs (fs.set i r))
      | none => none
    | none => none
  | _, _ :: _ => none

/-! ### Objects -/
def rowOf (h : Hp) (id ver : Nat) : Option (List D) :=
  match h[id]? with
  | some ob => if ob.minv ≤ ver ∧ ver ≤ ob.ver then some ob.xs else none
  | none => none
/-- A slice's elements. -/
def elemsOf (h : Hp) (es : Nat) : D → Option (List D)
  | .lit (.slice none 0 0) => some []
  | .sl e xs _ => if xs.isEmpty || e == es then some xs else none
  | .mo e id ver off len _ =>
    if e == es then
      match rowOf h id ver with
      | some xs => if off + len ≤ xs.length then some ((xs.drop off).take len) else none
      | none => none
    else none
  | _ => none
def lenOf : D → Option Nat
  | .lit (.slice none 0 0) => some 0
  | .sl _ xs _ => some xs.length
  | .mo _ _ _ _ len _ => some len
  | _ => none
def loadAt (h : Hp) : D → Option D
  | .pv d => some d
  | .ptr id ver off [] =>
    match h[id]? with
    | some ob => if ver = ob.ver ∧ off = 0 then some (.agg (List.replicate ob.xs.length ob.es) ob.xs) else none
    | none => none
  | .ptr id ver off (i :: p) =>
    match h[id]? with
    | some ob =>
      if ob.minv ≤ ver ∧ ver ≤ ob.ver then
        match ob.xs[i]? with
        | some x =>
          match getPath x p with
          | some (r, o) => if i * ob.es + o = off then some r else none
          | none => none
        | none => none
      else none
    | none => none
  | _ => none
def storeAt (h : Hp) (s : Nat) (v : D) : D → Option Hp
  | .ptr id ver off (i :: p) =>
    match h[id]? with
    | some ob =>
      if ver = ob.ver ∧ ob.frz = false then
        match ob.xs[i]? with
        | some x =>
          match getPath x p, setPath v x p with
          | some (r, o), some x' => if i * ob.es + o = off ∧ r.sz = s ∧ v.sz = s then some (h.set id { ob with xs := ob.xs.set i x', minv := ob.ver }) else none
          | _, _ => none
        | none => none
      else none
    | none => none
  | .ptr id ver off [] =>
    match h[id]? with
    | some ob =>
      if ver = ob.ver ∧ ob.frz = false ∧ off = 0 then
        match v with
        | .agg szs fs => if szs = List.replicate ob.xs.length ob.es ∧ fs.length = ob.xs.length ∧ sumN szs = s then some (h.set id { ob with xs := fs, minv := ob.ver }) else none
        | _ => none
      else none
    | none => none
  | _ => none

/-! ### What leads to no object -/
mutual
def D.flat : D → Bool
  | .lit _ => true
  | .agg _ fs => flatL fs
  | .tup ds => flatL ds
  | .sl _ xs _ => flatL xs
  | .pv d => D.flat d
  | .mo .. => false
  | .ptr .. => false
  | .fn _ _ caps => flatL caps
def flatL : List D → Bool
  | [] => true
  | d :: ds => D.flat d && flatL ds
end
def optL {α β : Type} (f : α → Option β) : List α → Option (List β)
  | [] => some []
  | a :: l => match f a, optL f l with
    | some b, some r => some (b :: r)
    | _, _ => none
mutual
/-- What leads to objects is replaced by what g says. -/
def D.mapIds (g : D → Option D) : D → Option D
  | .lit v => some (.lit v)
  | .agg szs fs => match mapIdsL g fs with | some r => some (.agg szs r) | none => none
  | .tup ds => match mapIdsL g ds with | some r => some (.tup r) | none => none
  | .sl es xs tg => match mapIdsL g xs with | some r => some (.sl es r tg) | none => none
  | .pv d => match D.mapIds g d with | some r => some (.pv r) | none => none
  | .fn f n caps => match mapIdsL g caps with | some r => some (.fn f n r) | none => none
  | .mo es id ver off len tg => g (.mo es id ver off len tg)
  | .ptr id ver off path => g (.ptr id ver off path)
def mapIdsL (g : D → Option D) : List D → Option (List D)
  | [] => some []
  | d :: ds => match D.mapIds g d, mapIdsL g ds with
    | some r, some rs => some (r :: rs)
    | _, _ => none
end
/-- A value as it stands, all it leads to told; n: how many objects deep. -/
def fz (h : Hp) : Nat → D → Option D
  | 0, d => D.mapIds (fun _ => none) d
  | n + 1, d => D.mapIds (fun x =>
      match x with
      | .mo es _ _ _ _ tg => match elemsOf h es x with
        | some xs => match mapIdsL (fun y => fz h n y) xs with
          | some r => some (.sl es r tg)
          | none => none
        | none => none
      | .ptr .. => match loadAt h x with
        | some d => match fz h n d with
          | some r => some (.pv r)
          | none => none
        | none => none
      | _ => none) d
def fzDepth : Nat := 6
/-- Told, if it leads to objects. -/
def tell (h : Hp) (d : D) : Option D := if d.flat then some d else if d.isTup then none else fz h fzDepth d
mutual
def D.ids : D → List Nat
  | .lit _ => []
  | .agg _ fs => idsL fs
  | .tup ds => idsL ds
  | .sl _ xs _ => idsL xs
  | .pv d => D.ids d
  | .mo _ id _ _ _ _ => [id]
  | .ptr id _ _ _ => [id]
  | .fn _ _ caps => idsL caps
def idsL : List D → List Nat
  | [] => []
  | d :: ds => D.ids d ++ idsL ds
end
/-- The objects that are reached, so many steps deep. -/
def reach (h : Hp) : Nat → List D → List Nat
  | 0, _ => []
  | n + 1, l => idsL l ++ (idsL l).flatMap fun i => match h[i]? with
    | some ob => reach h n ob.xs
    | none => []
def frzGo (l : List Nat) : Nat → Hp → Hp
  | _, [] => []
  | i, ob :: h => (if l.contains i then { ob with frz := true } else ob) :: frzGo l (i + 1) h
def frzIds (h : Hp) (l : List Nat) : Hp := frzGo l 0 h

/-! ### Operations -/
def newOb (h : Hp) (es : Nat) (xs : List D) : Hp := h ++ [{ es, xs, ver := 0, minv := 0, frz := false, fix := false }]
/-- An array: it has just the room of its elements. -/
def newArr (h : Hp) (es : Nat) (xs : List D) : Hp := h ++ [{ es, xs, ver := 0, minv := 0, frz := false, fix := true }]
def natOf : D → Option Nat
  | .lit (.int _ n) => if 0 ≤ n then some n.toNat else none
  | _ => none
def natOr (d : Nat) (s : List D) : Option Opd → Option Nat
  | none => some d
  | some x => natOf (x.ev s)
def fillD (szs : List Nat) (s : List D) : List D → List (Nat × Opd) → Option (List D)
  | z, [] => some z
  | z, (i, x) :: r =>
    let d := x.ev s
    if szs[i]? = some d.sz ∧ d.isTup = false then fillD szs s (z.set i d) r else none
mutual
def eqD : EqT → D → D → Option Bool
  | .int, .lit (.int k a), .lit (.int k' b) => if k = k' then some (decide (a = b)) else none
  | .bool, .lit (.bool a), .lit (.bool b) => some (decide (a = b))
  | .ptr, .lit (.pointer none), .lit (.pointer none) => some true
  | .ptr, .lit (.pointer none), .pv _ => some false
  | .ptr, .lit (.pointer none), .ptr .. => some false
  | .ptr, .pv _, .lit (.pointer none) => some false
  | .ptr, .ptr .., .lit (.pointer none) => some false
  | .str, .lit (.string a), .lit (.string b) => some (decide (a = b))
  | .nilS, .lit (.slice none 0 0), .lit (.slice none 0 0) => some true
  | .nilS, .lit (.slice none 0 0), .sl .. => some false
  | .nilS, .lit (.slice none 0 0), .mo .. => some false
  | .nilS, .sl .., .lit (.slice none 0 0) => some false
  | .nilS, .mo .., .lit (.slice none 0 0) => some false
  | .fields szs l, .agg s1 xs, .agg s2 ys => if s1 = szs ∧ s2 = szs then eqDL l xs ys else none
  | _, _, _ => none
def eqDL : List EqT → List D → List D → Option Bool
  | [], [], [] => some true
  | e :: l, x :: xs, y :: ys =>
    match eqD e x y with
    | some true => eqDL l xs ys
    | some false => some false
    | none => none
  | _, _, _ => none
end
def bytesD (s : ByteArray) : List D := s.data.toList.map fun b => .lit (.int .u8 b.toNat)
def bytesOfD : List D → Option (List UInt8)
  | [] => some []
  | .lit (.int .u8 n) :: r => match bytesOfD r with
    | some l => some (UInt8.ofNat n.toNat :: l)
    | none => none
  | _ => none
def appendD (h : Hp) (es lim : Nat) (x : D) (ys : List D) : Option (D × Hp) :=
  match x with
  | .lit (.slice none 0 0) =>
    if ys.isEmpty then some (x, h)
    else if ys.length ≤ lim then some (.mo es h.length 0 0 ys.length false, newOb h es ys)
    else none
  | .sl e xs tg =>
    if ys.isEmpty then some (x, h)
    else if tg && (xs.isEmpty || e == es) && decide (xs.length + ys.length ≤ lim) then
      some (.mo es h.length 0 0 (xs.length + ys.length) false, newOb h es (xs ++ ys))
    else none
  | .mo e id ver off len tg =>
    if e == es then
      if ys.isEmpty then some (x, h)
      else match h[id]? with
        | some ob =>
          if ob.es = es ∧ len + ys.length ≤ lim then
            if tg then
              match elemsOf h es x with
              | some xs => some (.mo es h.length 0 0 (len + ys.length) false, newOb h es (xs ++ ys))
              | none => none
            else if ver = ob.ver then
              if off + len + ys.length ≤ ob.xs.length ∧ ob.frz = false then
                some (.mo es id ver off (len + ys.length) false, h.set id { ob with xs := ob.xs.take (off + len) ++ ys ++ ob.xs.drop (off + len + ys.length), minv := ob.ver })
              else if off = 0 ∧ len = ob.xs.length then
                some (.mo es id (ver + 1) 0 (len + ys.length) false, h.set id { ob with xs := ob.xs ++ ys, ver := ver + 1, fix := false })
              else none
            else none
          else none
        | none => none
    else none
  | _ => none
/-- Elements written over those of a row. -/
def overD (h : Hp) (es : Nat) (x : D) (ys : List D) : Option Hp :=
  if ys.isEmpty then some h
  else match x with
  | .mo e id ver off len _ =>
    match h[id]? with
    | some ob =>
      if e = es ∧ ob.es = es ∧ ver = ob.ver ∧ ob.frz = false ∧ ys.length ≤ len ∧ off + len ≤ ob.xs.length then
        some (h.set id { ob with xs := ob.xs.take off ++ ys ++ ob.xs.drop (off + ys.length), minv := ob.ver })
      else none
    | none => none
  | _ => none
def strSlice (b : ByteArray) (l h : Nat) : Option D := if l ≤ h ∧ h ≤ b.size then some (.lit (.string (b.extract l h))) else none
/-- Has a cut just the room of its elements? -/
def tgOf (mx : Option Nat) (tg : Bool) (h len : Nat) : Bool :=
  match mx with
  | some m => h == m
  | none => tg && h == len
def sliceD (hp : Hp) (es : Nat) (x : D) (l : Nat) (hi mx : Option Nat) : Option D :=
  match x with
  | .lit (.slice none 0 0) => if l = 0 ∧ hi.getD 0 = 0 ∧ mx.getD 0 = 0 then some x else none
  | .sl e xs tg =>
    let h := hi.getD xs.length
    let m := mx.getD xs.length
    if l ≤ h ∧ h ≤ m ∧ m ≤ xs.length ∧ (xs.isEmpty || e == es) then some (.sl e ((xs.take h).drop l) (tgOf mx tg h xs.length)) else none
  | .mo e id ver off len tg =>
    let top := if tg then len else match hp[id]? with
      | some ob => if ver = ob.ver then ob.xs.length - off else len
      | none => len
    let h := hi.getD len
    let m := mx.getD top
    if l ≤ h ∧ h ≤ m ∧ m ≤ top ∧ e == es then
      let tg' := tgOf mx tg h len
      if l = h ∧ l ≠ 0 then some (.sl e [] tg')
      else if mx.isNone && !tg || tg' then some (.mo e id ver (off + l) (h - l) tg') else none
    else none
  | _ => none
def optNat (s : List D) : Option Opd → Option (Option Nat)
  | none => some none
  | some x => match natOf (x.ev s) with
    | some n => some (some n)
    | none => none

def mmGo (mx : Bool) (k : IntKind) : Int → List D → Option Int
  | b, [] => some b
  | b, .lit (.int k' c) :: r => if k' = k then mmGo mx k (if mx then (if c > b then c else b) else (if c < b then c else b)) r else none
  | _, _ => none
/-- What an operation looks at. -/
def optO : Option Opd → List Opd
  | some x => [x]
  | none => []
def RO.opds : RO → List Opd
  | .mv x | .box _ x | .arr _ x | .ld _ _ x | .nck x | .un _ x | .cvi _ x | .cvs x | .b2s x | .s2b _ x | .fa _ _ x | .fld _ _ _ x | .ext x _ | .len _ x | .cap x | .clr _ _ x => [x]
  | .pick c a b => [c, a, b]
  | .build _ _ ps | .bsl _ _ _ ps => ps.map (·.2)
  | .st _ a v => [a, v]
  | .bin _ x y | .eq _ _ x y | .msl _ _ _ _ x y | .ia _ x y | .iaA _ _ x y | .ixS x y | .app _ _ x y | .appS _ x y | .appZ _ _ _ x y | .cpy _ x y => [x, y]
  | .mkf _ _ xs | .mm _ xs => xs
  | .sls x lo hi | .sla _ _ x lo hi => x :: (optO lo ++ optO hi)
  | .slc _ x lo hi mx => x :: (optO lo ++ optO hi ++ optO mx)
  | .call f xs => f :: xs
def Opd.tmps : Opd → List Nat
  | .t n => [n]
  | .c _ => []
/-- What an operation gives, and what becomes of the objects; calls: by 'call'. -/
def RO.run (call : FuncId → List D → Hp → Option (D × Hp)) (s : List D) (h : Hp) : RO → Option (D × Hp)
  | .mv x => some (x.ev s, h)
  | .pick c a b => match c.ev s with
    | .lit (.bool t) => some (if t then a.ev s else b.ev s, h)
    | _ => none
  | .box m x =>
    let d := x.ev s
    if d.isTup then none
    else if m then (if 0 < d.sz then some (.ptr h.length 0 0 [0], newOb h d.sz [d]) else none) else some (.pv d, h)
  | .arr es x => match x.ev s with
    | .agg szs fs => if szs = List.replicate fs.length es then some (.ptr h.length 0 0 [], newArr h es fs) else none
    | _ => none
  | .build szs z parts => match fillD szs s z parts with
    | some fs => some (.agg szs fs, h)
    | none => none
  | .bsl m es z parts => match fillD (List.replicate z.length es) s z parts with
    | some xs => if m then some (.mo es h.length 0 0 xs.length false, newOb h es xs) else some (.sl es xs true, h)
    | none => none
  | .ld ag n x => match loadAt h (x.ev s) with
    | some d => if d.fits ag n then some (d, h) else none
    | none => none
  | .st n a v => if (v.ev s).isTup then none else match storeAt h n (v.ev s) (a.ev s) with
    | some h' => some (und, h')
    | none => none
  | .nck x => match x.ev s with
    | .pv d => some (.pv d, h)
    | .ptr id ver off p => some (.ptr id ver off p, h)
    | .fn f n caps => some (.fn f n caps, h)
    | _ => none
  | .bin op x y => match x.ev s, y.ev s with
    | .lit (.int k a), .lit (.int k' b) => match asPure (binOp op 0 (.int k a) (.int k' b)) with
      | some v => some (.lit v, h)
      | none => none
    | .lit (.string a), .lit (.string b) => match asPure (binOp op 0 (.string a) (.string b)) with
      | some v => some (.lit v, h)
      | none => none
    | _, _ => none
  | .eq neg e x y => match eqD e (x.ev s) (y.ev s) with
    | some b => some (.lit (.bool (b != neg)), h)
    | none => none
  | .un op x => match x.ev s with
    | .lit (.int k a) => match asPure (Op.unary op (.int k a)) with
      | some v => some (.lit v, h)
      | none => none
    | .lit (.bool a) => match asPure (Op.unary op (.bool a)) with
      | some v => some (.lit v, h)
      | none => none
    | _ => none
  | .cvi k x => match x.ev s with
    | .lit (.int _ n) => some (.lit (.int k (k.wrap n)), h)
    | _ => none
  | .cvs x => match x.ev s with
    | .lit (.string b) => some (.lit (.string b), h)
    | _ => none
  | .b2s x => match elemsOf h 1 (x.ev s) with
    | some l => match bytesOfD l with
      | some bs => some (.lit (.string ⟨bs.toArray⟩), h)
      | none => none
    | none => none
  | .s2b m x => match x.ev s with
    | .lit (.string b) => if m then some (.mo 1 h.length 0 0 b.size false, newOb h 1 (bytesD b)) else some (.sl 1 (bytesD b) false, h)
    | _ => none
  | .mkf f n caps => if (caps.map fun c => c.ev s).all D.isPtr then some (.fn f n (caps.map (·.ev s)), h) else none
  | .msl m es lim z l c => match natOf (l.ev s), natOf (c.ev s) with
    | some n, some k => if n = k ∧ n ≤ lim ∧ z.sz = es then
        if m then some (.mo es h.length 0 0 n false, newOb h es (List.replicate n z)) else some (.sl es (List.replicate n z) true, h)
      else none
    | _, _ => none
  | .sls x lo hi => match x.ev s with
    | .lit (.string b) => match natOr 0 s lo, natOr b.size s hi with
      | some l, some k => match strSlice b l k with
        | some d => some (d, h)
        | none => none
      | _, _ => none
    | _ => none
  | .slc es x lo hi mx => match natOr 0 s lo, optNat s hi, optNat s mx with
    | some l, some k, some m => match sliceD h es (x.ev s) l k m with
      | some d => some (d, h)
      | none => none
    | _, _, _ => none
  | .sla es n x lo hi => match x.ev s, natOr 0 s lo, natOr n s hi with
    | .ptr id ver off [], some l, some k => match h[id]? with
      | some ob => if ob.es = es ∧ ob.xs.length = n ∧ ver = ob.ver ∧ off = 0 ∧ l ≤ k ∧ k ≤ n ∧ ob.fix = true then
          (if l = k ∧ l ≠ 0 then some (.sl es [] (k == n), h) else some (.mo es id ver l (k - l) (k == n), h)) else none
      | none => none
    | _, _, _ => none
  | .fa szs i x => match x.ev s with
    | .pv (.agg szs' fs) => if szs' = szs then match fs[i]? with
        | some f => some (.pv f, h)
        | none => none
      else none
    | .ptr id ver off (j :: p) => if i < szs.length then some (.ptr id ver (off + sumN (szs.take i)) ((j :: p) ++ [i]), h) else none
    | _ => none
  | .fld ag szs i x => match x.ev s with
    | .agg szs' fs => if szs' = szs then match fs[i]? with
        | some f => if f.fits ag (szs.getD i 0) then some (f, h) else none
        | none => none
      else none
    | _ => none
  | .ia es x i => match natOf (i.ev s), x.ev s with
    | some n, .sl e xs _ => if e = es then match xs[n]? with
        | some d => some (.pv d, h)
        | none => none
      else none
    | some n, .mo e id ver off ln _ => if e = es ∧ n < ln then some (.ptr id ver ((off + n) * es) [off + n], h) else none
    | _, _ => none
  | .iaA es n x i => match natOf (i.ev s), x.ev s with
    | some j, .ptr id ver off [] => match h[id]? with
      | some ob => if j < n ∧ off = 0 ∧ ver = ob.ver ∧ ob.xs.length = n then some (.ptr id ver (j * es) [j], h) else none
      | none => none
    | some j, .ptr id ver off (q :: p) => if j < n then some (.ptr id ver (off + j * es) ((q :: p) ++ [j]), h) else none
    | some j, .pv (.agg szs fs) => if szs = List.replicate n es then match fs[j]? with
        | some f => some (.pv f, h)
        | none => none
      else none
    | _, _ => none
  | .ixS x i => match x.ev s, natOf (i.ev s) with
    | .lit (.string b), some n => match b.data.toList[n]? with
      | some c => some (.lit (.int .u8 c.toNat), h)
      | none => none
    | _, _ => none
  | .ext x i => match x.ev s with
    | .tup ds => match ds[i]? with
      | some d => some (d, h)
      | none => none
    | _ => none
  | .call f args => match f.ev s with
    | .fn g n caps => call g (caps.take n ++ args.map (·.ev s) ++ caps.drop n) h
    | _ => none
  | .len true x => match x.ev s with
    | .lit (.string b) => some (.lit (.int .i64 b.size), h)
    | _ => none
  | .len false x => match lenOf (x.ev s) with
    | some n => some (.lit (.int .i64 n), h)
    | none => none
  | .cap x => match x.ev s with
    | .lit (.slice none 0 0) => some (.lit (.int .i64 0), h)
    | .sl _ xs true => some (.lit (.int .i64 xs.length), h)
    | .mo _ _ _ _ ln true => some (.lit (.int .i64 ln), h)
    | _ => none
  | .app es lim x y => match elemsOf h es (y.ev s) with
    | some ys => appendD h es lim (x.ev s) ys
    | none => none
  | .appS lim x y => match y.ev s with
    | .lit (.string b) => appendD h 1 lim (x.ev s) (bytesD b)
    | _ => none
  | .appZ es lim z x n => match natOf (n.ev s) with
    | some k => if z.sz = es ∧ k ≤ lim then appendD h es lim (x.ev s) (List.replicate k z) else none
    | none => none
  | .cpy es x y => match lenOf (x.ev s), (match y.ev s with | .lit (.string b) => (if es = 1 then some (bytesD b) else none) | d => elemsOf h es d) with
    | some n, some ys => match overD h es (x.ev s) (ys.take n) with
      | some h' => some (.lit (.int .i64 (min ys.length n : Nat)), h')
      | none => none
    | _, _ => none
  | .clr es z x => match lenOf (x.ev s) with
    | some n => if z.sz = es then match overD h es (x.ev s) (List.replicate n z) with
        | some h' => some (und, h')
        | none => none
      else none
    | none => none
  | .mm mx xs => match (xs.map (fun x => x.ev s) : List D) with
    | .lit (.int k a) :: r => match mmGo mx k a r with
      | some b => some (.lit (.int k b), h)
      | none => none
    | _ => none

def ROp.reads (o : ROp) : List Nat := (o.op.opds.flatMap Opd.tmps) ++ (match o.guard with | some (t, _) => [t] | none => [])
def optN (o : Option Nat) (l : List Nat) : Bool :=
  match o with
  | some t => l.contains t
  | none => false
/-- Neither sees the other. -/
def ROp.apart (x y : ROp) : Bool := !optN x.dst y.reads && !optN y.dst x.reads && (x.dst.isNone || x.dst != y.dst)
/-- Is the operation done? -/
def ROp.wanted (o : ROp) (s : List D) : Bool :=
  match o.guard with
  | none => true
  | some (t, b) => match s.getD t und with
    | .lit (.bool c) => c == b
    | _ => false
def putD (s : List D) : Option Nat → D → List D
  | none, _ => s
  | some t, d => s.set t d
def ROp.step (call : FuncId → List D → Hp → Option (D × Hp)) (o : ROp) (st : St) : Option St :=
  if o.wanted st.s then
    match o.op.run call st.s st.h with
    | some (d, h') => some { s := putD st.s o.dst d, h := h' }
    | none => none
  else some { st with s := putD st.s o.dst und }
def regRun (call : FuncId → List D → Hp → Option (D × Hp)) : List ROp → St → Option St
  | [], st => some st
  | o :: r, st => match o.step call st with
    | some st' => regRun call r st'
    | none => none
mutual
def D.same : D → D → Bool
  | .lit (.int k a), .lit (.int k' b) => decide (k = k') && decide (a = b)
  | .lit (.bool a), .lit (.bool b) => a == b
  | .lit (.string a), .lit (.string b) => decide (a = b)
  | .lit (.pointer none), .lit (.pointer none) => true
  | .lit (.slice none 0 0), .lit (.slice none 0 0) => true
  | .lit .nilFunc, .lit .nilFunc => true
  | .agg szs fs, .agg szs' fs' => decide (szs = szs') && sameL fs fs'
  | .tup fs, .tup fs' => sameL fs fs'
  | .sl es xs tg, .sl es' xs' tg' => decide (es = es') && sameL xs xs' && (tg == tg')
  | .pv d, .pv d' => D.same d d'
  | .mo a b c d e f, .mo a' b' c' d' e' f' => decide (a = a') && decide (b = b') && decide (c = c') && decide (d = d') && decide (e = e') && (f == f')
  | .ptr a b c d, .ptr a' b' c' d' => decide (a = a') && decide (b = b') && decide (c = c') && decide (d = d')
  | .fn f n fs, .fn f' n' fs' => decide (f = f') && decide (n = n') && sameL fs fs'
  | _, _ => false
def sameL : List D → List D → Bool
  | [], [] => true
  | a :: l, b :: l' => D.same a b && sameL l l'
  | _, _ => false
end
/-- What an operation that turns nothing gave, and out of what. -/
structure Rec where
  o : ROp
  s : List D
  d : D
/-- It gives the same wherever the order may put it among those that turn something. -/
def Rec.ok (call : FuncId → List D → Hp → Option (D × Hp)) (hs : List Hp) (r : Rec) : Bool :=
  (List.range hs.length).all fun j =>
    if r.o.lo ≤ j && j ≤ r.o.hi then
      match hs[j]? with
      | some h => match r.o.op.run call r.s h with
        | some (d', _) => D.same r.d d'
        | none => false
      | none => false
    else true
/-- Does it give the same whatever the objects are? -/
def RO.free : RO → Bool
  | .mv _ | .pick _ _ _ | .nck _ | .bin _ _ _ | .eq _ _ _ _ | .un _ _ | .cvi _ _ | .cvs _ | .sls _ _ _ | .fa _ _ _ | .fld _ _ _ _ | .ia _ _ _ | .ixS _ _ | .ext _ _ | .cap _ | .mm _ _ | .build _ _ _ | .mkf _ _ _ => true
  | .len _ _ => true
  | .box false _ => true
  | .bsl false _ _ _ => true
  | .s2b false _ => true
  | .msl false _ _ _ _ _ => true
  | _ => false
/-- Need it not be noted? -/
def noRec (o : ROp) (n : Nat) : Bool := o.op.free || (o.lo + 1 == n && o.hi + 1 == n)
def drawRun (call : FuncId → List D → Hp → Option (D × Hp)) : List ROp → St → List Hp → List Rec → Option St
  | [], st, hs, rs => if rs.all (Rec.ok call hs) then some st else none
  | o :: r, st, hs, rs =>
    if o.wanted st.s then
      match o.op.run call st.s st.h with
      | some (d, h') =>
        if o.wr then drawRun call r { s := putD st.s o.dst d, h := h' } (hs ++ [h']) rs
        else drawRun call r { s := putD st.s o.dst d, h := st.h } hs (if noRec o hs.length then rs else ⟨o, st.s, d⟩ :: rs)
      | none => none
    else drawRun call r { st with s := putD st.s o.dst und } (if o.wr then hs ++ [st.h] else hs) rs

inductive Ex where
  | nrm
  | ex (id : Nat)
  | ret
  deriving DecidableEq

def loopN (f : St → Option (Ex × St)) : Nat → St → Option (Ex × St)
  | 0, _ => none
  | n + 1, st => match f st with
    | some (.nrm, st') => loopN f n st'
    | r => r
def RC.run (call : FuncId → List D → Hp → Option (D × Hp)) (n : Nat) : RC → St → Option (Ex × St)
  | .skip, st => some (.nrm, st)
  | .reg ops, st => match regRun call ops st with
    | some st' => some (.nrm, st')
    | none => none
  | .draw pre ops, st => match regRun call pre st with
    | some st1 => match drawRun call ops st1 [st1.h] [] with
      | some st' => some (.nrm, st')
      | none => none
    | none => none
  | .seq a b, st => match a.run call n st with
    | some (.nrm, st') => b.run call n st'
    | r => r
  | .cond c a b, st => match c.ev st.s with
    | .lit (.bool t) => if t then a.run call n st else b.run call n st
    | _ => none
  | .block id b, st => match b.run call n st with
    | some (.ex i, st') => if i = id then some (.nrm, st') else some (.ex i, st')
    | r => r
  | .loop b, st => loopN (b.run call n) n st
  | .exit id, st => some (.ex id, st)
  | .ret, st => some (.ret, st)

def resOf (st : St) : List RRes → Option (List D)
  | [] => some []
  | .t n :: r => match resOf st r with
    | some l => if (st.s.getD n und).isTup then none else some (st.s.getD n und :: l)
    | none => none
  | .cell n ag k :: r => match loadAt st.h (st.s.getD n und), resOf st r with
    | some d, some l => if d.fits ag k then some (d :: l) else none
    | _, _ => none
def tupOf : List D → D
  | [d] => d
  | l => .tup l
/-- The body's run: the results and the objects. -/
def bodyRun (call : FuncId → List D → Hp → Option (D × Hp)) (n : Nat) (f : RFn) (args : List D) (h : Hp) : Option (List D × Hp) :=
  match f.body.run call n { s := args ++ List.replicate (f.ntmps - args.length) und, h } with
  | some (.nrm, st) | some (.ret, st) => match resOf st f.results with
    | some l => some (l, st.h)
    | none => none
  | _ => none
mutual
/-- Numbers, bools, texts, and records of such. -/
def isLit : D → Bool
  | .lit _ => true
  | .agg _ fs => isLitL fs
  | _ => false
def isLitL : List D → Bool
  | [] => true
  | d :: ds => isLit d && isLitL ds
end
/-- Results of a call that has objects of its own, as the caller takes them. -/
def handBack (own : Bool) (h h' : Hp) (l : List D) : Option (D × Hp) :=
  match own, l with
  | true, .mo es id ver 0 len tg :: r =>
    match h'[id]? with
    | some ob =>
      if ver = ob.ver ∧ ob.es = es ∧ len = ob.xs.length ∧ isLitL r ∧ (flatL ob.xs || ob.frz || !(reach h' (fzDepth + 1) ob.xs).contains id) = true then
        match optL (tell h') ob.xs with
        | some xs => some (tupOf (.mo es h.length 0 0 len tg :: r), h ++ [{ es, xs, ver := 0, minv := 0, frz := ob.frz, fix := false }])
        | none => none
      else none
    | none => none
  | _, l => match optL (tell h') l with
    | some l' => some (tupOf l', h)
    | none => none
abbrev Prim := FuncId → List D → Hp → Option (D × Hp)
def axFn (F : FuncId → Option RFn) (R : Prim) : Nat → FuncId → List D → Hp → Option (D × Hp)
  | 0, _, _, _ => none
  | n + 1, g, args, h =>
    match F g with
    | none => R g args h
    | some f =>
      match f.mode with
      | .eff => match bodyRun (axFn F R n) n f args h with
        | some (l, h') => some (tupOf l, h')
        | none => none
      | .pure scal own =>
        match optL (tell h) args with
        | none => none
        | some args' =>
          match bodyRun (axFn F R n) n f args' [] with
          | none => none
          | some (l, h') =>
            let h0 := if scal || flatL args then h else frzIds h (reach h (fzDepth + 1) args)
            if scal then (if isLitL l then some (tupOf l, h0) else none) else handBack own h0 h' l
end Go.Rex
