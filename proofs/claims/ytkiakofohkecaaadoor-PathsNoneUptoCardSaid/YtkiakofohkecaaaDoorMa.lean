/- The framework, part 1: what one operation does, seen on the heap alone, and that the model does just that. No condition. -/
import Derived.WalkKit
import Derived.KernelRfl
namespace Go.Fw
open Go

abbrev Hp := Array Obj

def bnd {α : Type} (x : Option α) (K : α → Prop) : Prop := ∃ a, x = some a ∧ K a

def same (w w' : World) : Prop := w'.os = w.os ∧ w'.tape = w.tape ∧ w'.output = w.output
theorem same.refl (w : World) : same w w := ⟨rfl, rfl, rfl⟩
theorem same.trans {a b c : World} (h : same a b) (k : same b c) : same a c := ⟨k.1.trans h.1, k.2.1.trans h.2.1, k.2.2.trans h.2.2⟩

/-- A call, seen on the heap alone. -/
def CallsH (P : Program) (f : FuncId) (args : Array Value) (h : Hp) (R : Value → Hp → Prop) : Prop :=
  ∀ w, w.heap = h → Calls P f args w fun e w' => ∃ v, e = .returned v ∧ same w w' ∧ R v w'.heap

theorem CallsH.mono {P : Program} {f : FuncId} {args : Array Value} {h : Hp} {R R' : Value → Hp → Prop} (c : CallsH P f args h R) (hr : ∀ v h', R v h' → R' v h') : CallsH P f args h R' :=
  fun w hw => (c w hw).mono fun _ _ ⟨v, he, hs, r⟩ => ⟨v, he, hs, hr _ _ r⟩

def prS {α : Type} (P : Program) (s : Sem α) (K : α → Prop) : Prop := ∃ v, (∀ w, s.run P w = .ok v w) ∧ K v
def rdS {α : Type} (P : Program) (s : Sem α) (h : Hp) (K : α → Prop) : Prop := ∃ v, (∀ w, w.heap = h → s.run P w = .ok v w) ∧ K v
def efS {α : Type} (P : Program) (s : Sem α) (h : Hp) (K : α → Hp → Prop) : Prop :=
  ∀ w, w.heap = h → ∃ v w', s.run P w = .ok v w' ∧ same w w' ∧ K v w'.heap

/-- The temporaries. -/
abbrev Env := Nat → Value
def upd (e : Env) (d : Nat) (v : Value) : Env := fun t => bif Nat.beq t d then v else e t
def ev (e : Env) : Operand → Value
  | .tmp t => e t
  | .const v => v
  | .global g => .pointer (some ⟨g, 0, none⟩)
  | .func f => .func (.func f) #[] #[]

def asB : Value → Option Bool | .bool b => some b | _ => none
def isB (v : Value) (b : Bool) : Bool := match v with | .bool c => c == b | _ => false

def nilE : Value → Option Value
  | .pointer none => none
  | .nilIface => none
  | .nilFunc => none
  | .func (.method _) _ _ => none
  | x => some x

def cmpE (op : BinOp) (lt eq : Bool) : Option Value :=
  match op with
  | .eql => some (.bool eq) | .neq => some (.bool !eq) | .lss => some (.bool lt) | .leq => some (.bool (lt || eq))
  | .gtr => some (.bool !(lt || eq)) | .geq => some (.bool !lt) | _ => none

def intE (op : BinOp) (k : IntKind) (a b : Int) : Option Value :=
  match op with
  | .add => some (.int k (k.wrap (a + b)))
  | .sub => some (.int k (k.wrap (a - b)))
  | .mul => some (.int k (k.wrap (a * b)))
  | .quo => if b = 0 then none else some (.int k (k.wrap (a.tdiv b)))
  | .rem => if b = 0 then none else some (.int k (a.tmod b))
  | .and => some (.int k (k.wrap (BitVec.ofInt k.bits a &&& BitVec.ofInt k.bits b).toNat))
  | .or => some (.int k (k.wrap (BitVec.ofInt k.bits a ||| BitVec.ofInt k.bits b).toNat))
  | .xor => some (.int k (k.wrap (BitVec.ofInt k.bits a ^^^ BitVec.ofInt k.bits b).toNat))
  | .andNot => some (.int k (k.wrap (BitVec.ofInt k.bits a &&& ~~~(BitVec.ofInt k.bits b)).toNat))
  | .eql => some (.bool (a == b))
  | .neq => some (.bool (a != b))
  | .lss => some (.bool (a < b))
  | .leq => some (.bool (a ≤ b))
  | .gtr => some (.bool (a > b))
  | .geq => some (.bool (a ≥ b))
  | .shl => if b < 0 then none else some (.int k (k.wrap (a * 2 ^ min b.toNat k.bits)))
  | .shr => if b < 0 then none else some (.int k (a.fdiv (2 ^ min b.toNat k.bits)))

def strE (op : BinOp) (x y : ByteArray) : Option Value :=
  match op with
  | .add => if ((x.size + y.size : Nat) : Int) > IntKind.i64.max then none else some (.string (x ++ y))
  | op => cmpE op (Op.bytesLess x.toList y.toList) (x.toList == y.toList)

/-- Operators on whole numbers and strings. -/
def binE (op : BinOp) (x y : Value) : Option Value :=
  match x, y with
  | .int k a, .int k' b => (match op with | .shl | .shr => intE op k a b | _ => if k = k' then intE op k a b else none)
  | .string a, .string b => strE op a b
  | _, _ => none
def binB (op : BinOp) (x y : Value) : Option Value :=
  match x, y with
  | .bool a, .bool b => (match op with | .eql => some (.bool (a == b)) | .neq => some (.bool !(a == b)) | _ => none)
  | _, _ => none

/-- == against nil, by the kind of type: pointer, slice, map, function, interface. -/
inductive NilK where | p | s | m | f | i
def nilEq (k : NilK) (x y : Value) : Option Bool :=
  match k, x, y with
  | .p, .pointer none, .pointer b => some b.isNone
  | .p, .pointer (some _), .pointer none => some false
  | .f, .nilFunc, .nilFunc => some true
  | .f, .nilFunc, .func _ _ _ => some false
  | .f, .func _ _ _, .nilFunc => some false
  | .s, .slice none _ _, .slice b _ _ => some b.isNone
  | .s, .slice (some _) _ _, .slice none _ _ => some false
  | .m, .map none, .map b => some b.isNone
  | .m, .map (some _), .map none => some false
  | .i, .nilIface, .nilIface => some true
  | .i, .nilIface, .iface _ _ => some false
  | .i, .iface _ _, .nilIface => some false
  | _, _, _ => none
def nilBin (k : NilK) (op : BinOp) (x y : Value) : Option Value :=
  match op with
  | .eql => (nilEq k x y).map fun b => .bool b
  | .neq => (nilEq k x y).map fun b => .bool !b
  | _ => none

def unE (op : UnOp) (x : Value) : Option Value :=
  match op, x with
  | .neg, .int k n => some (.int k (k.wrap (0 - n)))
  | .not, .bool b => some (.bool !b)
  | _, _ => none

def fldE (off : Nat) (v : Value) : Option Value :=
  match v with | .pointer (some ⟨b, o, none⟩) => some (.pointer (some ⟨b, o + off, none⟩)) | _ => none

def idxE (sz : Nat) (x i : Value) : Option Value :=
  match x, i with
  | .slice (some ⟨b, o, none⟩) len _, .int _ n => if 0 ≤ n ∧ n < len then some (.pointer (some ⟨b, o + n.toNat * sz, none⟩)) else none
  | _, _ => none
def idxA (len sz : Nat) (x i : Value) : Option Value :=
  match x, i with
  | .pointer (some ⟨b, o, none⟩), .int _ n => if 0 ≤ n ∧ n < len then some (.pointer (some ⟨b, o + n.toNat * sz, none⟩)) else none
  | _, _ => none

def partE (k : Option Nat) (off : Nat) (cs : Array Value) : Option Value :=
  match k with | some n => some (.agg (cs.extract off (off + n))) | none => cs[off]?
def aggE : Value → Option (Array Value) | .agg cs => some cs | _ => none
def fieldE (k : Option Nat) (off : Nat) (x : Value) : Option Value :=
  match x with | .agg cs => partE k off cs | _ => none
def idxV (kd : Option Nat) (len n : Nat) (x i : Value) : Option Value :=
  match x, i with
  | .agg cs, .int _ k => if 0 ≤ k ∧ k < len then partE kd (k.toNat * n) cs else none
  | _, _ => none
def idxS (x i : Value) : Option Value :=
  match x, i with
  | .string s, .int _ k => if 0 ≤ k then (s[k.toNat]?).map fun b => .int .u8 b.toNat else none
  | _, _ => none

def bndE (y : Nat) : Value → Option Nat
  | .int _ i => if 0 ≤ i ∧ i ≤ y then some i.toNat else none
  | _ => none
def hiE (len cap : Nat) : Option Value → Option Nat | some v => bndE cap v | none => some len
def loE (h : Nat) : Option Value → Option Nat | some v => bndE h v | none => some 0
def sliceE (sz : Nat) (x : Value) (lo hi : Option Value) : Option Value :=
  match x with
  | .slice a len cap => (hiE len cap hi).bind fun h => (loE h lo).bind fun l => some (.slice (if cap = l then a else a.map (·.add (l * sz))) (h - l) (cap - l))
  | _ => none
def sliceS (x : Value) (lo hi : Option Value) : Option Value :=
  match x with
  | .string s => (hiE s.size s.size hi).bind fun h => (loE h lo).bind fun l => some (.string (s.extract l h))
  | _ => none

def extE (i : Nat) : Value → Option Value | .tuple vs => vs[i]? | _ => none
def cvI (k : IntKind) : Value → Option Value | .int _ n => some (.int k (k.wrap n)) | _ => none
def lenE : Value → Option Value | .slice _ n _ => some (goInt n) | _ => none
def lenS : Value → Option Value | .string s => some (goInt s.size) | _ => none

def fillS (pl : List (Nat × Nat)) (zero : Array Value) (parts : List (Nat × Value)) : Option (Array Value) := Instr.fill (pl[·]?) zero parts
def fillR (size : Nat) (zero : Array Value) (parts : List (Nat × Value)) : Option (Array Value) := Instr.fill (fun i => some (i * size, size)) zero parts

def ldS (h : Hp) : Value → Option Value
  | .pointer (some ⟨b, o, none⟩) => (match h[b]? with | some (.cells c _ _) => c[o]? | _ => none)
  | _ => none
def ldA (n : Nat) (h : Hp) : Value → Option Value
  | .pointer (some ⟨b, o, none⟩) => (match h[b]? with | some (.cells c _ _) => if o + n ≤ c.size then some (.agg (c.extract o (o + n))) else none | _ => none)
  | _ => none

def splice (c : Array Value) (o : Nat) (vs : List Value) : Array Value := (c.toList.take o ++ vs ++ c.toList.drop (o + vs.length)).toArray
def stE (n : Nat) (h : Hp) (a v : Value) : Option Hp :=
  match a with
  | .pointer (some ⟨b, o, none⟩) =>
    (match h[b]? with
    | some (.cells c E (0, 0)) => if v.cells.size = n ∧ o + n ≤ c.size ∧ v.cells.toList.all Value.oneCell' = true then some (h.setIfInBounds b (.cells (splice c o v.cells.toList) E (0, 0))) else none
    | _ => none)
  | _ => none

def szO (P : Program) (t : TypeId) : Option Nat := match P.info? t with | some i => some i.size | none => none
/-- How a variable of the type is read: as one cell (none), or as a row of so many. -/
def ldK (P : Program) (t : TypeId) : Option (Option Nat) :=
  match P.underlying t with
  | none => none
  | some (.struct _) => (match szO P t with | some n => some (some n) | none => none)
  | some (.array _ _) => (match szO P t with | some n => some (some n) | none => none)
  | some _ => some none
def zeroC (P : Program) (t : TypeId) : Option (Array Value) := match P.info? t with | some i => i.zero.map (·.cells) | none => none

/-- May function f be called: it has a body, and is none that the model runs by itself. -/
def okF (P : Program) (f : FuncId) : Bool :=
  match P.funcs[f]? with
  | some fn => !(fn.name == "runtime.NumGoroutine") && !fn.body.isNone
  | none => false

def mapA (ρ : Operand → Value) (xs : Array Operand) : Array Value := (xs.toList.map ρ).toArray
theorem mapA_eq (ρ : Operand → Value) (xs : Array Operand) : mapA ρ xs = xs.map ρ := by rw [mapA, ← Array.toList_map]
def cat3 (a b c : Array Value) : Array Value := (a.toList ++ (b.toList ++ c.toList)).toArray

def callV (P : Program) (f : Value) (args : Array Value) (h : Hp) (K : Value → Hp → Prop) : Prop :=
  match f with
  | .func (.func g) first cap => (match okF P g with | true => CallsH P g (cat3 first args cap) h K | false => False)
  | _ => False

inductive Res where
  | triv (v : Value)
  | pure (x : Option Value)
  | prs (s : Sem Value)
  | rd (f : Hp → Option Value)
  | rds (s : Sem Value)
  | al (c : Array Value) (E : TypeId) (mk : Nat → Value)
  | alo (c : Option (Array Value)) (E : TypeId) (mk : Nat → Value)
  | mp
  | eff (f : Hp → (Value → Hp → Prop) → Prop)
  | bad

def ptr0 (b : Nat) : Value := .pointer (some ⟨b, 0, none⟩)

/-- A new block. -/
def nw (h : Hp) (c : Array Value) (E : TypeId) (mk : Nat → Value) (K : Value → Hp → Prop) : Prop := K (mk h.size) (h.push (.cells c E (0, 0)))
def nwM (h : Hp) (K : Value → Hp → Prop) : Prop := K (.map (some h.size)) (h.push (.map #[] 0))
def guardT (g : Bool) (F : (Value → Hp → Prop) → Prop) (h : Hp) (K : Value → Hp → Prop) : Prop := (g = true → F K) ∧ (g = false → K undef h)
/-- A call through an interface value. -/
def invT (P : Program) (r : Value) (m : String) (args : Array Value) (h : Hp) (K : Value → Hp → Prop) : Prop :=
  ∀ w, w.heap = h → ∃ f as w', (callMethod r m args).run P w = .ok (.enter f as) w' ∧ same w w' ∧ CallsH P f as w'.heap K

def Res.run (P : Program) (r : Res) (h : Hp) (K : Value → Hp → Prop) : Prop :=
  match r with
  | .triv v => K v h
  | .pure x => bnd x fun v => K v h
  | .prs s => prS P s fun v => K v h
  | .rd f => bnd (f h) fun v => K v h
  | .rds s => rdS P s h fun v => K v h
  | .al c E mk => nw h c E mk K
  | .alo c E mk => bnd c fun c => nw h c E mk K
  | .mp => nwM h K
  | .eff f => f h K
  | .bad => False

def Res.runG (P : Program) (g : Bool) (r : Res) (h : Hp) (K : Value → Hp → Prop) : Prop :=
  match r with
  | .triv v => K (bif g then v else undef) h
  | .pure x => bnd (bif g then x else some undef) fun v => K v h
  | .rd f => bnd (bif g then f h else some undef) fun v => K v h
  | r => guardT g (r.run P h) h K

/-- What a conversion, an operator or an assertion of another kind does, by the model's own words. -/
def binS (op : BinOp) (t : TypeId) (x y : Operand) (a b : Value) : Sem Value := do eqGuard op t x y a b; binOp op t a b

def isConst : Operand → Bool | .const _ => true | _ => false

def resBin (P : Program) (op : BinOp) (t : TypeId) (x y : Operand) (a b : Value) : Res :=
  match P.underlying t with
  | some (.int _) | some .string => .pure (binE op a b)
  | some .bool => .pure (binB op a b)
  | some (.pointer _) => .pure (nilBin .p op a b)
  | some (.slice _) => .pure (nilBin .s op a b)
  | some (.map _ _) => .pure (nilBin .m op a b)
  | some (.func _ _ _) => .pure (nilBin .f op a b)
  | some (.interface _) => (match isConst x || isConst y with | true => .pure (nilBin .i op a b) | false => .prs (binS op t x y a b))
  | _ => .prs (binS op t x y a b)

def places (P : Program) : List Field → Option (List (Nat × Nat))
  | [] => some []
  | f :: r => (match szO P f.type, places P r with | some n, some l => some ((f.offset, n) :: l) | _, _ => none)
def resBuild (P : Program) (t : TypeId) (parts : List (Nat × Value)) : Res :=
  match zeroC P t with
  | none => .bad
  | some z => (match P.underlying t with
    | some (.struct fs) => (match places P fs.toList with | some pl => .pure ((fillS pl z parts).map .agg) | none => .bad)
    | some (.array _ elem) => (match szO P elem with | some n => .pure ((fillR n z parts).map .agg) | none => .bad)
    | _ => .bad)

/-- The cells of a row of so many zero elements. -/
def zeros (z : Array Value) (n : Nat) : Array Value := ((List.range n).map fun i => z.toList.getD (i % z.size) undef).toArray
def resBuildSlice (P : Program) (t : TypeId) (len : Nat) (parts : List (Nat × Value)) : Res :=
  match P.underlying t with
  | some (.slice elem) =>
    (match zeroC P elem, szO P elem with
    | some z, some n => (match Nat.ble (len * n) 16777216 && (Nat.beq (len * n) 0 || Nat.blt 0 z.size) with | true => .alo (fillR n (zeros (bif Nat.beq (len * n) 0 then #[] else z) (len * n)) parts) elem (fun b => .slice (some ⟨b, 0, none⟩) len len) | false => .bad)
    | _, _ => .bad)
  | _ => .bad

def resField (P : Program) (s : TypeId) (x : Value) (f : Nat) : Res :=
  match P.underlying s with
  | some (.struct fs) => (match fs[f]? with | some f => (match szO P f.type with | some (_ + 1) => .pure (fldE f.offset x) | _ => .bad) | none => .bad)
  | _ => .bad
def resFieldV (P : Program) (s : TypeId) (x : Value) (f : Nat) : Res :=
  match P.underlying s with
  | some (.struct fs) => (match fs[f]? with | some f => (match ldK P f.type with | some k => .pure (fieldE k f.offset x) | none => .bad) | none => .bad)
  | _ => .bad
def resIndexA (P : Program) (t : TypeId) (x i : Value) : Res :=
  match P.underlying t with
  | some (.slice elem) => (match szO P elem with | some n => .pure (idxE n x i) | none => .bad)
  | some (.array len elem) => (match szO P elem with | some n => .pure (idxA len n x i) | none => .bad)
  | _ => .bad
def resIndexV (P : Program) (t : TypeId) (x i : Value) : Res :=
  match P.underlying t with
  | some (.array len elem) => (match szO P elem, ldK P elem with | some n, some k => .pure (idxV k len n x i) | _, _ => .bad)
  | some .string => .pure (idxS x i)
  | _ => .bad
def resSlice (P : Program) (t : TypeId) (x : Value) (lo hi mx : Option Value) : Res :=
  match mx with
  | some _ => .prs (Instr.sliceAt t x lo hi mx)
  | none => (match P.underlying t with
    | some (.slice elem) => (match szO P elem with | some n => .pure (sliceE n x lo hi) | none => .bad)
    | some .string => .pure (sliceS x lo hi)
    | _ => .prs (Instr.sliceAt t x lo hi none))
def resConv (P : Program) (s d : TypeId) (x : Value) : Res :=
  match P.underlying s, P.underlying d with
  | some (.int _), some (.int k) => .pure (cvI k x)
  | _, _ => .eff fun h K => efS P (convert s d x) h K
def resLen (P : Program) (t : TypeId) (x : Value) (c : Sem Value) : Res :=
  match P.underlying t with
  | some (.slice _) => .pure (lenE x)
  | some .string => .pure (lenS x)
  | some (.array n _) => .triv (goInt n)
  | _ => .rds c

def resCall (P : Program) (c : Call) (ty : TypeId) (ρ : Operand → Value) : Res :=
  match c.callee with
  | .value f => .eff (callV P (ρ f) (mapA ρ c.args))
  | .invoke r m => .eff fun h K => invT P (ρ r) m (mapA ρ c.args) h K
  | .builtin b =>
    match b with
    | .len => (match c.argTypes[0]?, c.args[0]? with | some t, some x => resLen P t (ρ x) (Builtin.len_ c.argTypes ty (mapA ρ c.args)) | _, _ => .bad)
    | .append => .eff fun h K => efS P (Builtin.append_ c.argTypes ty (mapA ρ c.args)) h K
    | .copy => .eff fun h K => efS P (Builtin.copy_ c.argTypes ty (mapA ρ c.args)) h K
    | .delete => .eff fun h K => efS P (Builtin.delete_ c.argTypes ty (mapA ρ c.args)) h K
    | .clear => .eff fun h K => efS P (Builtin.clear_ c.argTypes ty (mapA ρ c.args)) h K
    | .cap => .prs (Builtin.cap_ c.argTypes ty (mapA ρ c.args))
    | .min => .prs (Builtin.min_ c.argTypes ty (mapA ρ c.args))
    | .max => .prs (Builtin.max_ c.argTypes ty (mapA ρ c.args))
    | _ => .bad

def effU (P : Program) (s : Sem Unit) : Res := .eff fun h K => efS P s h fun _ h' => K undef h'

def res (P : Program) (o : Oper) (ρ : Operand → Value) : Res :=
  match o.op with
  | .move x => .triv (ρ x)
  | .assign x => .triv (ρ x)
  | .pick c a b => .pure ((asB (ρ c)).map fun t => bif t then ρ a else ρ b)
  | .alloc t => (match zeroC P t with | some z => .al z t ptr0 | none => .bad)
  | .box t x => .al (ρ x).cells t ptr0
  | .build t ps => resBuild P t (ps.toList.map fun (i, x) => (i, ρ x))
  | .buildSlice t n ps => resBuildSlice P t n (ps.toList.map fun (i, x) => (i, ρ x))
  | .load t a => (match ldK P t with | some (some n) => .rd fun h => ldA n h (ρ a) | some none => .rd fun h => ldS h (ρ a) | none => .bad)
  | .store t a x => (match szO P t with | some n => .eff fun h K => bnd (stE n h (ρ a) (ρ x)) fun h' => K undef h' | none => .bad)
  | .nilCheck x => .pure (nilE (ρ x))
  | .binOp op t x y _ => resBin P op t x y (ρ x) (ρ y)
  | .unOp op _ x => .pure (unE op (ρ x))
  | .convert s d x => resConv P s d (ρ x)
  | .makeInterface t x => .prs (Instr.makeInterface t (ρ x))
  | .makeFunc fn a b => .triv (.func fn (mapA ρ a) (mapA ρ b))
  | .makeMap _ none => .mp
  | .makeMap t r => .eff fun h K => efS P (Instr.makeMap t (r.map ρ)) h K
  | .makeSlice t l c => .eff fun h K => efS P (Instr.makeSlice t (ρ l) (ρ c)) h K
  | .slice t x lo hi mx => resSlice P t (ρ x) (lo.map ρ) (hi.map ρ) (mx.map ρ)
  | .fieldAddr s x f => resField P s (ρ x) f
  | .field s x f => resFieldV P s (ρ x) f
  | .indexAddr t x i => resIndexA P t (ρ x) (ρ i)
  | .index t x i => resIndexV P t (ρ x) (ρ i)
  | .lookup t x i ok => .rds (Instr.lookup t (ρ x) (ρ i) ok)
  | .mapUpdate t m k x => effU P (Instr.mapUpdate t (ρ m) (ρ k) (ρ x))
  | .insert t m k x => effU P (Instr.mapUpdate t (ρ m) (ρ k) (ρ x))
  | .mapEntry t m k => .eff fun h K => efS P (Instr.mapEntry t (ρ m) (ρ k)) h K
  | .entryStore t m s x => effU P (Instr.entryStore t (ρ m) (ρ s) (ρ x))
  | .range t x => .eff fun h K => efS P (Instr.range t (ρ x)) h K
  | .next it b => .eff fun h K => efS P (Instr.next (ρ it) b o.type) h K
  | .entry it => .rds (Instr.entry (ρ it))
  | .typeAssert x t a ok => .prs (Instr.typeAssert (ρ x) t a ok)
  | .extract t i => .pure (extE i (ρ t))
  | .call c => resCall P c o.type ρ
  | _ => .bad

end Go.Fw

/- The framework, part 2: each operation, seen on the heap alone, is what the model does. No condition. -/
namespace Go.Fw
open Go

/-- What is owed of a run of one operation. -/
def Good (K : Value → Hp → Prop) (w : World) : Result Next → Prop
  | .ok (.value v) w' => same w w' ∧ K v w'.heap
  | .ok .skip w' => same w w' ∧ K undef w'.heap
  | _ => False

section
variable {P : Program}

theorem andThen_some {α β : Type} {r : Result α} {a : α} {w : World} {f : α → World → Result β} (h : r = .ok a w) : r.andThen f = f a w := by rw [h]; rfl

theorem run_szO {t : TypeId} {n : Nat} (h : szO P t = some n) (w : World) : (sizeOf t).run P w = .ok n w := by
  unfold szO at h
  cases hi : P.info? t with
  | none => simp [hi] at h
  | some i => simp [hi] at h; simp [sizeOf, typeInfo, hi, h]

theorem run_zero {t : TypeId} {z : Array Value} (h : zeroC P t = some z) : ∃ v, v.cells = z ∧ ∀ w, (zeroValue t).run P w = .ok v w := by
  unfold zeroC at h
  cases hi : P.info? t with
  | none => simp [hi] at h
  | some i =>
    cases hz : i.zero with
    | none => simp [hi, hz] at h
    | some v => simp [hi, hz] at h; exact ⟨v, h, fun w => by simp [zeroValue, typeInfo, hi, hz]⟩

theorem ldK_none {t : TypeId} (h : ldK P t = some none) (w : World) : (isAgg t).run P w = .ok false w := by
  unfold ldK at h
  cases hu : P.underlying t with
  | none => simp [hu] at h
  | some d =>
    cases d <;> simp only [hu] at h <;> first
      | (simp [isAgg, run_underlying hu]; done)
      | (split at h <;> simp at h)
theorem ldK_some {t : TypeId} {n : Nat} (h : ldK P t = some (some n)) (w : World) : (isAgg t).run P w = .ok true w ∧ (sizeOf t).run P w = .ok n w := by
  unfold ldK at h
  cases hu : P.underlying t with
  | none => simp [hu] at h
  | some d =>
    cases d <;> simp only [hu] at h <;> first
      | (simp at h; done)
      | (split at h
         · rename_i m hm
           obtain rfl : m = n := by simpa using h
           exact ⟨by simp [isAgg, run_underlying hu], run_szO hm w⟩
         · simp at h)

theorem add_none (b o n : Nat) : (⟨b, o, none⟩ : Addr).add n = ⟨b, o + n, none⟩ := by unfold Addr.add; split <;> simp_all

theorem run_ldS {t : TypeId} (h : ldK P t = some none) {w : World} {a x : Value} (hx : ldS w.heap a = some x) : (Instr.loadAt t a).run P w = .ok x w := by
  unfold ldS at hx
  split at hx
  · rename_i b o
    split at hx
    · rename_i c E fz hb
      have hc : w.cell? ⟨b, o, none⟩ = some x := by simp [World.cell?, hb]; simpa using hx
      simp [Instr.loadAt, Instr.sureAddr, loadVar, ldK_none h, hc]
    · simp at hx
  · simp at hx

theorem cells_extract {c : Array Value} {o n : Nat} (h : o + n ≤ c.size) : (c.extract o (o + n)).toList.length = n := by simp; omega

theorem run_ldA {t : TypeId} {n : Nat} (h : ldK P t = some (some n)) {w : World} {a x : Value} (hx : ldA n w.heap a = some x) : (Instr.loadAt t a).run P w = .ok x w := by
  unfold ldA at hx
  split at hx
  · rename_i b o
    split at hx
    · rename_i c E fz hb
      split at hx
      · rename_i hle
        have hl := run_loadCells_list (P := P) w ⟨b, o, none⟩ (c.extract o (o + n)).toList (fun j v hv => by
          rw [add_none]
          have hj : j < (c.extract o (o + n)).toList.length := (List.getElem?_eq_some_iff.1 hv).1
          rw [cells_extract hle] at hj
          simp only [World.cell?, hb, Option.isSome_none, Bool.false_eq_true, if_false]
          rw [← hv, Array.getElem?_toList, Array.getElem?_extract, if_pos (by omega)])
        rw [cells_extract hle] at hl
        obtain rfl : Value.agg (c.extract o (o + n)) = x := by simpa using hx
        simp only [Array.toArray_toList] at hl
        simp [Instr.loadAt, Instr.sureAddr, loadVar, (ldK_some h w).1, (ldK_some h w).2, hl]
      · simp at hx
    · simp at hx
  · simp at hx

theorem setRow_heap_eq {w : World} {b : Nat} {c cs : Array Value} {E : TypeId} (hb : w.heap[b]? = some (.cells c E (0, 0))) :
    (w.setRow b cs).heap = w.heap.setIfInBounds b (.cells cs E (0, 0)) := by
  apply Array.ext_getElem?
  intro i
  simp only [World.setRow, Array.getElem?_modify, Array.getElem?_setIfInBounds]
  by_cases hi : b = i
  · subst hi
    have : b < w.heap.size := (Array.getElem?_eq_some_iff.1 hb).1
    simp only [if_true, if_pos this, hb, Option.map_some]
  · simp [hi]

theorem run_stE {t : TypeId} {n : Nat} (h : szO P t = some n) {w : World} {a v : Value} {h' : Hp} (hx : stE n w.heap a v = some h') :
    ∃ w', (Instr.storeAt t a v).run P w = .ok () w' ∧ same w w' ∧ w'.heap = h' := by
  unfold stE at hx
  split at hx
  · rename_i b o
    split at hx
    · rename_i c E hb
      split at hx
      · rename_i hc
        obtain ⟨h1, h2, h3⟩ := hc
        obtain rfl := (Option.some.inj hx)
        have hst := run_storeCells_at P b o E v.cells.toList 0 c w hb (by simp; omega) (List.all_eq_true.1 h3)
        refine ⟨_, ?_, ?_, setRow_heap_eq hb⟩
        · simp only [Instr.storeAt, Instr.sureAddr, storeVar, Sem.run_bind, Sem.run_pure, Result.andThen_ok, run_szO h, h1, ne_eq, not_true_eq_false, if_false]
          simpa [splice] using hst
        · exact ⟨rfl, rfl, rfl⟩
      · simp at hx
    · simp at hx
  · simp at hx

theorem good_v {K : Value → Hp → Prop} {w w' : World} {s : Sem Value} {v : Value} (h : s.run P w = .ok v w') (hs : same w w') (hk : K v w'.heap) :
    Good K w ((do pure (.value (← s)) : Sem Next).run P w) := by
  simp only [Sem.run_bind, h, Result.andThen_ok, Sem.run_pure]; exact ⟨hs, hk⟩
theorem good_u {K : Value → Hp → Prop} {w w' : World} {s : Sem Unit} (h : s.run P w = .ok () w') (hs : same w w') (hk : K undef w'.heap) :
    Good K w ((do s; pure .skip : Sem Next).run P w) := by
  simp only [Sem.run_bind, h, Result.andThen_ok, Sem.run_pure]; exact ⟨hs, hk⟩

theorem good_prs {K : Value → Hp → Prop} {w : World} {s : Sem Value} (h : prS P s fun v => K v w.heap) : Good K w ((do pure (.value (← s)) : Sem Next).run P w) :=
  let ⟨_, hv, hk⟩ := h; good_v (hv w) (.refl w) hk
theorem good_rds {K : Value → Hp → Prop} {w : World} {s : Sem Value} (h : rdS P s w.heap fun v => K v w.heap) : Good K w ((do pure (.value (← s)) : Sem Next).run P w) :=
  let ⟨_, hv, hk⟩ := h; good_v (hv w rfl) (.refl w) hk
theorem good_efs {K : Value → Hp → Prop} {w : World} {s : Sem Value} (h : efS P s w.heap K) : Good K w ((do pure (.value (← s)) : Sem Next).run P w) :=
  let ⟨_, _, hr, hs, hk⟩ := h w rfl; good_v hr hs hk
theorem good_efu {K : Value → Hp → Prop} {w : World} {s : Sem Unit} (h : efS P s w.heap fun _ h' => K undef h') : Good K w ((do s; pure .skip : Sem Next).run P w) :=
  let ⟨_, _, hr, hs, hk⟩ := h w rfl; good_u hr hs hk

theorem run_binE {op : BinOp} {t : TypeId} {x y : Operand} {a b v : Value} (h : binE op a b = some v) (w : World) :
    (binS op t x y a b).run P w = .ok v w := by
  unfold binS
  unfold binE at h
  split at h
  · rename_i k n k' m
    cases op <;> simp only [intE] at h <;> first
      | (by_cases hk : k = k'
         · subst hk
           simp only [if_true] at h
           first
             | (obtain rfl := Option.some.inj h; simp [go_sem, Op.intArith, Op.intBits]; done)
             | (split at h
                · simp at h
                · rename_i hm; obtain rfl := Option.some.inj h; simp [go_sem, Op.intDiv, hm]; done)
         · simp [hk] at h)
      | (split at h
         · simp at h
         · rename_i hm; obtain rfl := Option.some.inj h; simp [go_sem, Op.shift, hm]; done)
  · rename_i s t'
    cases op <;> simp only [strE, cmpE] at h <;> first
      | (simp at h; done)
      | (obtain rfl := Option.some.inj h; simp only [eqGuard_at_string, Sem.run_bind, Sem.run_pure, Result.andThen_ok]; rfl)
      | (split at h
         · simp at h
         · rename_i hm
           obtain rfl := Option.some.inj h
           simp only [eqGuard_at_string, Sem.run_bind, Sem.run_pure, Result.andThen_ok]
           show (Op.stringOp .add s t').run P w = _
           unfold Op.stringOp
           rw [if_neg hm]
           rfl)
  · simp at h

theorem equal_of {t : TypeId} {x y : Value} {b : Bool} {w : World} (h : ∀ d, (Op.equalIn (d + 1) t x y).run P w = .ok b w) : (Op.equal t x y).run P w = .ok b w := h 9999

theorem run_eql_of {op : BinOp} {t : TypeId} {a b v : Value} {c : Bool} {w : World} (hop : op = .eql ∧ v = .bool c ∨ op = .neq ∧ v = .bool !c) (he : (Op.equal t a b).run P w = .ok c w)
    (hq : ∀ op, binOp op t a b = match op with | .eql => (do pure (.bool (← Op.equal t a b)) : Sem Value) | .neq => (do pure (.bool (!(← Op.equal t a b))) : Sem Value) | _ => binOp op t a b) :
    (binOp op t a b).run P w = .ok v w := by
  rcases hop with ⟨rfl, rfl⟩ | ⟨rfl, rfl⟩
  · rw [hq]; simp [he]
  · rw [hq]; simp [he]

theorem run_binB {op : BinOp} {t : TypeId} (hd : P.underlying t = some .bool) {x y : Operand} {a b v : Value} (h : binB op a b = some v) (w : World) :
    (binS op t x y a b).run P w = .ok v w := by
  unfold binS
  unfold binB at h
  split at h
  · rename_i c c'
    have he : (Op.equal t (.bool c) (.bool c')).run P w = .ok (c == c') w := equal_of fun d => by
      simp only [Op.equalIn, Sem.run_bind, run_underlying hd, Result.andThen_ok]
      rfl
    simp only [eqGuard_at_bool, Sem.run_bind, Sem.run_pure, Result.andThen_ok]
    refine run_eql_of (c := c == c') ?_ he (fun op => by cases op <;> rfl)
    cases op <;> simp only at h <;> first
      | (simp at h; done)
      | exact .inl ⟨rfl, (Option.some.inj h).symm⟩
      | exact .inr ⟨rfl, (Option.some.inj h).symm⟩
  · simp at h

def NilK.fits (k : NilK) (d : TypeDesc) : Prop :=
  match k, d with
  | .p, .pointer _ | .s, .slice _ | .m, .map _ _ | .f, .func _ _ _ | .i, .interface _ => True
  | _, _ => False

theorem run_nilBin {k : NilK} {op : BinOp} {t : TypeId} {d : TypeDesc} (hd : P.underlying t = some d) (hk : k.fits d) {x y : Operand} {a b v : Value} (hc : k = .i → (isConst x || isConst y) = true) (h : nilBin k op a b = some v) (w : World) :
    (binS op t x y a b).run P w = .ok v w := by
  obtain ⟨c, hn, hop⟩ : ∃ c, nilEq k a b = some c ∧ (op = .eql ∧ v = .bool c ∨ op = .neq ∧ v = .bool !c) := by
    unfold nilBin at h
    cases op <;> simp only at h <;> first
      | (simp at h; done)
      | (cases hn : nilEq k a b with
         | none => simp [hn] at h
         | some c => simp only [hn, Option.map_some] at h; first | exact ⟨c, rfl, .inl ⟨rfl, (Option.some.inj h).symm⟩⟩ | exact ⟨c, rfl, .inr ⟨rfl, (Option.some.inj h).symm⟩⟩)
  have hg : (eqGuard op t x y a b) = pure () := by
    unfold nilEq at hn
    split at hn <;> first
      | (rcases hop with ⟨rfl, _⟩ | ⟨rfl, _⟩ <;> rfl)
      | (simp at hn; done)
      | (have := hc rfl
         cases x <;> cases y <;> first
           | (simp [isConst] at this; done)
           | (rcases hop with ⟨rfl, _⟩ | ⟨rfl, _⟩ <;> rfl))
  have he : (Op.equal t a b).run P w = .ok c w := equal_of fun n => by
    unfold nilEq at hn
    split at hn <;> first
      | (simp at hn; done)
      | (cases d <;> first
          | exact hk.elim
          | (simp only [Op.equalIn, Sem.run_bind, run_underlying hd, Result.andThen_ok]
             obtain rfl := Option.some.inj hn
             rfl)
          | (rename_i o _
             cases o <;> (simp only [Op.equalIn, Sem.run_bind, run_underlying hd, Result.andThen_ok]
                          obtain rfl := Option.some.inj hn
                          rfl))
          | (rename_i o
             cases o <;> (simp only [Op.equalIn, Sem.run_bind, run_underlying hd, Result.andThen_ok]
                          obtain rfl := Option.some.inj hn
                          rfl)))
  unfold binS
  rw [hg]
  simp only [Sem.run_bind, Sem.run_pure, Result.andThen_ok]
  refine run_eql_of hop he (fun op => ?_)
  unfold nilEq at hn
  split at hn <;> first
    | (simp at hn; done)
    | (cases op <;> rfl)

end
end Go.Fw

/- The framework, part 3: each operation, seen on the heap alone, is what the model does (second half). No condition. -/
namespace Go.Fw
open Go

/-- What is owed of a run of one operation, a call of a Go function among them. -/
def Fine (P : Program) (K : Value → Hp → Prop) (w : World) : Result Next → Prop
  | .ok (.value v) w' => same w w' ∧ K v w'.heap
  | .ok .skip w' => same w w' ∧ K undef w'.heap
  | .ok (.enter f args) w' => same w w' ∧ CallsH P f args w'.heap K
  | _ => False

section
variable {P : Program} {K : Value → Hp → Prop} {w : World}

theorem Good.fine {r : Result Next} (h : Good K w r) : Fine P K w r := by
  unfold Good at h
  split at h <;> first | exact h | exact h.elim

theorem fine_val {s : Sem Value} {v : Value} (h : s.run P w = .ok v w) (hk : K v w.heap) : Fine P K w ((do pure (.value (← s)) : Sem Next).run P w) :=
  (good_v h (.refl w) hk).fine

theorem run_part {t : TypeId} {k : Option Nat} (h : ldK P t = some k) {cs : Array Value} {off : Nat} {v : Value} (hv : partE k off cs = some v) : (part t cs off).run P w = .ok v w := by
  unfold partE at hv
  cases k with
  | none => simp only at hv; simp [part, ldK_none h, hv]
  | some n => simp only [Option.some.injEq] at hv; simp [part, (ldK_some h w).1, (ldK_some h w).2, hv]

theorem run_asIntOf (k : IntKind) (n : Int) : (asIntOf (.int k n)).run P w = .ok (k, n) w := rfl

theorem run_idxE {t elem : TypeId} {n : Nat} (hu : P.underlying t = some (.slice elem)) (hn : szO P elem = some n) {x i v : Value} (h : idxE n x i = some v) : (Instr.indexAt t x i).run P w = .ok v w := by
  unfold idxE at h
  split at h
  · rename_i b o len cap k m
    split at h
    · rename_i hb
      obtain rfl := Option.some.inj h
      simp only [Instr.indexAt, Sem.run_bind, run_asIntOf, Result.andThen_ok, run_underlying hu, Sem.run_pure]
      rw [if_pos hb]
      simp only [Sem.run_bind, run_szO hn, Result.andThen_ok, Sem.run_pure, add_none]
    · simp at h
  · simp at h

theorem run_idxA {t elem : TypeId} {len n : Nat} (hu : P.underlying t = some (.array len elem)) (hn : szO P elem = some n) {x i v : Value} (h : idxA len n x i = some v) : (Instr.indexAt t x i).run P w = .ok v w := by
  unfold idxA at h
  split at h
  · rename_i b o k m
    split at h
    · rename_i hb
      obtain rfl := Option.some.inj h
      simp only [Instr.indexAt, Sem.run_bind, run_asIntOf, Result.andThen_ok, run_underlying hu, Sem.run_pure, Instr.sureAddr]
      rw [if_pos hb]
      simp only [Sem.run_bind, run_szO hn, Result.andThen_ok, Sem.run_pure, add_none]
    · simp at h
  · simp at h

theorem run_idxV {t elem : TypeId} {len n : Nat} {kd : Option Nat} (hu : P.underlying t = some (.array len elem)) (hn : szO P elem = some n) (hk : ldK P elem = some kd) {x i v : Value} (h : idxV kd len n x i = some v) :
    (Instr.index t x i).run P w = .ok v w := by
  unfold idxV at h
  split at h
  · rename_i cs k m
    split at h
    · rename_i hb
      simp only [Instr.index, Sem.run_bind, run_asIntOf, Result.andThen_ok, run_underlying hu]
      rw [if_pos hb]
      simp only [Sem.run_bind, run_szO hn, Result.andThen_ok]
      exact run_part hk h
    · simp at h
  · simp at h

theorem run_idxS {t : TypeId} (hu : P.underlying t = some .string) {x i v : Value} (h : idxS x i = some v) : (Instr.index t x i).run P w = .ok v w := by
  unfold idxS at h
  split at h
  · rename_i s k m
    split at h
    · rename_i hb
      cases hs : s[m.toNat]? with
      | none => simp [hs] at h
      | some c =>
        simp only [hs, Option.map_some, Option.some.injEq] at h
        subst h
        simp only [Instr.index, Sem.run_bind, run_asIntOf, Result.andThen_ok, run_underlying hu, if_pos hb, hs, Sem.run_pure]
    · simp at h
  · simp at h

theorem run_fldE {s : TypeId} {fs : Array Field} {i m : Nat} {f : Field} (hu : P.underlying s = some (.struct fs)) (hf : fs[i]? = some f) (hm : szO P f.type = some (m + 1)) {x v : Value} (h : fldE f.offset x = some v) :
    (Instr.fieldAt s x i).run P w = .ok v w := by
  unfold fldE at h
  split at h
  · obtain rfl := Option.some.inj h
    simp only [Instr.fieldAt, Sem.run_bind, run_underlying hu, Result.andThen_ok, hf, Instr.sureAddr, Sem.run_pure, fieldPlace, run_szO hm]
    rw [if_neg (by omega)]
    simp [add_none]
  · simp at h

theorem run_fieldE {s : TypeId} {fs : Array Field} {i : Nat} {f : Field} {k : Option Nat} (hu : P.underlying s = some (.struct fs)) (hf : fs[i]? = some f) (hk : ldK P f.type = some k) {x v : Value} (h : fieldE k f.offset x = some v) :
    (Instr.field s x i).run P w = .ok v w := by
  unfold fieldE at h
  split at h
  · simp only [Instr.field, Sem.run_bind, run_underlying hu, Result.andThen_ok, hf, asAgg, Sem.run_pure]
    exact run_part hk h
  · simp at h

theorem run_bndE {y m : Nat} {v : Value} {code : BoundsCode} (h : bndE y v = some m) : (Instr.sliceBound v y code).run P w = .ok m w := by
  unfold bndE at h
  split at h
  · split at h
    · rename_i hb
      obtain rfl := Option.some.inj h
      simp only [Instr.sliceBound, Sem.run_bind, run_asIntOf, Result.andThen_ok, if_pos hb, Sem.run_pure]
    · simp at h
  · simp at h

theorem run_bounds {sl : Bool} {len cap l h : Nat} {lo hi : Option Value} (hh : hiE len cap hi = some h) (hl : loE h lo = some l) :
    (Instr.sliceBounds sl len cap lo hi none).run P w = .ok (l, h, cap) w := by
  cases hi with
  | none =>
    obtain rfl := Option.some.inj hh
    cases lo with
    | none => obtain rfl := Option.some.inj hl; simp [Instr.sliceBounds]
    | some v => simp only [loE] at hl; simp [Instr.sliceBounds, run_bndE hl]
  | some u =>
    simp only [hiE] at hh
    cases lo with
    | none => obtain rfl := Option.some.inj hl; simp [Instr.sliceBounds, run_bndE hh]
    | some v => simp only [loE] at hl; simp [Instr.sliceBounds, run_bndE hl, run_bndE hh]

theorem run_sliceE {t elem : TypeId} {n : Nat} (hu : P.underlying t = some (.slice elem)) (hn : szO P elem = some n) {x v : Value} {lo hi : Option Value} (h : sliceE n x lo hi = some v) :
    (Instr.sliceAt t x lo hi none).run P w = .ok v w := by
  unfold sliceE at h
  split at h
  · rename_i a len cap
    simp only [Option.bind_eq_some_iff] at h
    obtain ⟨m, hm, l, hl, hv⟩ := h
    obtain rfl := Option.some.inj hv
    simp only [Instr.sliceAt, Instr.slice, Sem.run_bind, run_underlying hu, Result.andThen_ok, run_bounds hm hl, run_szO hn, Sem.run_pure]
  · simp at h

theorem run_sliceS {t : TypeId} (hu : P.underlying t = some .string) {x v : Value} {lo hi : Option Value} (h : sliceS x lo hi = some v) :
    (Instr.sliceAt t x lo hi none).run P w = .ok v w := by
  unfold sliceS at h
  split at h
  · rename_i s
    simp only [Option.bind_eq_some_iff] at h
    obtain ⟨m, hm, l, hl, hv⟩ := h
    obtain rfl := Option.some.inj hv
    simp only [Instr.sliceAt, Instr.slice, Sem.run_bind, run_underlying hu, Result.andThen_ok, Option.isSome_none, Bool.false_eq_true, if_false, run_bounds hm hl, Sem.run_pure]
  · simp at h

theorem run_places {fs : List Field} {pl : List (Nat × Nat)} (h : places P fs = some pl) : (fs.mapM (fun f => do pure (f.offset, ← sizeOf f.type) : Field → Sem (Nat × Nat))).run P w = .ok pl w := by
  induction fs generalizing pl with
  | nil => simp [places] at h; subst h; simp
  | cons f r ih =>
    unfold places at h
    split at h
    · rename_i n l hn hl
      obtain rfl := Option.some.inj h
      simp only [List.mapM_cons, Sem.run_bind, run_szO hn, Result.andThen_ok, Sem.run_pure, ih hl]
    · simp at h

theorem run_build {t : TypeId} {ps : Array (Nat × Value)} {v : Value} {x : Option Value} (hr : resBuild P t ps.toList = .pure x) (hx : x = some v) : (Instr.build t ps).run P w = .ok v w := by
  subst hx
  unfold resBuild at hr
  split at hr
  · simp at hr
  · rename_i z hz
    obtain ⟨zv, hzc, hzr⟩ := run_zero hz
    split at hr
    · rename_i fs hu
      split at hr
      · rename_i pl hpl
        simp only [Res.pure.injEq, Option.map_eq_some_iff] at hr
        obtain ⟨cells, hc, rfl⟩ := hr
        have hm := run_places (w := w) hpl
        have hm' : (fs.mapM (fun f => do pure (f.offset, ← sizeOf f.type) : Field → Sem (Nat × Nat))).run P w = .ok pl.toArray w := by
          rw [Array.mapM_eq_mapM_toList]
          simp only [Sem.run_map, hm, Result.andThen_ok]
        simp only [Instr.build, Sem.run_bind, hzr, Result.andThen_ok, run_underlying hu, hm', hzc]
        simp only [fillS] at hc
        simp only [List.getElem?_toArray, hc, Sem.run_pure]
      · simp at hr
    · rename_i len elem hu
      split at hr
      · rename_i n hn
        simp only [Res.pure.injEq, Option.map_eq_some_iff] at hr
        obtain ⟨cells, hc, rfl⟩ := hr
        simp only [fillR] at hc
        simp only [Instr.build, Sem.run_bind, hzr, Result.andThen_ok, run_underlying hu, run_szO hn, hzc, hc, Sem.run_pure]
      · simp at hr
    · simp at hr

theorem callFunc_fine {f : FuncId} {args : Array Value} (ho : okF P f = true) (h : CallsH P f args w.heap K) : Fine P K w ((callFunc f args).run P w) := by
  unfold okF at ho
  split at ho
  · rename_i fn hf
    simp only [Bool.and_eq_true, Bool.not_eq_true', ] at ho
    simp only [callFunc, Sem.run_bind, run_program, Result.andThen_ok, hf, ho.1, ho.2, Bool.false_eq_true, if_false, Sem.run_pure]
    exact ⟨.refl w, h⟩
  · simp at ho

theorem callV_fine {f : Value} {args : Array Value} (h : callV P f args w.heap K) : Fine P K w ((do let d ← Deferred.ofValue f args; invoke d.target d.args : Sem Next).run P w) := by
  unfold callV at h
  split at h
  · rename_i g first cap
    split at h
    · rename_i ho
      simp only [Deferred.ofValue, Sem.run_bind, Sem.run_pure, Result.andThen_ok, invoke]
      have e : cat3 first args cap = first ++ args ++ cap := by simp [cat3]
      rw [e] at h
      exact callFunc_fine ho h
    · exact h.elim
  · exact h.elim

end
end Go.Fw

/- The framework, part 4: every operation, in one theorem. No condition. -/
namespace Go.Fw
open Go

section
variable {P : Program} {K : Value → Hp → Prop} {w : World}

theorem fine_bnd {x : Option Value} {s : Sem Value} (hx : bnd x fun v => K v w.heap) (hs : ∀ v, x = some v → s.run P w = .ok v w) : Fine P K w ((do pure (.value (← s)) : Sem Next).run P w) :=
  let ⟨v, hv, hk⟩ := hx; fine_val (hs v hv) hk

theorem heap_push (w : World) (o : Obj) : ({ w with heap := w.heap.push o } : World).heap = w.heap.push o := rfl

theorem fine_al {s : Sem Value} {c : Array Value} {E : TypeId} {mk : Nat → Value} (hs : s.run P w = .ok (mk w.heap.size) { w with heap := w.heap.push (.cells c E (0, 0)) })
    (h : K (mk w.heap.size) (w.heap.push (.cells c E (0, 0)))) : Fine P K w ((do pure (.value (← s)) : Sem Next).run P w) :=
  (good_v hs ⟨rfl, rfl, rfl⟩ h).fine

theorem run_convI {s d : TypeId} {ks k : IntKind} (hs : P.underlying s = some (.int ks)) (hd : P.underlying d = some (.int k)) {x v : Value} (h : cvI k x = some v) : (convert s d x).run P w = .ok v w := by
  unfold cvI at h
  split at h
  · obtain rfl := Option.some.inj h
    simp only [convert, Sem.run_bind, run_underlying hs, run_underlying hd, Result.andThen_ok, Conv.intToInt, Sem.run_pure]
  · simp at h

theorem run_len_res {t ty : TypeId} {args : Array Operand} {at_ : Array TypeId} {ρ : Operand → Value} {x : Operand} (ht : at_[0]? = some t) (hx : args[0]? = some x)
    (h : (resLen P t (ρ x) (Builtin.len_ at_ ty (args.map ρ))).run P w.heap K) : Fine P K w ((do pure (.value (← Builtin.len_ at_ ty (args.map ρ))) : Sem Next).run P w) := by
  have hx' : (args.map ρ)[0]? = some (ρ x) := by simp [hx]
  unfold resLen at h
  split at h
  · rename_i e hu
    refine fine_bnd h fun v hv => ?_
    unfold lenE at hv
    split at hv
    · rename_i a n c hxv
      obtain rfl := Option.some.inj hv
      rw [hxv] at hx'
      simp only [Builtin.len_, ht, hx', Sem.run_bind, run_underlying hu, Result.andThen_ok, Sem.run_pure]
    · simp at hv
  · rename_i hu
    refine fine_bnd h fun v hv => ?_
    unfold lenS at hv
    split at hv
    · rename_i s hxv
      obtain rfl := Option.some.inj hv
      rw [hxv] at hx'
      simp only [Builtin.len_, ht, hx', Sem.run_bind, run_underlying hu, Result.andThen_ok, Sem.run_pure]
    · simp at hv
  · rename_i n e hu
    refine fine_val ?_ h
    simp only [Builtin.len_, ht, hx', Sem.run_bind, run_underlying hu, Result.andThen_ok, Sem.run_pure]
  · exact (good_rds h).fine

theorem run_unE {op : UnOp} {x v : Value} (h : unE op x = some v) : (Op.unary op x).run P w = .ok v w := by
  unfold unE at h
  split at h
  · obtain rfl := Option.some.inj h; simp [Op.unary, Op.intArith]
  · obtain rfl := Option.some.inj h; simp [Op.unary]
  · simp at h

theorem run_bin_res {op : BinOp} {t : TypeId} {x y : Operand} {a b : Value} (h : (resBin P op t x y a b).run P w.heap K) : Fine P K w ((do pure (.value (← binS op t x y a b)) : Sem Next).run P w) := by
  unfold resBin at h
  split at h
  · exact fine_bnd h fun v hv => run_binE hv w
  · exact fine_bnd h fun v hv => run_binE hv w
  · rename_i hu; exact fine_bnd h fun v hv => run_binB hu hv w
  · rename_i hu; exact fine_bnd h fun v hv => run_nilBin (k := .p) hu trivial (fun h => by cases h) hv w
  · rename_i hu; exact fine_bnd h fun v hv => run_nilBin (k := .s) hu trivial (fun h => by cases h) hv w
  · rename_i hu; exact fine_bnd h fun v hv => run_nilBin (k := .m) hu trivial (fun h => by cases h) hv w
  · rename_i hu; exact fine_bnd h fun v hv => run_nilBin (k := .f) hu trivial (fun h => by cases h) hv w
  · rename_i hu
    split at h
    · rename_i hc; exact fine_bnd h fun v hv => run_nilBin (k := .i) hu trivial (fun _ => hc) hv w
    · exact (good_prs h).fine
  · exact (good_prs h).fine

theorem run_buildSlice_res {t : TypeId} {n : Nat} {ps : Array (Nat × Value)} (h : (resBuildSlice P t n ps.toList).run P w.heap K) : Fine P K w ((do pure (.value (← Instr.buildSlice t n ps)) : Sem Next).run P w) := by
  unfold resBuildSlice at h
  split at h
  · rename_i elem hu
    split at h
    · rename_i z m hz hm
      split at h
      · rename_i hle
        obtain ⟨c, hc, hk⟩ := h
        obtain ⟨zv, hzc, hzr⟩ := run_zero hz
        rw [Bool.and_eq_true] at hle
        have hle' : ¬ n * m > 2 ^ 24 := by have := Nat.le_of_ble_eq_true hle.1; omega
        refine fine_al (c := c) (E := elem) (mk := fun b => .slice (some ⟨b, 0, none⟩) n n) ?_ hk
        simp only [Instr.buildSlice, Sem.run_bind, run_underlying hu, Result.andThen_ok, run_szO hm, if_neg hle']
        have zeq : ∀ (z : Array Value) n, 0 < z.size → zeros z n = (Array.range n).map (z[· % z.size]!) := fun z n hz => by
          apply Array.ext_getElem?
          intro i
          simp only [zeros, List.getElem?_toArray, List.getElem?_map, Array.getElem?_map, Array.getElem?_range]
          by_cases hi : i < n
          · have hm := Nat.mod_lt i hz
            simp [hi, List.getD_eq_getElem?_getD, getElem!_pos, hm]
          · simp [hi]
        simp only [fillR] at hc
        by_cases h0 : n * m = 0
        · have hb : Nat.beq (n * m) 0 = true := by simp [h0]
          have hz0 : zeros #[] (n * m) = (Array.range (n * m)).map ((#[] : Array Value)[· % (#[] : Array Value).size]!) := by rw [h0]; simp [zeros]
          simp only [hb, cond_true, hz0] at hc
          simp only [if_pos h0, Sem.run_pure, Result.andThen_ok, hc, Sem.run_bind, newRow, run_newObj]
        · have hb : Nat.beq (n * m) 0 = false := by
            cases hb : Nat.beq (n * m) 0
            · rfl
            · exact absurd (Nat.eq_of_beq_eq_true hb) h0
          rw [hb, cond_false] at hc
          have hzs : 0 < z.size := by simpa [hb] using hle.2
          rw [zeq z _ hzs] at hc
          simp only [if_neg h0, Sem.run_bind, hzr, Sem.run_pure, Result.andThen_ok, hzc, hc, newRow, run_newObj]
      · exact h.elim
    · exact h.elim
  · exact h.elim

theorem fine_call {c : Call} {ty : TypeId} {ρ : Operand → Value} (h : (resCall P c ty ρ).run P w.heap K) : Fine P K w ((do let d ← resolve ρ c ty; invoke d.target d.args : Sem Next).run P w) := by
  obtain ⟨ce, args, at_⟩ := c
  unfold resCall at h
  simp only [mapA_eq] at h
  cases ce with
  | value f => exact callV_fine h
  | invoke r m =>
    obtain ⟨f, as, w', hr, hs, hk⟩ := h w rfl
    have e1 : (do let d ← resolve ρ ⟨.invoke r m, args, at_⟩ ty; invoke d.target d.args : Sem Next).run P w = (callMethod (ρ r) m (args.map ρ)).run P w := by
      have x0 : (#[ρ r] ++ args.map ρ)[0]? = some (ρ r) := by rw [Array.getElem?_append]; rfl
      have x1 : (#[ρ r] ++ args.map ρ).extract 1 (#[ρ r] ++ args.map ρ).size = args.map ρ := by
        apply Array.ext_getElem?
        intro i
        simp only [Array.getElem?_extract, Array.size_append, List.size_toArray, List.length_cons, List.length_nil, Array.getElem?_append]
        by_cases hi : i < (args.map ρ).size
        · rw [if_pos (by omega), if_neg (by omega)]; congr 1; omega
        · rw [if_neg (by omega), Array.getElem?_eq_none (by omega)]
      simp only [resolve, Sem.run_bind, Sem.run_pure, Result.andThen_ok, invoke, x0, x1]
    rw [e1, hr]
    exact ⟨hs, hk⟩
  | builtin b =>
    cases b <;> simp only at h <;> first
      | (exact h.elim)
      | exact (good_prs h).fine
      | exact (good_efs h).fine
      | (split at h
         · rename_i t x ht hx
           exact run_len_res ht hx h
         · exact h.elim)

theorem res_fine {o : Oper} {ρ : Operand → Value} (h : (res P o ρ).run P w.heap K) : Fine P K w ((execOp ρ o).run P w) := by
  obtain ⟨dst, op, ty, pos, aft, gd⟩ := o
  cases op <;> simp only [res, mapA_eq] at h <;> simp only [execOp] <;> first
    | exact h.elim
    | (exact ⟨.refl w, h⟩)
    | exact (good_prs h).fine
    | exact (good_rds h).fine
    | exact (good_efs h).fine
    | exact (good_efu h).fine
    | exact fine_call h
    | exact run_bin_res h
    | exact fine_bnd h fun v hv => run_unE hv
    | skip
  case pick c a b =>
    obtain ⟨v, hv, hk⟩ := h
    simp only [Option.map_eq_some_iff] at hv
    obtain ⟨t, ht, rfl⟩ := hv
    unfold asB at ht
    split at ht
    · rename_i t' hc
      obtain rfl := Option.some.inj ht
      rw [hc]
      simp only [asBool, Sem.run_bind, Sem.run_pure, Result.andThen_ok]
      exact ⟨.refl w, by cases t' <;> exact hk⟩
    · simp at ht
  case alloc t =>
    split at h
    · rename_i z hz
      obtain ⟨zv, hzc, hzr⟩ := run_zero hz
      refine fine_al (c := z) (E := t) (mk := ptr0) ?_ h
      simp only [Instr.alloc, Sem.run_bind, hzr, Result.andThen_ok, newVar, newRow, hzc, run_newObj, Sem.run_pure]
      rfl
    · exact h.elim
  case build t ps =>
    have e : (ps.toList.map fun (i, x) => (i, ρ x)) = (ps.map fun (i, x) => (i, ρ x)).toList := by simp
    rw [e] at h
    generalize hr : resBuild P t (ps.map fun (i, x) => (i, ρ x)).toList = r at h
    cases r with
    | pure x => exact fine_bnd h fun v hv => run_build hr hv
    | bad => exact h.elim
    | _ => exfalso; unfold resBuild at hr; (repeat' split at hr) <;> simp at hr
  case buildSlice t n ps =>
    have e : (ps.toList.map fun (i, x) => (i, ρ x)) = (ps.map fun (i, x) => (i, ρ x)).toList := by simp
    rw [e] at h
    exact run_buildSlice_res h
  case load t a =>
    split at h
    · rename_i n hn; exact fine_bnd h fun v hv => run_ldA hn hv
    · rename_i hn; exact fine_bnd h fun v hv => run_ldS hn hv
    · exact h.elim
  case store t a x =>
    split at h
    · rename_i n hn
      obtain ⟨h', hh, hk⟩ := h
      obtain ⟨w', hr, hs, rfl⟩ := run_stE hn hh
      exact (good_u hr hs hk).fine
    · exact h.elim
  case nilCheck x =>
    obtain ⟨v, hv, hk⟩ := h
    generalize ρ x = y at hv ⊢
    unfold nilE at hv
    split at hv <;> first
      | (simp at hv; done)
      | skip
    rename_i h1 h2 h3 h4
    obtain rfl := Option.some.inj hv
    split <;> first
      | exact (h1 rfl).elim
      | exact (h2 rfl).elim
      | exact (h3 rfl).elim
      | exact (h4 _ _ _ rfl).elim
      | exact ⟨.refl w, hk⟩
  case convert s d x =>
    unfold resConv at h
    split at h
    · rename_i hs hd; exact fine_bnd h fun v hv => run_convI hs hd hv
    · exact (good_efs h).fine
  case makeMap t r =>
    cases r with
    | none =>
      simp only [Option.map_none, Instr.makeMap, Sem.run_bind, run_newObj, Result.andThen_ok, Sem.run_pure]
      exact ⟨⟨rfl, rfl, rfl⟩, h⟩
    | some r => exact (good_efs h).fine
  case slice t x lo hi mx =>
    unfold resSlice at h
    split at h
    · exact (good_prs h).fine
    · rename_i hm
      rw [hm]
      split at h
      · rename_i hu
        split at h
        · rename_i n hn; exact fine_bnd h fun v hv => run_sliceE hu hn hv
        · exact h.elim
      · rename_i hu; exact fine_bnd h fun v hv => run_sliceS hu hv
      · exact (good_prs h).fine
  case fieldAddr s x f =>
    unfold resField at h
    split at h
    · rename_i hu
      split at h
      · rename_i hf
        split at h
        · rename_i hm; exact fine_bnd h fun v hv => run_fldE hu hf hm hv
        · exact h.elim
      · exact h.elim
    · exact h.elim
  case field s x f =>
    unfold resFieldV at h
    split at h
    · rename_i hu
      split at h
      · rename_i hf
        split at h
        · rename_i hk; exact fine_bnd h fun v hv => run_fieldE hu hf hk hv
        · exact h.elim
      · exact h.elim
    · exact h.elim
  case indexAddr t x i =>
    unfold resIndexA at h
    split at h
    · rename_i hu
      split at h
      · rename_i hn; exact fine_bnd h fun v hv => run_idxE hu hn hv
      · exact h.elim
    · rename_i hu
      split at h
      · rename_i hn; exact fine_bnd h fun v hv => run_idxA hu hn hv
      · exact h.elim
    · exact h.elim
  case index t x i =>
    unfold resIndexV at h
    split at h
    · rename_i hu
      split at h
      · rename_i hn hk; exact fine_bnd h fun v hv => run_idxV hu hn hk hv
      · exact h.elim
    · rename_i hu; exact fine_bnd h fun v hv => run_idxS hu hv
    · exact h.elim
  case extract t i =>
    refine fine_bnd h fun v hv => ?_
    unfold extE at hv
    split at hv
    · rename_i hx; rw [hx]; simp only [Instr.extract, hv, Sem.run_pure]
    · simp at hv

end
end Go.Fw

/- The framework, part 5: a row of operations, in any order that their edges allow. No condition. -/
namespace Go.Fw
open Go

section
variable {P : Program}

theorem bnd_mono {α : Type} {x : Option α} {K K' : α → Prop} (h : ∀ a, K a → K' a) (b : bnd x K) : bnd x K' := let ⟨a, e, k⟩ := b; ⟨a, e, h a k⟩
theorem callV_mono {f : Value} {args : Array Value} {h : Hp} {K K' : Value → Hp → Prop} (hk : ∀ v h, K v h → K' v h) (c : callV P f args h K) : callV P f args h K' := by
  unfold callV at *
  split at c
  · split at c
    · exact c.mono hk
    · exact c.elim
  · exact c.elim
theorem efS_mono {α : Type} {s : Sem α} {h : Hp} {K K' : α → Hp → Prop} (hk : ∀ v h, K v h → K' v h) (c : efS P s h K) : efS P s h K' :=
  fun w hw => let ⟨v, w', a, b, k⟩ := c w hw; ⟨v, w', a, b, hk _ _ k⟩

/-- What may be taken for granted of an effect: it grows with what is asked behind it, and does not hold of nothing. -/
structure EffOk (f : Hp → (Value → Hp → Prop) → Prop) : Prop where
  mono : ∀ {h K K'}, (∀ v h, K v h → K' v h) → f h K → f h K'
  strict : ∀ {h}, ¬ f h (fun _ _ => False)

def Res.ok : Res → Prop
  | .eff f => EffOk f
  | .rd f => ∀ h o v, f h = some v → f (h.push o) = some v
  | _ => True

def wAt (h : Hp) : World := { (default : World) with heap := h }

theorem CallsH.strict {f : FuncId} {args : Array Value} {h : Hp} : ¬ CallsH P f args h (fun _ _ => False) := fun c => by
  obtain ⟨e, w', fr, ⟨v, _, _, hf⟩, _⟩ := c (wAt h) rfl []
  exact hf
theorem efS_strict {α : Type} {s : Sem α} {h : Hp} : ¬ efS P s h (fun _ _ => False) := fun c => by
  obtain ⟨v, w', _, _, hf⟩ := c (wAt h) rfl
  exact hf
theorem callV_ok (f : Value) (args : Array Value) : EffOk (callV P f args) where
  mono hk c := callV_mono hk c
  strict c := by
    unfold callV at c
    split at c
    · split at c
      · exact CallsH.strict c
      · exact c
    · exact c
theorem efS_ok (s : Sem Value) : EffOk (fun h K => efS P s h K) where
  mono hk c := efS_mono hk c
  strict c := efS_strict c
theorem efU_ok (s : Sem Unit) : EffOk (fun h K => efS P s h fun _ h' => K undef h') where
  mono hk c := efS_mono (fun _ _ k => hk _ _ k) c
  strict c := efS_strict c
theorem st_ok (n : Nat) (a v : Value) : EffOk (fun h K => bnd (stE n h a v) fun h' => K undef h') where
  mono hk c := bnd_mono (fun _ k => hk _ _ k) c
  strict c := let ⟨_, _, k⟩ := c; k
theorem invoke_ok (r : Value) (m : String) (as : Array Value) : EffOk (fun h K => invT P r m as h K) where
  mono hk c := fun w hw => let ⟨f, args, w', a, b, k⟩ := c w hw; ⟨f, args, w', a, b, k.mono hk⟩
  strict c := let ⟨_, _, _, _, _, k⟩ := c (wAt _) rfl; CallsH.strict k

theorem ldS_push {h : Hp} {o : Obj} {a v : Value} (hv : ldS h a = some v) : ldS (h.push o) a = some v := by
  unfold ldS at *
  split at hv
  · rename_i b of
    split at hv
    · rename_i c E fz hb
      have hlt : b < h.size := (Array.getElem?_eq_some_iff.1 hb).1
      rw [Array.getElem?_push, if_neg (by omega), hb]
      exact hv
    · simp at hv
  · simp at hv
theorem ldA_push {n : Nat} {h : Hp} {o : Obj} {a v : Value} (hv : ldA n h a = some v) : ldA n (h.push o) a = some v := by
  unfold ldA at *
  split at hv
  · rename_i b of
    split at hv
    · rename_i c E fz hb
      have hlt : b < h.size := (Array.getElem?_eq_some_iff.1 hb).1
      rw [Array.getElem?_push, if_neg (by omega), hb]
      exact hv
    · simp at hv
  · simp at hv

inductive Cls where | pure | rd | rds | al | eff
  deriving DecidableEq
def Res.cls : Res → Cls
  | .triv _ | .pure _ | .prs _ | .bad => .pure
  | .rd _ => .rd
  | .rds _ => .rds
  | .al .. | .alo .. | .mp => .al
  | .eff _ => .eff
def clsOf (P : Program) (o : Oper) : Cls := (res P o fun _ => undef).cls

theorem res_cls (o : Oper) (ρ : Operand → Value) : (res P o ρ).cls = clsOf P o := by
  obtain ⟨dst, op, ty, pos, aft, gd⟩ := o
  unfold clsOf
  cases op <;> simp only [res] <;> first
    | rfl
    | (unfold resBin; (repeat' split) <;> first | rfl | (simp_all; done))
    | (unfold resBuild; (repeat' split) <;> first | rfl | (simp_all; done))
    | (unfold resBuildSlice; (repeat' split) <;> first | rfl | (simp_all; done))
    | (unfold resField; (repeat' split) <;> first | rfl | (simp_all; done))
    | (unfold resFieldV; (repeat' split) <;> first | rfl | (simp_all; done))
    | (unfold resIndexA; (repeat' split) <;> first | rfl | (simp_all; done))
    | (unfold resIndexV; (repeat' split) <;> first | rfl | (simp_all; done))
    | (unfold resConv; (repeat' split) <;> first | rfl | (simp_all; done))
    | ((repeat' split) <;> first | rfl | (simp_all; done))
    | skip
  case slice t x lo hi mx => cases mx <;> simp only [Option.map_none, Option.map_some, resSlice] <;> (repeat' split) <;> rfl
  case call c =>
    obtain ⟨ce, args, at_⟩ := c
    unfold resCall
    cases ce with
    | value f => rfl
    | invoke r m => rfl
    | builtin b =>
      cases b <;> first
        | rfl
        | (simp only; split <;> first | rfl | (unfold resLen; (repeat' split) <;> first | rfl | (simp_all; done)))

theorem res_ok (o : Oper) (ρ : Operand → Value) : (res P o ρ).ok := by
  obtain ⟨dst, op, ty, pos, aft, gd⟩ := o
  cases op <;> simp only [res] <;> first
    | exact trivial
    | exact efS_ok _
    | exact efU_ok _
    | (unfold resBin; (repeat' split) <;> exact trivial)
    | (unfold resBuild; (repeat' split) <;> exact trivial)
    | (unfold resBuildSlice; (repeat' split) <;> exact trivial)
    | (unfold resField; (repeat' split) <;> exact trivial)
    | (unfold resFieldV; (repeat' split) <;> exact trivial)
    | (unfold resIndexA; (repeat' split) <;> exact trivial)
    | (unfold resIndexV; (repeat' split) <;> exact trivial)
    | (unfold resSlice; (repeat' split) <;> exact trivial)
    | (unfold resConv; (repeat' split) <;> first | exact trivial | exact efS_ok _)
    | skip
  case alloc t => split <;> exact trivial
  case load t a => split <;> first | exact trivial | exact fun _ _ _ h => ldA_push h | exact fun _ _ _ h => ldS_push h
  case store t a x => split <;> first | exact trivial | exact st_ok _ _ _
  case makeMap t r => cases r <;> first | exact trivial | exact efS_ok _
  case call c =>
    obtain ⟨ce, args, at_⟩ := c
    unfold resCall
    cases ce with
    | value f => exact callV_ok _ _
    | invoke r m => exact invoke_ok _ _ _
    | builtin b =>
      cases b <;> first
        | exact trivial
        | exact efS_ok _
        | (simp only; split <;> first | exact trivial | (unfold resLen; (repeat' split) <;> exact trivial))

theorem Res.run_mono {r : Res} (ho : r.ok) {h : Hp} {K K' : Value → Hp → Prop} (hk : ∀ v h, K v h → K' v h) (c : r.run P h K) : r.run P h K' := by
  cases r <;> simp only [Res.run] at * <;> first
    | exact hk _ _ c
    | exact bnd_mono (fun _ k => hk _ _ k) c
    | (obtain ⟨v, a, k⟩ := c; exact ⟨v, a, hk _ _ k⟩)
    | exact ho.mono hk c
    | exact c

theorem Res.strict {r : Res} (ho : r.ok) {h : Hp} (c : r.run P h fun _ _ => False) : False := by
  cases r <;> simp only [Res.run] at * <;> first
    | exact c
    | (obtain ⟨v, a, k⟩ := c; exact k)
    | exact ho.strict c

/-- The operation as it is carried out, or passed over. -/
def Res.eff' (g : Bool) (r : Res) : Res := match g with | true => r | false => .triv undef
theorem Res.runG_iff (g : Bool) (r : Res) (h : Hp) (K : Value → Hp → Prop) : r.runG P g h K ↔ (r.eff' g).run P h K := by
  cases g <;> cases r <;> simp [Res.runG, Res.eff', Res.run, bnd, guardT]
theorem Res.eff'_ok {r : Res} (ho : r.ok) (g : Bool) : (r.eff' g).ok := by cases g; exact trivial; exact ho
theorem Res.eff'_cls (r : Res) (g : Bool) : (r.eff' g).cls = .pure ∨ (r.eff' g).cls = r.cls := by cases g; exact .inl rfl; exact .inr rfl

/-- May an operation of class x that stands first change places with one of class i behind it? -/
def Cls.swaps (x i : Cls) : Bool :=
  match x, i with
  | .pure, _ | _, .pure => true
  | .rd, .rd | .rd, .rds | .rds, .rd | .rds, .rds => true
  | .rd, .al => true
  | _, _ => false

theorem Res.swap_pure_left {x i : Res} (hi : i.ok) (hc : x.cls = .pure) {h : Hp} {F : Value → Value → Hp → Prop}
    (c : x.run P h fun v h1 => i.run P h1 fun u h2 => F v u h2) : i.run P h fun u h1 => x.run P h1 fun v h2 => F v u h2 := by
  cases x <;> simp [Res.cls] at hc
  · exact c
  · obtain ⟨v, e, k⟩ := c; exact Res.run_mono hi (fun u h2 k => Exists.intro v ⟨e, k⟩) k
  · obtain ⟨v, e, k⟩ := c; exact Res.run_mono hi (fun u h2 k => Exists.intro v ⟨e, k⟩) k
  · exact False.elim c

theorem Res.swap_pure_right {x i : Res} (hx : x.ok) (hc : i.cls = .pure) {h : Hp} {F : Value → Value → Hp → Prop}
    (c : x.run P h fun v h1 => i.run P h1 fun u h2 => F v u h2) : i.run P h fun u h1 => x.run P h1 fun v h2 => F v u h2 := by
  cases i <;> simp [Res.cls] at hc
  · exact c
  · rename_i o
    cases o with
    | none => exact (Res.strict hx (Res.run_mono hx (fun v h1 k => by obtain ⟨u, e, _⟩ := k; simp at e) c)).elim
    | some u => exact Exists.intro u ⟨rfl, Res.run_mono hx (fun v h1 k => by obtain ⟨u', e, k⟩ := k; obtain rfl := Option.some.inj e; exact k) c⟩
  · rename_i s
    by_cases hs : ∃ u, ∀ w, s.run P w = .ok u w
    · obtain ⟨u, hu⟩ := hs
      refine Exists.intro u ⟨hu, Res.run_mono hx (fun v h1 k => ?_) c⟩
      obtain ⟨u', e, k⟩ := k
      have := (hu default).symm.trans (e default)
      obtain rfl : u = u' := by injection this
      exact k
    · exact (Res.strict hx (Res.run_mono hx (fun v h1 k => by obtain ⟨u, e, _⟩ := k; exact hs ⟨u, e⟩) c)).elim
  · exact (Res.strict hx (Res.run_mono hx (fun v h1 k => k) c)).elim

theorem Res.swap {x i : Res} (hx : x.ok) (hi : i.ok) (hs : x.cls.swaps i.cls = true) {h : Hp} {F : Value → Value → Hp → Prop}
    (c : x.run P h fun v h1 => i.run P h1 fun u h2 => F v u h2) : i.run P h fun u h1 => x.run P h1 fun v h2 => F v u h2 := by
  by_cases h1 : x.cls = .pure
  · exact Res.swap_pure_left hi h1 c
  by_cases h2 : i.cls = .pure
  · exact Res.swap_pure_right hx h2 c
  cases x <;> simp [Res.cls] at h1 <;> cases i <;> simp [Res.cls] at h2 <;> simp [Res.cls, Cls.swaps] at hs <;> simp only [Res.run] at *
  · obtain ⟨v, e, u, e', k⟩ := c; exact ⟨u, e', v, e, k⟩
  · obtain ⟨v, e, u, e', k⟩ := c; exact ⟨u, e', v, e, k⟩
  · obtain ⟨v, e, k⟩ := c; exact ⟨v, hx _ _ _ e, k⟩
  · obtain ⟨v, e, u, e', k⟩ := c; exact ⟨u, e', v, hx _ _ _ e, k⟩
  · obtain ⟨v, e, k⟩ := c; exact ⟨v, hx _ _ _ e, k⟩
  · obtain ⟨v, e, u, e', k⟩ := c; exact ⟨u, e', v, e, k⟩
  · obtain ⟨v, e, u, e', k⟩ := c; exact ⟨u, e', v, e, k⟩

end
end Go.Fw

/- The framework, part 6: regions: one order stands for all that the edges allow. No condition. -/
namespace Go.Fw
open Go

def put (e : Env) (d : Option Tmp) (v : Value) : Env := match d with | some d => upd e d v | none => e
def wantB (ops : List Oper) (e : Env) (j : Nat) (b : Bool) : Bool :=
  match ops[j]? with
  | some o => (match o.dst with | some t => isB (e t) b | none => false)
  | none => false

def evO (P : Program) (ops : List Oper) (o : Oper) (e : Env) (h : Hp) (K : Value → Hp → Prop) : Prop :=
  match o.guard with
  | none => (res P o (ev e)).run P h K
  | some (j, b) => (res P o (ev e)).runG P (wantB ops e j b) h K

def evL (P : Program) (ops : List Oper) : List Nat → Env → Hp → (Env → Hp → Prop) → Prop
  | [], e, h, K => K e h
  | i :: r, e, h, K => match ops[i]? with
    | none => evL P ops r e h K
    | some o => evO P ops o e h fun v h => evL P ops r (put e o.dst v) h K

section
variable {P : Program} {ops : List Oper}

/-- The operation as it is carried out in this frame. -/
def resG (P : Program) (ops : List Oper) (o : Oper) (e : Env) : Res :=
  match o.guard with
  | none => res P o (ev e)
  | some (j, b) => (res P o (ev e)).eff' (wantB ops e j b)
theorem evO_iff (o : Oper) (e : Env) (h : Hp) (K : Value → Hp → Prop) : evO P ops o e h K ↔ (resG P ops o e).run P h K := by
  unfold evO resG
  split
  · exact Iff.rfl
  · exact Res.runG_iff _ _ _ _
theorem resG_ok (o : Oper) (e : Env) : (resG P ops o e).ok := by
  unfold resG
  split
  · exact res_ok _ _
  · exact Res.eff'_ok (res_ok _ _) _
theorem resG_cls (o : Oper) (e : Env) : (resG P ops o e).cls = .pure ∨ (resG P ops o e).cls = clsOf P o := by
  unfold resG
  split
  · exact .inr (res_cls _ _)
  · rename_i j b _
    rcases Res.eff'_cls (res P o (ev e)) (wantB ops e j b) with h | h
    · exact .inl h
    · exact .inr (h.trans (res_cls _ _))
theorem evO_mono {o : Oper} {e : Env} {h : Hp} {K K' : Value → Hp → Prop} (hk : ∀ v h, K v h → K' v h) (c : evO P ops o e h K) : evO P ops o e h K' := by
  rw [evO_iff] at *
  exact Res.run_mono (resG_ok _ _) hk c

theorem swaps_pure {x i : Cls} (h : x.swaps i = true) {x' i' : Cls} (hx : x' = .pure ∨ x' = x) (hi : i' = .pure ∨ i' = i) : x'.swaps i' = true := by
  rcases hx with rfl | rfl
  · cases i' <;> rfl
  · rcases hi with rfl | rfl
    · cases x' <;> rfl
    · exact h

/-! temporaries -/
def looks (ops : List Oper) (o : Oper) : List Tmp :=
  (o.op.operands.toList.filterMap fun | .tmp t => some t | _ => none) ++
  (match o.guard with
   | some (g, _) => (match ops[g]? with | some p => p.dst.toList | none => [])
   | none => [])
def notIn (d : Option Tmp) (l : List Tmp) : Bool := match d with | some d => !l.contains d | none => true
def apartB (ops : List Oper) (x y : Oper) : Bool :=
  notIn x.dst (looks ops y) && notIn y.dst (looks ops x) && (match x.dst, y.dst with | some d, some d' => !(d == d') | _, _ => true)

theorem ev_put {e : Env} {d : Option Tmp} {v : Value} {x : Operand} (h : ∀ t, d = some t → x ≠ .tmp t) : ev (put e d v) x = ev e x := by
  cases d with
  | none => rfl
  | some t =>
    cases x with
    | tmp s =>
      have hne : t ≠ s := fun e => h t rfl (e ▸ rfl)
      have hb : Nat.beq s t = false := by
        cases hb : Nat.beq s t
        · rfl
        · exact absurd (Nat.eq_of_beq_eq_true hb).symm hne
      simp only [ev, put, upd, hb, cond_false]
    | _ => rfl

theorem res_congr {ρ ρ' : Operand → Value} (o : Oper) (h : ∀ x ∈ o.op.operands, ρ x = ρ' x) : res P o ρ = res P o ρ' := by
  obtain ⟨dst, op, type, pos, after, guard⟩ := o
  have pairs : ∀ ps : Array (Nat × Operand), (∀ x ∈ ps.map (·.2), ρ x = ρ' x) → (ps.toList.map fun (i, x) => (i, ρ x)) = (ps.toList.map fun (i, x) => (i, ρ' x)) := fun ps hp =>
    List.map_congr_left fun p hm => by
      obtain ⟨i, x⟩ := p
      simp only [hp x (Array.mem_map.2 ⟨(i, x), by simpa using hm, rfl⟩)]
  cases op <;> simp only [Op.operands] at h <;> simp only [res]
  case build t ps => rw [pairs ps fun x hx => h x (by simpa using hx)]
  case buildSlice t n ps => rw [pairs ps fun x hx => h x (by simpa using hx)]
  case makeFunc fn first captured =>
    simp only [mapA_eq]
    rw [Array.map_congr_left (xs := first) fun x hx => h x (by simp [hx]), Array.map_congr_left (xs := captured) fun x hx => h x (by simp [hx])]
  case call c =>
    have hargs : c.args.map ρ = c.args.map ρ' := Array.map_congr_left fun x hx => h x (by simp [Call.operands, hx])
    unfold resCall
    simp only [mapA_eq]
    cases hc : c.callee with
    | value f => have hf : ρ f = ρ' f := h f (by simp [Call.operands, hc]); simp only [hf, hargs]
    | invoke r m => have hr : ρ r = ρ' r := h r (by simp [Call.operands, hc]); simp only [hr, hargs]
    | builtin b =>
      cases b <;> simp only [hargs]
      cases h1 : c.argTypes[0]? with
      | none => rfl
      | some t =>
        cases h2 : c.args[0]? with
        | none => rfl
        | some x =>
          have hx : ρ x = ρ' x := h x (by simp only [Call.operands]; exact Array.mem_append.2 (.inr (Array.mem_of_getElem? h2)))
          simp only [hx]
  case makeMap t r => cases r <;> simp_all
  case slice t x lo hi mx => cases lo <;> cases hi <;> cases mx <;> simp_all
  all_goals (first | rfl | (simp_all; done))

theorem notIn_spec {d : Option Tmp} {l : List Tmp} (h : notIn d l = true) : ∀ t, d = some t → t ∉ l := by
  intro t ht
  subst ht
  simpa [notIn] using h

theorem res_put {o : Oper} {e : Env} {d : Option Tmp} {v : Value} (h : notIn d (looks ops o) = true) : res P o (ev (put e d v)) = res P o (ev e) :=
  res_congr o fun x hx => ev_put fun t ht hxt => notIn_spec h t ht (by
    subst hxt
    exact List.mem_append_left _ (List.mem_filterMap.2 ⟨.tmp t, by simpa using hx, rfl⟩))

theorem resG_put {o : Oper} {e : Env} {d : Option Tmp} {v : Value} (h : notIn d (looks ops o) = true) : resG P ops o (put e d v) = resG P ops o e := by
  have hr := res_put (P := P) (o := o) (e := e) (v := v) h
  unfold resG
  split
  · exact hr
  · rename_i j b hg
    rw [hr]
    congr 1
    unfold wantB
    cases hj : ops[j]? with
    | none => rfl
    | some p =>
      simp only
      cases hd : p.dst with
      | none => rfl
      | some t =>
        simp only
        have : ev (put e d v) (.tmp t) = ev e (.tmp t) := ev_put fun s hs' hx => by
          obtain rfl : t = s := by simpa using hx
          exact notIn_spec h t hs' (by simp [looks, hg, hj, hd])
        simp only [ev] at this
        rw [this]

theorem put_comm {e : Env} {x y : Option Tmp} {v u : Value} (h : ∀ d, x = some d → y ≠ some d) : put (put e x v) y u = put (put e y u) x v := by
  cases x with
  | none => rfl
  | some d =>
    cases y with
    | none => rfl
    | some c =>
      have hne : d ≠ c := fun he => h d rfl (he ▸ rfl)
      funext t
      simp only [put, upd]
      cases h1 : Nat.beq t d <;> cases h2 : Nat.beq t c <;> simp only [cond_true, cond_false]
      exact absurd ((Nat.eq_of_beq_eq_true h1).symm.trans (Nat.eq_of_beq_eq_true h2)) hne

/-- May x, which stands first, and i behind it change places? -/
def swapB (P : Program) (ops : List Oper) (x i : Nat) : Bool :=
  match ops[x]?, ops[i]? with
  | some ox, some oi => apartB ops ox oi && (clsOf P ox).swaps (clsOf P oi)
  | _, _ => true

theorem evL_swap {x i : Nat} (hs : swapB P ops x i = true) {r : List Nat} {e : Env} {h : Hp} {K : Env → Hp → Prop} (c : evL P ops (x :: i :: r) e h K) : evL P ops (i :: x :: r) e h K := by
  simp only [evL] at *
  unfold swapB at hs
  cases hx : ops[x]? with
  | none => cases hi : ops[i]? <;> simp only [hx, hi] at * <;> exact c
  | some ox =>
    cases hi : ops[i]? with
    | none => simp only [hx, hi] at *; exact c
    | some oi =>
      simp only [hx, hi, Bool.and_eq_true] at *
      obtain ⟨hap, hcl⟩ := hs
      simp only [apartB, Bool.and_eq_true] at hap
      obtain ⟨⟨hxy, hyx⟩, hd⟩ := hap
      have hne : ∀ d, ox.dst = some d → oi.dst ≠ some d := fun d h1 h2 => by simp [h1, h2] at hd
      simp only [evO_iff] at *
      have c' : (resG P ops ox e).run P h fun v h1 => (resG P ops oi e).run P h1 fun u h2 => evL P ops r (put (put e ox.dst v) oi.dst u) h2 K :=
        Res.run_mono (resG_ok _ _) (fun v h1 k => by rw [resG_put hxy] at k; exact k) c
      have hsw := swaps_pure hcl (resG_cls (P := P) (ops := ops) ox e) (resG_cls (P := P) (ops := ops) oi e)
      refine Res.run_mono (resG_ok _ _) (fun u h1 k => ?_) (Res.swap (F := fun v u h2 => evL P ops r (put (put e ox.dst v) oi.dst u) h2 K) (resG_ok _ _) (resG_ok _ _) hsw c')
      rw [resG_put hyx]
      exact Res.run_mono (resG_ok _ _) (fun v h2 k => by rw [← put_comm hne]; exact k) k

theorem evL_cons {x : Nat} {r r' : List Nat} (hr : ∀ e h K, evL P ops r e h K → evL P ops r' e h K) {e : Env} {h : Hp} {K : Env → Hp → Prop} (c : evL P ops (x :: r) e h K) : evL P ops (x :: r') e h K := by
  simp only [evL] at *
  cases hx : ops[x]? with
  | none => simp only [hx] at *; exact hr _ _ _ c
  | some o => simp only [hx] at *; exact evO_mono (fun _ _ k => hr _ _ _ k) c

theorem evL_front {i : Nat} {t2 : List Nat} : ∀ (t1 : List Nat), (∀ x ∈ t1, swapB P ops x i = true) → ∀ e h K, evL P ops (t1 ++ i :: t2) e h K → evL P ops (i :: (t1 ++ t2)) e h K
  | [], _, _, _, _, c => c
  | x :: t1, hs, e, h, K, c => by
    have ih := evL_front (i := i) (t2 := t2) t1 (fun y hy => hs y (by simp [hy]))
    exact evL_swap (hs x (by simp)) (evL_cons ih c)

/-- One order for another: whatever stands the other way round may change places. -/
theorem evL_order : ∀ (s t : List Nat), s.Perm t → s.Nodup → (∀ x i, [x, i].Sublist t → [i, x].Sublist s → swapB P ops x i = true) →
    ∀ e h K, evL P ops t e h K → evL P ops s e h K
  | [], t, hp, _, _, e, h, K, c => by rw [hp.symm.eq_nil] at c; exact c
  | i :: s, t, hp, hn, hs, e, h, K, c => by
    have hi : i ∈ t := hp.subset (by simp)
    obtain ⟨t1, t2, rfl⟩ := List.append_of_mem hi
    have hp' : s.Perm (t1 ++ t2) := (List.perm_cons i).1 (hp.trans List.perm_middle)
    have hn' := List.nodup_cons.1 hn
    have hf := evL_front (P := P) (ops := ops) (i := i) (t2 := t2) t1 (fun x hx => by
      refine hs x i ?_ ?_
      · obtain ⟨a, b, rfl⟩ := List.append_of_mem hx
        have : [x, i].Sublist (x :: (b ++ i :: t2)) := List.Sublist.cons_cons x (List.singleton_sublist.2 (by simp))
        exact this.trans (by simp)
      · have hxs : x ∈ s := hp'.symm.subset (by simp [hx])
        exact List.Sublist.cons_cons i (List.singleton_sublist.2 hxs)) e h K c
    refine evL_cons (fun e h K c => evL_order s (t1 ++ t2) hp' hn'.2 (fun x y h1 h2 => hs x y ?_ (h2.trans (List.sublist_cons_self _ _))) e h K c) hf
    exact h1.trans (by simp)

end
end Go.Fw

/- The framework, part 7: the orders that the model draws, and the check that few of them stand for all. No condition. -/
namespace Go.Fw
open Go

theorem sub_pos {a b : Nat} : ∀ {s : List Nat}, s.Nodup → [a, b].Sublist s → s.idxOf a < s.idxOf b
  | [], _, h => by simp at h
  | c :: s, hn, h => by
    obtain ⟨hc, hn'⟩ := List.nodup_cons.1 hn
    cases h with
    | cons _ h =>
      have ha : a ∈ s := h.subset (by simp)
      have hb : b ∈ s := h.subset (by simp)
      have hac : ¬ c = a := fun e => hc (e ▸ ha)
      have hbc : ¬ c = b := fun e => hc (e ▸ hb)
      have := sub_pos hn' h
      simp only [List.idxOf_cons, cond_false, beq_eq_false_iff_ne.2 hac, beq_eq_false_iff_ne.2 hbc]
      omega
    | cons_cons _ h =>
      have hb : b ∈ s := h.subset (by simp)
      have hbc : ¬ a = b := fun e => hc (e ▸ hb)
      simp only [List.idxOf_cons, beq_self_eq_true, cond_true, beq_eq_false_iff_ne.2 hbc, cond_false]
      omega

section
variable {ops : Array Oper}

def Lin (ops : Array Oper) : Array Bool → List Nat → Prop
  | listed, [] => Region.ready .any ops listed = []
  | listed, i :: l => i ∈ Region.ready .any ops listed ∧ Lin ops (listed.setIfInBounds i true) l

def unl (listed : Array Bool) : Nat := (listed.toList.filter (· == false)).length

theorem unl_set {listed : Array Bool} {i : Nat} (h : listed.getD i true = false) : unl (listed.setIfInBounds i true) < unl listed := by
  unfold unl
  obtain ⟨l⟩ := listed
  simp only [List.setIfInBounds_toArray]
  induction l generalizing i with
  | nil => simp at h
  | cons b l ih =>
    cases i with
    | zero =>
      simp at h; subst h; simp
    | succ i =>
      have h' : (List.toArray l).getD i true = false := by simpa using h
      have := ih h'
      cases b <;> simp at this ⊢ <;> omega

theorem unl_zero {listed : Array Bool} (h : unl listed = 0) (i : Nat) : listed.getD i true = true := by
  unfold unl at h
  have h' : ∀ b ∈ listed.toList, b = true := by
    intro b hb
    have := List.length_eq_zero_iff.1 h
    cases b
    · have hm : false ∈ listed.toList.filter (· == false) := List.mem_filter.2 ⟨hb, rfl⟩
      rw [this] at hm; simp at hm
    · rfl
  by_cases hi : i < listed.size
  · simp only [Array.getD, hi, dif_pos]
    exact h' _ (by simp)
  · simp [hi]

theorem lin_go : ∀ (fuel t : Nat) (listed : Array Bool), unl listed ≤ fuel → Lin ops listed (Region.linearise.go .any ops fuel t listed []) := by
  intro fuel
  induction fuel with
  | zero =>
    intro t listed h
    simp only [Region.linearise.go, List.reverse_nil, Lin]
    cases hr : Region.ready .any ops listed with
    | nil => rfl
    | cons j r =>
      have hj : j ∈ Region.ready .any ops listed := by rw [hr]; simp
      have h0 := (mem_ready.1 hj).1
      rw [unl_zero (by omega) j] at h0
      cases h0
  | succ fuel ih =>
    intro t listed h
    simp only [Region.linearise.go]
    change Lin ops listed (match (Region.ready .any ops listed)[t % (Region.ready .any ops listed).length]? with
      | some i => Region.linearise.go .any ops fuel (t / (Region.ready .any ops listed).length) (listed.setIfInBounds i true) [i]
      | none => [].reverse)
    cases hi : (Region.ready .any ops listed)[t % (Region.ready .any ops listed).length]? with
    | none =>
      simp only [List.reverse_nil, Lin]
      cases hr : Region.ready .any ops listed with
      | nil => rfl
      | cons x xs =>
        rw [hr] at hi
        have hlt : t % (x :: xs).length < (x :: xs).length := Nat.mod_lt _ (by simp)
        rw [List.getElem?_eq_getElem hlt] at hi
        simp at hi
    | some i =>
      have hm : i ∈ Region.ready .any ops listed := List.mem_of_getElem? hi
      simp only []
      rw [linearise_go_acc, List.reverse_singleton, List.singleton_append]
      refine ⟨hm, ih _ _ ?_⟩
      have := unl_set (mem_ready.1 hm).1
      omega

theorem lin_mem : ∀ {l : List Nat} {listed : Array Bool}, Lin ops listed l → ∀ i ∈ l, i < ops.size ∧ listed.getD i true = false
  | [], _, _, _, h => by simp at h
  | j :: l, listed, ⟨hj, hl⟩, i, hi => by
    rcases List.mem_cons.1 hi with rfl | hi
    · obtain ⟨h0, o, ho, _⟩ := mem_ready.1 hj
      exact ⟨(Array.getElem?_eq_some_iff.1 ho).1, h0⟩
    · obtain ⟨h1, h2⟩ := lin_mem hl i hi
      refine ⟨h1, ?_⟩
      by_cases hij : j = i
      · subst hij
        have hlt : j < listed.size := by
          rcases Nat.lt_or_ge j listed.size with h | h
          · exact h
          · simp [Array.getElem?_eq_none h] at h2
        simp [hlt] at h2
      · rwa [getD_set_ne true hij] at h2

theorem lin_nodup : ∀ {l : List Nat} {listed : Array Bool}, Lin ops listed l → l.Nodup
  | [], _, _ => List.nodup_nil
  | j :: l, listed, ⟨hj, hl⟩ => by
    refine List.nodup_cons.2 ⟨fun hm => ?_, lin_nodup hl⟩
    have h2 := (lin_mem hl j hm).2
    have h0 := (mem_ready.1 hj).1
    have hlt : j < listed.size := by
      rcases Nat.lt_or_ge j listed.size with h | h
      · exact h
      · simp [Array.getElem?_eq_none h] at h0
    simp [hlt] at h2

theorem lin_pos : ∀ {l : List Nat} {listed : Array Bool}, Lin ops listed l → ∀ j ∈ l, ∀ o, ops[j]? = some o → ∀ e ∈ o.after, Region.binds .any e = true → listed.getD e.on false = true ∨ (e.on ∈ l ∧ l.idxOf e.on < l.idxOf j)
  | [], _, _, _, h, _, _, _, _, _ => by simp at h
  | i :: l, listed, ⟨hi, hl⟩, j, hj, o, ho, e, he, hb => by
    by_cases hij : i = j
    · subst hij
      obtain ⟨_, o', ho', hall⟩ := mem_ready.1 hi
      obtain rfl := Option.some.inj (ho'.symm.trans ho)
      exact .inl (hall e he hb)
    · have hjl : j ∈ l := (List.mem_cons.1 hj).resolve_left (fun h => hij h.symm)
      rcases lin_pos hl j hjl o ho e he hb with h | ⟨h1, h2⟩
      · by_cases hie : i = e.on
        · refine .inr ⟨by simp [hie], ?_⟩
          simp only [List.idxOf_cons, hie, beq_self_eq_true, cond_true]
          have : ¬ e.on = j := fun h => hij (hie.trans h)
          simp only [beq_eq_false_iff_ne.2 this, cond_false]
          omega
        · rw [getD_set_ne false hie] at h; exact .inl h
      · refine .inr ⟨by simp [h1], ?_⟩
        by_cases hie : i = e.on
        · simp only [List.idxOf_cons, hie, beq_self_eq_true, cond_true]
          have : ¬ e.on = j := fun h => hij (hie.trans h)
          simp only [beq_eq_false_iff_ne.2 this, cond_false]
          omega
        · simp only [List.idxOf_cons, beq_eq_false_iff_ne.2 hie, beq_eq_false_iff_ne.2 hij, cond_false]
          omega

/-- All binding edges lead back. -/
def backB (ops : List Oper) : Bool := ops.zipIdx.all fun (o, j) => o.after.toList.all fun e => !Region.binds .any e || Nat.blt e.on j

theorem backB_spec {l : List Oper} (h : backB l = true) {j : Nat} {o : Oper} (ho : l[j]? = some o) {e : Edge} (he : e ∈ o.after) (hb : Region.binds .any e = true) : e.on < j := by
  simp only [backB, List.all_eq_true] at h
  have h1 := h (o, j) (List.mem_zipIdx_iff_getElem?.2 ho)
  have h2 := h1 e (by simpa using he)
  simp only [hb, Bool.not_true, Bool.false_or, Nat.blt_eq] at h2
  exact h2

theorem lin_all (hb : backB ops.toList = true) : ∀ {l : List Nat} {listed : Array Bool}, listed.size = ops.size → Lin ops listed l → ∀ i, i < ops.size → listed.getD i true = false → i ∈ l
  | [], listed, hs, hl, i, hi, h0 => by
    exfalso
    have key : ∀ n, ∀ i, i ≤ n → i < ops.size → listed.getD i true = true := by
      intro n
      induction n with
      | zero =>
        intro i hin hi
        cases h : listed.getD i true
        · have : i ∈ Region.ready .any ops listed := mem_ready.2 ⟨h, ops[i], by simp [hi], fun e he hbi => by
            have := backB_spec hb (j := i) (o := ops[i]) (by simp [hi]) he hbi
            omega⟩
          rw [show Region.ready .any ops listed = [] from hl] at this
          simp at this
        · rfl
      | succ n ih =>
        intro i hin hi
        cases h : listed.getD i true
        · have : i ∈ Region.ready .any ops listed := mem_ready.2 ⟨h, ops[i], by simp [hi], fun e he hbi => by
            have hlt := backB_spec hb (j := i) (o := ops[i]) (by simp [hi]) he hbi
            have h1 := ih e.on (by omega) (by omega)
            have hsz : e.on < listed.size := by omega
            simp only [Array.getD, hsz, dif_pos] at h1 ⊢
            exact h1⟩
          rw [show Region.ready .any ops listed = [] from hl] at this
          simp at this
        · rfl
    rw [key i i (Nat.le_refl _) hi] at h0
    cases h0
  | j :: l, listed, hs, ⟨hj, hl⟩, i, hi, h0 => by
    by_cases hij : j = i
    · simp [hij]
    · exact List.mem_cons_of_mem _ (lin_all hb (by simpa using hs) hl i hi (by rw [getD_set_ne true hij]; exact h0))

/-! ancestors -/
inductive Anc (l : List Oper) (x : Nat) : Nat → Prop
  | edge {j : Nat} {o : Oper} {e : Edge} (ho : l[j]? = some o) (he : e ∈ o.after) (hb : Region.binds .any e = true) (hx : e.on = x) : Anc l x j
  | far {j : Nat} {o : Oper} {e : Edge} (ho : l[j]? = some o) (he : e ∈ o.after) (hb : Region.binds .any e = true) (hx : Anc l x e.on) : Anc l x j

def maskOf (acc : List Nat) (o : Oper) : Nat := o.after.toList.foldl (fun m e => match Region.binds .any e with | true => m ||| (1 <<< e.on) ||| acc.getD e.on 0 | false => m) 0
def masks : List Oper → List Nat → List Nat
  | [], acc => acc
  | o :: r, acc => masks r (acc ++ [maskOf acc o])

theorem mask_spec {acc : List Nat} {x : Nat} : ∀ (es : List Edge) (m : Nat), (es.foldl (fun m e => match Region.binds .any e with | true => m ||| (1 <<< e.on) ||| acc.getD e.on 0 | false => m) m).testBit x = true →
    m.testBit x = true ∨ ∃ e ∈ es, Region.binds .any e = true ∧ (e.on = x ∨ (acc.getD e.on 0).testBit x = true)
  | [], m, h => .inl h
  | e :: es, m, h => by
    simp only [List.foldl_cons] at h
    rcases mask_spec es _ h with h | ⟨e', he', h⟩
    · cases hb : Region.binds .any e with
      | false => simp only [hb] at h; exact .inl h
      | true =>
        simp only [hb, Nat.testBit_or, Bool.or_eq_true] at h
        rcases h with (h | h) | h
        · exact .inl h
        · refine .inr ⟨e, by simp, hb, .inl ?_⟩
          rw [Nat.one_shiftLeft, Nat.testBit_two_pow] at h
          simpa using h
        · exact .inr ⟨e, by simp, hb, .inr h⟩
    · exact .inr ⟨e', by simp [he'], h⟩

theorem masks_spec {l : List Oper} {x : Nat} : ∀ (r : List Oper) (acc : List Nat) (p : List Oper), l = p ++ r → acc.length = p.length → (∀ j, (acc.getD j 0).testBit x = true → Anc l x j) →
    ∀ j, ((masks r acc).getD j 0).testBit x = true → Anc l x j
  | [], acc, p, _, _, h, j, hj => h j hj
  | o :: r, acc, p, hl, hn, h, j, hj => by
    refine masks_spec r (acc ++ [maskOf acc o]) (p ++ [o]) (by simp [hl]) (by simp [hn]) (fun j hj => ?_) j hj
    by_cases h1 : j < acc.length
    · have e1 : (acc ++ [maskOf acc o]).getD j 0 = acc.getD j 0 := by simp only [List.getD_eq_getElem?_getD]; rw [List.getElem?_append_left h1]
      rw [e1] at hj
      exact h j hj
    · by_cases h2 : j = acc.length
      · subst h2
        have e1 : (acc ++ [maskOf acc o]).getD acc.length 0 = maskOf acc o := by simp
        rw [e1] at hj
        have ho : l[acc.length]? = some o := by rw [hl, hn]; simp
        rcases mask_spec _ _ hj with h0 | ⟨e, he, hb, hx⟩
        · simp at h0
        · have he' : e ∈ o.after := by simpa using he
          rcases hx with hx | hx
          · exact .edge ho he' hb hx
          · exact .far ho he' hb (h _ hx)
      · have hz : (acc ++ [maskOf acc o]).getD j 0 = 0 := by
          rw [List.getD_eq_getElem?_getD, List.getElem?_eq_none (by simp; omega)]
          rfl
        rw [hz] at hj
        simp at hj

theorem no_listed (n i : Nat) : (Array.replicate n false).getD i false = false := by simp only [Array.getD]; split <;> simp

theorem anc_pos {s : List Nat} (hl : Lin ops (Array.replicate ops.size false) s) {x j : Nat} (ha : Anc ops.toList x j) : j ∈ s → x ∈ s ∧ s.idxOf x < s.idxOf j := by
  induction ha with
  | edge ho he hb hx =>
    intro hj
    rcases lin_pos hl _ hj _ (by simpa using ho) _ he hb with h | h
    · exfalso
      rw [no_listed] at h; cases h
    · exact hx ▸ h
  | far ho he hb _ ih =>
    intro hj
    rcases lin_pos hl _ hj _ (by simpa using ho) _ he hb with h | h
    · exfalso
      rw [no_listed] at h; cases h
    · obtain ⟨h1, h2⟩ := ih h.1
      exact ⟨h1, by omega⟩
end
end Go.Fw

/- The framework, part 8: a function's code as one formula over the heap, and that a call does what the formula says. No condition. -/
namespace Go.Fw
open Go

/-! ## regions -/
def vecs : Nat → List (List Bool)
  | 0 => [[]]
  | n + 1 => (vecs n).flatMap fun v => [true :: v, false :: v]
theorem mem_vecs : ∀ (v : List Bool), v ∈ vecs v.length
  | [] => by simp [vecs]
  | b :: v => by
    simp only [List.length_cons, vecs, List.mem_flatMap]
    exact ⟨v, mem_vecs v, by cases b <;> simp⟩

def tb (masks : List Nat) (i x : Nat) : Bool := (masks.getD i 0).testBit x
/-- The pairs that stand in no order and may not change places. -/
def conf (P : Program) (ops : List Oper) (ms : List Nat) : List (Nat × Nat) :=
  (List.range ops.length).flatMap fun i => ((List.range i).filter fun x => !(tb ms i x || swapB P ops x i)).map fun x => (x, i)
def orient (c : (Nat × Nat) × Bool) : Nat × Nat := match c.2 with | true => c.1 | false => (c.1.2, c.1.1)
/-- Does x come before i, the pairs lying this way round? -/
def agree (ms : List Nat) (cs : List ((Nat × Nat) × Bool)) (x i : Nat) : Bool := cs.any fun c => (Nat.beq x (orient c).1 || tb ms (orient c).1 x) && (Nat.beq (orient c).2 i || tb ms i (orient c).2)
/-- Does pair d begin where pair c ends, or behind it? -/
def meets (ms : List Nat) (c d : (Nat × Nat) × Bool) : Bool := Nat.beq (orient c).2 (orient d).1 || tb ms (orient d).1 (orient c).2
/-- Two or three pairs that lie this way round would make a ring. -/
def ring (ms : List Nat) (cs : List ((Nat × Nat) × Bool)) : Bool :=
  cs.any fun c => cs.any fun d => meets ms c d && (meets ms d c || cs.any fun e => meets ms d e && meets ms e c)
def fits (P : Program) (ops : List Oper) (ms : List Nat) (cs : List ((Nat × Nat) × Bool)) : List Nat → Bool
  | [] => true
  | x :: r => (r.all fun i => tb ms i x || swapB P ops x i || agree ms cs x i) && fits P ops ms cs r
def nodupB : List Nat → Bool
  | [] => true
  | x :: r => !r.contains x && nodupB r
def isPerm (n : Nat) (t : List Nat) : Bool := nodupB t && t.all (fun i => Nat.blt i n) && (List.range n).all fun i => t.contains i
def regB (P : Program) (ops : List Oper) (reps : List (List Nat)) : Bool :=
  backB ops && reps.all (isPerm ops.length) &&
    (vecs (conf P ops (masks ops [])).length).all fun v =>
      ring (masks ops []) ((conf P ops (masks ops [])).zip v) || reps.any fun t => fits P ops (masks ops []) ((conf P ops (masks ops [])).zip v) t

section
variable {P : Program}

theorem fits_spec {ops : List Oper} {ms : List Nat} {cs : List ((Nat × Nat) × Bool)} : ∀ {t : List Nat}, fits P ops ms cs t = true → ∀ x i, [x, i].Sublist t → tb ms i x = true ∨ swapB P ops x i = true ∨ agree ms cs x i = true
  | [], _, _, _, h => by simp at h
  | y :: r, h, x, i, hs => by
    simp only [fits, Bool.and_eq_true, List.all_eq_true] at h
    cases hs with
    | cons _ hs => exact fits_spec h.2 x i hs
    | cons_cons _ hs =>
      have := h.1 i (hs.subset (by simp))
      simp only [Bool.or_eq_true] at this
      rcases this with (h | h) | h
      · exact .inl h
      · exact .inr (.inl h)
      · exact .inr (.inr h)

theorem nodupB_spec : ∀ {t : List Nat}, nodupB t = true → t.Nodup
  | [], _ => List.nodup_nil
  | x :: r, h => by
    simp only [nodupB, Bool.and_eq_true, Bool.not_eq_true', List.contains_eq_mem, decide_eq_false_iff_not] at h
    exact List.nodup_cons.2 ⟨h.1, nodupB_spec h.2⟩
theorem isPerm_spec {n : Nat} {t s : List Nat} (h : isPerm n t = true) (hs : s.Nodup) (hm : ∀ i ∈ s, i < n) (hall : ∀ i, i < n → i ∈ s) : s.Perm t := by
  simp only [isPerm, Bool.and_eq_true, List.all_eq_true, List.mem_range, Nat.blt_eq] at h
  obtain ⟨⟨h1, h2⟩, h3⟩ := h
  refine (List.perm_ext_iff_of_nodup hs (nodupB_spec h1)).2 fun a => ⟨fun ha => by simpa using h3 a (hm a ha), fun ha => hall a (h2 a ha)⟩

theorem mem_zip_map {α β : Type} {f : α → β} : ∀ {l : List α} {c : α × β}, c ∈ l.zip (l.map f) → c.2 = f c.1 ∧ c.1 ∈ l
  | [], _, h => by simp at h
  | a :: l, c, h => by
    simp only [List.map_cons, List.zip_cons_cons, List.mem_cons] at h
    rcases h with rfl | h
    · exact ⟨rfl, by simp⟩
    · obtain ⟨h1, h2⟩ := mem_zip_map h
      exact ⟨h1, by simp [h2]⟩

theorem idx_inj {s : List Nat} {a b : Nat} (ha : a ∈ s) (hb : b ∈ s) (h : s.idxOf a = s.idxOf b) : a = b := by
  have h1 := List.getElem_idxOf (List.idxOf_lt_length_of_mem ha)
  have h2 := List.getElem_idxOf (List.idxOf_lt_length_of_mem hb)
  rw [← h1, ← h2]
  congr 1

theorem masks_anc {ops : List Oper} {i x : Nat} (h : tb (masks ops []) i x = true) : Anc ops x i :=
  masks_spec ops [] [] rfl rfl (fun j hj => by simp at hj) i h

/-- Whatever order is drawn, one of the listed orders stands for it. -/
theorem regB_spec {ops : Array Oper} {reps : List (List Nat)} (h : regB P ops.toList reps = true) {s : List Nat} (hl : Lin ops (Array.replicate ops.size false) s)
    {e : Env} {hp : Hp} {K : Env → Hp → Prop} (c : ∀ t ∈ reps, evL P ops.toList t e hp K) : evL P ops.toList s e hp K := by
  simp only [regB, Bool.and_eq_true] at h
  obtain ⟨⟨hb, hp'⟩, hv⟩ := h
  have hnd := lin_nodup hl
  have hm : ∀ i ∈ s, i < ops.toList.length := fun i hi => by simpa using (lin_mem hl i hi).1
  have hall : ∀ i, i < ops.toList.length → i ∈ s := fun i hi => lin_all hb (by simp) hl i (by simpa using hi) (by
    have hi' : i < ops.size := by simpa using hi
    simp only [Array.getD, Array.size_replicate, hi', dif_pos]
    simp)
  generalize hcf : conf P ops.toList (masks ops.toList []) = cf at hv
  have hcm : ∀ a b, (a, b) ∈ cf → a < b ∧ b < ops.toList.length := fun a b hab => by
    rw [← hcf] at hab
    simp only [conf, List.mem_flatMap, List.mem_map, List.mem_filter, List.mem_range, Prod.mk.injEq] at hab
    obtain ⟨i, hi, x, ⟨hx, _⟩, rfl, rfl⟩ := hab
    exact ⟨hx, hi⟩
  let v := cf.map fun ab => decide (s.idxOf ab.1 < s.idxOf ab.2)
  have hvl : v.length = cf.length := by simp [v]
  have hvz : ∀ c ∈ cf.zip v, c.2 = decide (s.idxOf c.1.1 < s.idxOf c.1.2) ∧ c.1 ∈ cf := fun c hc => mem_zip_map hc
  have hor : ∀ c ∈ cf.zip v, s.idxOf (orient c).1 < s.idxOf (orient c).2 := by
    intro c hc
    obtain ⟨h1, h2⟩ := hvz c hc
    obtain ⟨h3, h4⟩ := hcm _ _ h2
    unfold orient
    cases h5 : c.2 with
    | true => simp only; rw [h5] at h1; exact of_decide_eq_true h1.symm
    | false =>
      simp only
      rw [h5] at h1
      have h6 := of_decide_eq_false h1.symm
      have h7 : s.idxOf c.1.1 ≠ s.idxOf c.1.2 := fun he => by
        have ha : c.1.1 ∈ s := hall _ (Nat.lt_trans h3 h4)
        have hb' : c.1.2 ∈ s := hall _ h4
        exact Nat.ne_of_lt h3 (idx_inj ha hb' he)
      omega
  have inS : ∀ c ∈ cf.zip v, (orient c).1 ∈ s ∧ (orient c).2 ∈ s := fun c hc => by
    obtain ⟨h3, h4⟩ := hcm _ _ (hvz c hc).2
    unfold orient
    cases c.2
    · exact ⟨hall _ h4, hall _ (Nat.lt_trans h3 h4)⟩
    · exact ⟨hall _ (Nat.lt_trans h3 h4), hall _ h4⟩
  have hv1 := (List.all_eq_true.1 hv) v (by rw [← hvl]; exact mem_vecs v)
  simp only [Bool.or_eq_true, List.any_eq_true] at hv1
  rcases hv1 with hr | ⟨t, ht, hf⟩
  · exfalso
    have le : ∀ c ∈ cf.zip v, ∀ d ∈ cf.zip v, meets (masks ops.toList []) c d = true → s.idxOf (orient c).2 ≤ s.idxOf (orient d).1 := fun c hc d hd h1 => by
      simp only [meets, Bool.or_eq_true] at h1
      rcases h1 with h1 | h1
      · rw [Nat.eq_of_beq_eq_true h1]; exact Nat.le_refl _
      · exact Nat.le_of_lt (anc_pos hl (masks_anc h1) (inS d hd).1).2
    simp only [ring, List.any_eq_true, Bool.and_eq_true, Bool.or_eq_true] at hr
    obtain ⟨c, hc, d, hd, h1, h2⟩ := hr
    have hcs := hor c hc
    have hds := hor d hd
    have le1 := le c hc d hd h1
    rcases h2 with h2 | ⟨e, he, h2, h3⟩
    · have le2 := le d hd c hc h2
      omega
    · have hes := hor e he
      have le2 := le d hd e he h2
      have le3 := le e he c hc h3
      omega
  · refine evL_order s t (isPerm_spec ((List.all_eq_true.1 hp') t ht) hnd hm hall) hnd (fun x i h1 h2 => ?_) e hp K (c t ht)
    have hix := sub_pos hnd h2
    have his : i ∈ s := h2.subset (by simp)
    rcases fits_spec hf x i h1 with h | h | h
    · have := (anc_pos hl (masks_anc h) his).2
      omega
    · exact h
    · exfalso
      simp only [agree, List.any_eq_true, Bool.and_eq_true, Bool.or_eq_true] at h
      obtain ⟨c, hc, h1, h2⟩ := h
      have hcs := hor c hc
      obtain ⟨i1, i2⟩ := inS c hc
      have le1 : s.idxOf x ≤ s.idxOf (orient c).1 := by
        rcases h1 with h1 | h1
        · rw [Nat.eq_of_beq_eq_true h1]; exact Nat.le_refl _
        · exact Nat.le_of_lt (anc_pos hl (masks_anc h1) i1).2
      have le2 : s.idxOf (orient c).2 ≤ s.idxOf i := by
        rcases h2 with h2 | h2
        · rw [Nat.eq_of_beq_eq_true h2]; exact Nat.le_refl _
        · exact Nat.le_of_lt (anc_pos hl (masks_anc h2) his).2
      omega
end
end Go.Fw

/- The framework, part 9: a function's code as one formula over the heap, and that a call does what the formula says. No condition. -/
namespace Go.Fw
open Go

def bigAnd : List (List Nat) → (List Nat → Prop) → Prop
  | [], _ => True
  | [t], f => f t
  | t :: r, f => f t ∧ bigAnd r f
theorem bigAnd_spec {f : List Nat → Prop} : ∀ {l : List (List Nat)}, bigAnd l f → ∀ t ∈ l, f t
  | [], _, t, ht => by simp at ht
  | [a], h, t, ht => by obtain rfl : t = a := by simpa using ht
                        exact h
  | a :: b :: r, h, t, ht => by
    rcases List.mem_cons.1 ht with rfl | ht
    · exact h.1
    · exact bigAnd_spec h.2 t ht

def evR (P : Program) (reps : List (List Nat)) (ops : List Oper) (draw : Bool) (e : Env) (h : Hp) (K : Env → Hp → Prop) : Prop :=
  match draw with
  | false => evL P ops (List.range ops.length) e h K
  | true =>
    match reps with
    | [] => (match regB P ops [List.range ops.length] with | true => evL P ops (List.range ops.length) e h K | false => False)
    | r => (match regB P ops r with | true => bigAnd r fun t => evL P ops t e h K | false => False)

def condT (v : Value) (p q : Prop) : Prop := match v with | .bool true => p | .bool false => q | _ => False

def dsts : Code → List Nat
  | .region _ ops _ => ops.toList.filterMap (·.dst)
  | .seq a b | .cond _ a b => dsts a ++ dsts b
  | .block _ b | .loop b | .scope b => dsts b
  | _ => []
/-- The first region of a piece of code: by it a loop is named. -/
def firstR : Code → Nat
  | .region id _ _ => id
  | .seq a _ => firstR a
  | .cond _ a _ => firstR a
  | .block _ b | .loop b | .scope b => firstR b
  | _ => 0

def thenQ (next : Env → Hp → Prop) (Q : Exit → Env → Hp → Prop) : Exit → Env → Hp → Prop
  | .normal, e, h => next e h
  | x, e, h => Q x e h
def inBlockQ (id : Nat) (Q : Exit → Env → Hp → Prop) : Exit → Env → Hp → Prop
  | .exit id', e, h => (match Nat.beq id' id with | true => Q .normal e h | false => Q (.exit id') e h)
  | x, e, h => Q x e h

def allV : List Nat → (Env → Prop) → Env → Prop
  | [], p, e => p e
  | d :: ds, p, e => ∀ v, allV ds p (upd e d v)
def getV (e : Env) : List Nat → List Value
  | [] => []
  | t :: r => e t :: getV e r
/-- Do all operations write below n? -/
def below (n : Nat) (c : Code) : Bool := (dsts c).all fun d => Nat.blt d n

def nubT : List Nat → List Nat
  | [] => []
  | d :: r => (match (nubT r).contains d with | true => nubT r | false => d :: nubT r)

def evC (P : Program) (ann : Nat → List Nat) (rp : Nat → List (List Nat)) : Code → Env → Hp → (Exit → Env → Hp → Prop) → Prop
  | .skip, e, h, Q => Q .normal e h
  | .region id ops draw, e, h, Q => evR P (rp id) ops.toList draw e h (Q .normal)
  | .seq x y, e, h, Q => evC P ann rp x e h (thenQ (fun e h => evC P ann rp y e h Q) Q)
  | .cond c x y, e, h, Q => condT (ev e c) (evC P ann rp x e h Q) (evC P ann rp y e h Q)
  | .block id b, e, h, Q => evC P ann rp b e h (inBlockQ id Q)
  | .loop b, e, h, Q => ∃ (I : List Value → Hp → Prop) (μ : List Value → Hp → Nat), I (getV e (ann (firstR b))) h ∧
      allV (nubT (dsts b)) (fun e => ∀ h, I (getV e (ann (firstR b))) h → evC P ann rp b e h
        (thenQ (fun e' h' => I (getV e' (ann (firstR b))) h' ∧ μ (getV e' (ann (firstR b))) h' < μ (getV e (ann (firstR b))) h) Q)) e
  | .exit id, e, h, Q => Q (.exit id) e h
  | .ret, e, h, Q => Q .ret e h
  | _, _, _, _ => False

def resT (P : Program) (e : Env) (h : Hp) : List ResultVar → Option (List Value)
  | [] => some []
  | .tmp t :: r => (resT P e h r).map fun l => e t :: l
  | .cell a t :: r => (match ldK P t with
    | some (some n) => (ldA n h (e a)).bind fun v => (resT P e h r).map fun l => v :: l
    | some none => (ldS h (e a)).bind fun v => (resT P e h r).map fun l => v :: l
    | none => none)
def packV : List Value → Value | [v] => v | l => .tuple l.toArray
def retC (P : Program) (e : Env) (h : Hp) : List ResultVar → (List Value → Prop) → Prop
  | [], K => K []
  | .tmp t :: r, K => retC P e h r fun l => K (e t :: l)
  | .cell a t :: r, K => (match ldK P t with
    | some (some n) => bnd (ldA n h (e a)) fun v => retC P e h r fun l => K (v :: l)
    | some none => bnd (ldS h (e a)) fun v => retC P e h r fun l => K (v :: l)
    | none => False)
def retQ (P : Program) (rs : List ResultVar) (R : Value → Hp → Prop) (e : Env) (h : Hp) : Prop := retC P e h rs fun l => R (packV l) h
def bodyQ (P : Program) (rs : List ResultVar) (R : Value → Hp → Prop) : Exit → Env → Hp → Prop
  | .normal, e, h | .ret, e, h => retQ P rs R e h
  | _, _, _ => False

section
variable {P : Program}

/-- The frame and the temporaries as the formula has them. -/
structure Fits (n : Nat) (a : Act) (e : Env) : Prop where
  size : a.tmps.size = n
  get : ∀ t, a.tmps.getD t undef = e t

/-- What stays as it was, while code runs. -/
structure Stay (n : Nat) (ds : List Nat) (a : Act) (e : Env) (w : World) (a' : Act) (e' : Env) (w' : World) : Prop where
  tmps : Fits n a' e'
  defers : a'.defers = a.defers
  same : same w w'
  keep : ∀ i, i ∉ ds → e' i = e i

theorem Stay.refl {n : Nat} {ds : List Nat} {a : Act} {e : Env} {w : World} (h : Fits n a e) : Stay n ds a e w a e w := ⟨h, rfl, .refl w, fun _ _ => rfl⟩
theorem Stay.trans {n : Nat} {ds ds' ds'' : List Nat} {a b c : Act} {e f g : Env} {w x y : World} (h : Stay n ds a e w b f x) (k : Stay n ds' b f x c g y) (h1 : ∀ i, i ∈ ds → i ∈ ds'') (h2 : ∀ i, i ∈ ds' → i ∈ ds'') : Stay n ds'' a e w c g y :=
  ⟨k.tmps, k.defers.trans h.defers, h.same.trans k.same, fun i hi => (k.keep i (fun h => hi (h2 i h))).trans (h.keep i (fun h => hi (h1 i h)))⟩

theorem eval_ev {n : Nat} {a : Act} {e : Env} (h : Fits n a e) (x : Operand) : a.eval x = ev e x := by
  cases x
  · exact h.get _
  all_goals rfl
theorem eval_fun {n : Nat} {a : Act} {e : Env} (h : Fits n a e) : a.eval = ev e := funext (eval_ev h)

theorem upd_same (e : Env) (d : Nat) (v : Value) : upd e d v d = v := by simp [upd]
theorem upd_other (e : Env) {d t : Nat} (v : Value) (h : t ≠ d) : upd e d v t = e t := by
  have hb : Nat.beq t d = false := by
    cases hb : Nat.beq t d
    · rfl
    · exact absurd (Nat.eq_of_beq_eq_true hb) h
  simp only [upd, hb, cond_false]

theorem put_act {n : Nat} {a : Act} {e : Env} (h : Fits n a e) (d : Option Tmp) (v : Value) (hd : ∀ t, d = some t → t < n) : Fits n (a.put d v) (put e d v) := by
  cases d with
  | none => exact h
  | some d =>
    have hlt : d < a.tmps.size := by rw [h.size]; exact hd d rfl
    refine ⟨by simp [Act.put, h.size], fun t => ?_⟩
    by_cases ht : t = d
    · subst ht
      simp [Act.put, put, upd_same, hlt]
    · rw [show put e (some d) v t = e t from upd_other e v ht, ← h.get t]
      have hne : d ≠ t := fun he => ht he.symm
      simp [Act.put, Array.getElem?_setIfInBounds_ne hne]

theorem stay_put {n : Nat} {ds : List Nat} {a : Act} {e : Env} {w w' : World} (h : Fits n a e) (hs : same w w') (d : Option Tmp) (v : Value) (hd : ∀ t, d = some t → t ∈ ds) (hn : ∀ t, d = some t → t < n) :
    Stay n ds a e w (a.put d v) (put e d v) w' := by
  refine ⟨put_act h d v hn, by cases d <;> rfl, hs, fun i hi => ?_⟩
  cases d with
  | none => rfl
  | some t => exact upd_other e v (fun he => hi (he ▸ hd t rfl))

theorem wanted_B {n : Nat} {ops : Array Oper} {a : Act} {e : Env} (h : Fits n a e) {o : Oper} {j : Nat} {b : Bool} (hg : o.guard = some (j, b)) :
    Region.wanted o (yielded ops a.tmps) = wantB ops.toList e j b := by
  unfold Region.wanted wantB yielded
  rw [hg]
  simp only [Array.getElem?_toList]
  cases hj : ops[j]? with
  | none => simp
  | some p =>
    cases hd : p.dst with
    | none => simp [hd]
    | some t =>
      have hg := h.get t
      simp only [Option.bind_some, hd, ← hg]
      cases ht : a.tmps[t]? with
      | none => simp [ht, isB, undef]
      | some v => cases v <;> simp [ht, isB]

theorem fine_upon {K : Value → Hp → Prop} {w : World} {r : Result Next} (h : Fine P K w r) {o : Oper} {a : Act} {next : Act → World → Prop} {Q : Exit → Act → World → Prop}
    (hn : ∀ v w', same w w' → K v w'.heap → next (a.put o.dst v) w') : o.upon P a next Q r := by
  unfold Fine at h
  split at h
  · exact hn _ _ h.1 h.2
  · exact hn _ _ h.1 h.2
  · refine (h.2 _ rfl).mono ?_
    rintro e w'' ⟨v, rfl, hs, k⟩
    exact hn _ _ (h.1.trans hs) k
  · exact h.elim

theorem evL_sound {n : Nat} {ops : Array Oper} {ds : List Nat} (hds : ∀ o ∈ ops.toList, ∀ t, o.dst = some t → t ∈ ds) (hn : ∀ t ∈ ds, t < n) {Q : Exit → Act → World → Prop} {K : Env → Hp → Prop} :
    ∀ (l : List Nat) (a : Act) (e : Env) (w : World), Fits n a e → evL P ops.toList l e w.heap K →
      (∀ a' e' w', Stay n ds a e w a' e' w' → K e' w'.heap → Q .normal a' w') → wpOps P ops Q l a w
  | [], a, e, w, ht, hk, hQ => hQ a e w (.refl ht) hk
  | i :: r, a, e, w, ht, hk, hQ => by
    simp only [evL, Array.getElem?_toList] at hk
    simp only [wpOps]
    cases ho : ops[i]? with
    | none => simp only [ho] at hk ⊢; exact evL_sound hds hn r a e w ht hk hQ
    | some o =>
      simp only [ho] at hk ⊢
      have hd : ∀ t, o.dst = some t → t ∈ ds := hds o (by simpa using Array.mem_of_getElem? ho)
      have next : ∀ v w', same w w' → evL P ops.toList r (put e o.dst v) w'.heap K → wpOps P ops Q r (a.put o.dst v) w' := fun v w' hs k =>
        evL_sound hds hn r (a.put o.dst v) (put e o.dst v) w' (put_act ht _ _ (fun t h => hn t (hd t h))) k fun a' e' w'' st k' =>
          hQ a' e' w'' ((stay_put ht hs o.dst v hd (fun t h => hn t (hd t h))).trans st (fun _ h => h) (fun _ h => h)) k'
      unfold evO at hk
      cases hg : o.guard with
      | none =>
        simp only [hg] at hk
        rw [if_pos (by simp [Region.wanted, hg])]
        refine .inl ?_
        unfold Oper.wp
        rw [eval_fun ht]
        exact fine_upon (res_fine hk) next
      | some jb =>
        obtain ⟨j, b⟩ := jb
        simp only [hg] at hk
        rw [wanted_B ht hg]
        rw [Res.runG_iff] at hk
        cases hw : wantB ops.toList e j b with
        | true =>
          rw [hw] at hk
          rw [if_pos rfl]
          refine .inl ?_
          unfold Oper.wp
          rw [eval_fun ht]
          exact fine_upon (res_fine hk) next
        | false =>
          rw [hw] at hk
          rw [if_neg (by simp)]
          exact next undef w (.refl w) hk

theorem mem_nub {d : Nat} : ∀ {l : List Nat}, d ∈ l → d ∈ nubT l
  | c :: l, h => by
    unfold nubT
    rcases List.mem_cons.1 h with rfl | h
    · split
      · rename_i hc; simpa using hc
      · simp
    · have := mem_nub h
      split
      · exact this
      · simp [this]
theorem nub_mem {d : Nat} : ∀ {l : List Nat}, d ∈ nubT l → d ∈ l
  | [], h => by simp [nubT] at h
  | c :: l, h => by
    unfold nubT at h
    split at h
    · exact List.mem_cons_of_mem _ (nub_mem h)
    · rcases List.mem_cons.1 h with rfl | h
      · simp
      · exact List.mem_cons_of_mem _ (nub_mem h)

theorem allV_spec {p : Env → Prop} : ∀ {ds : List Nat} {e : Env}, allV ds p e → ∀ e' : Env, (∀ i, i ∉ ds → e' i = e i) → p e'
  | [], e, h, e', hk => by
    have : e' = e := funext fun i => hk i (by simp)
    rw [this]; exact h
  | d :: ds, e, h, e', hk => by
    refine allV_spec (h (e' d)) e' fun i hi => ?_
    by_cases hid : i = d
    · subst hid; rw [upd_same]
    · rw [upd_other e _ hid]
      exact hk i (by simp [hid, hi])

theorem evC_sound (hm : P.follows .mixedOrders = true) {ann : Nat → List Nat} {rp : Nat → List (List Nat)} {n : Nat} : ∀ (c : Code) (_ : ∀ t ∈ dsts c, t < n) (a : Act) (e : Env) (w : World) (Q : Exit → Env → Hp → Prop), Fits n a e →
    evC P ann rp c e w.heap Q → c.wp P (fun x a' w' => ∃ e', Stay n (dsts c) a e w a' e' w' ∧ Q x e' w'.heap) a w := by
  intro c
  induction c with
  | skip => exact fun _ a e w Q ht h => wp_skip ⟨e, .refl ht, h⟩
  | region id ops draw =>
    intro hn a e w Q ht h
    have hds : ∀ o ∈ ops.toList, ∀ t, o.dst = some t → t ∈ dsts (.region id ops draw) := fun o ho t hd => List.mem_filterMap.2 ⟨o, ho, hd⟩
    simp only [evC, evR] at h
    cases draw with
    | false =>
      simp only at h
      refine wp_region ?_
      rw [← Array.length_toList]
      exact evL_sound hds hn _ a e w ht h fun a' e' w' st k => ⟨e', st, k⟩
    | true =>
      have go : ∀ reps, regB P ops.toList reps = true → (∀ t ∈ reps, evL P ops.toList t e w.heap (Q .normal)) → (Code.region id ops true).wp P (fun x a' w' => ∃ e', Stay n (dsts (.region id ops true)) a e w a' e' w' ∧ Q x e' w'.heap) a w := fun reps hr hall => by
        refine wp_region_draw fun t => ?_
        have hlin : Lin ops (Array.replicate ops.size false) (Region.linearise.go .any ops ops.size t (Array.replicate ops.size false) []) := lin_go _ _ _ (by simp [unl])
        have hs := regB_spec hr hlin hall
        simp only [Region.schedule, hm, Bool.true_or, if_true, Region.linearise]
        refine evL_sound hds hn _ a e { w with drawn := w.drawn + 1 } ht hs fun a' e' w' st k => ⟨e', ?_, k⟩
        exact ⟨st.tmps, st.defers, st.same, st.keep⟩
      simp only at h
      split at h
      · split at h
        · rename_i hr
          exact go _ hr (fun t ht' => by obtain rfl : t = List.range ops.toList.length := by simpa using ht'
                                         exact h)
        · exact h.elim
      · split at h
        · rename_i hr
          exact go _ hr (bigAnd_spec h)
        · exact h.elim
  | seq x y ihx ihy =>
    intro hn a e w Q ht h
    refine wp_seq (wp_mono (ihx (fun t h => hn t (by simp [dsts, h])) a e w _ ht h) ?_)
    rintro ex a' w' ⟨e', st, k⟩
    cases ex with
    | normal =>
      refine wp_mono (ihy (fun t h => hn t (by simp [dsts, h])) a' e' w' Q st.tmps k) ?_
      rintro ex a'' w'' ⟨e'', st', k'⟩
      exact ⟨e'', st.trans st' (fun _ h => by simp [dsts, h]) (fun _ h => by simp [dsts, h]), k'⟩
    | _ => exact ⟨e', ⟨st.tmps, st.defers, st.same, fun i hi => st.keep i (fun h => hi (by simp [dsts, h]))⟩, k⟩
  | cond c x y ihx ihy =>
    intro hn a e w Q ht h
    simp only [evC, condT] at h
    have wk : ∀ (z : Code) (_ : ∀ t, t ∈ dsts z → t ∈ dsts (.cond c x y)), z.wp P (fun x a' w' => ∃ e', Stay n (dsts z) a e w a' e' w' ∧ Q x e' w'.heap) a w → z.wp P (fun ex a' w' => ∃ e', Stay n (dsts (.cond c x y)) a e w a' e' w' ∧ Q ex e' w'.heap) a w := fun z hz hw =>
      wp_mono hw fun ex a' w' ⟨e', st, k⟩ => ⟨e', ⟨st.tmps, st.defers, st.same, fun i hi => st.keep i (fun h => hi (hz i h))⟩, k⟩
    split at h
    · rename_i hc
      exact wp_cond_true ((eval_ev ht c).trans hc) (wk x (fun t h => by simp [dsts, h]) (ihx (fun t h => hn t (by simp [dsts, h])) a e w Q ht h))
    · rename_i hc
      exact wp_cond_false ((eval_ev ht c).trans hc) (wk y (fun t h => by simp [dsts, h]) (ihy (fun t h => hn t (by simp [dsts, h])) a e w Q ht h))
    · exact h.elim
  | block id b ih =>
    intro hn a e w Q ht h
    refine wp_block (wp_mono (ih hn a e w _ ht h) ?_)
    rintro ex a' w' ⟨e', st, k⟩
    cases ex with
    | exit id' =>
      simp only [inBlockQ] at k
      simp only [Exit.inBlock]
      split at k
      · rename_i hb; rw [if_pos (Nat.eq_of_beq_eq_true hb)]; exact ⟨e', st, k⟩
      · rename_i hb
        rw [if_neg (fun he => by rw [he] at hb; rw [Nat.beq_refl] at hb; cases hb)]
        exact ⟨e', st, k⟩
    | _ => exact ⟨e', st, k⟩
  | loop b ih =>
    intro hn a e w Q ht h
    obtain ⟨I, μ, h0, hall⟩ := h
    have gv : ∀ (a : Act) (e : Env), Fits n a e → ∀ l, getV (fun t => a.tmps.getD t undef) l = getV e l := fun a e hf l => by rw [funext hf.get]
    refine wp_loop (fun a' w' => ∃ e', Stay n (dsts b) a e w a' e' w' ∧ I (getV e' (ann (firstR b))) w'.heap) (fun a' w' => μ (getV (fun t => a'.tmps.getD t undef) (ann (firstR b))) w'.heap) ⟨e, .refl ht, h0⟩ ?_
    rintro a1 w1 ⟨e1, st1, hI⟩
    have hb := allV_spec hall e1 (fun i hi => st1.keep i (fun hm => hi (mem_nub hm))) w1.heap hI
    refine wp_mono (ih hn a1 e1 w1 _ st1.tmps hb) ?_
    rintro ex a2 w2 ⟨e2, st2, k⟩
    have st := st1.trans (ds'' := dsts b) st2 (fun _ h => h) (fun _ h => h)
    cases ex with
    | normal =>
      obtain ⟨k1, k2⟩ := k
      refine ⟨⟨e2, st, k1⟩, ?_⟩
      rw [gv a2 e2 st2.tmps, gv a1 e1 st1.tmps]
      exact k2
    | _ => exact ⟨e2, st, k⟩
  | rangeFunc f ps as b iha ihb => exact fun _ a e w Q ht h => h.elim
  | exit id => exact fun _ a e w Q ht h => wp_exit ⟨e, .refl ht, h⟩
  | scope b ih => exact fun _ a e w Q ht h => h.elim
  | label l => exact fun _ a e w Q ht h => h.elim
  | goto l => exact fun _ a e w Q ht h => h.elim
  | ret => exact fun _ a e w Q ht h => wp_ret ⟨e, .refl ht, h⟩
  | refuse why => exact fun _ a e w Q ht h => h.elim

def resF (tmps : Array Value) : ResultVar → Sem Value
  | .tmp t => pure (tmps.getD t undef)
  | .cell x t => do loadVar t (← asAddr (tmps.getD x undef))

theorem resT_run {n : Nat} {e : Env} {a : Act} (ht : Fits n a e) {w : World} : ∀ {rs : List ResultVar} {l : List Value}, resT P e w.heap rs = some l →
    (rs.mapM (resF a.tmps)).run P w = .ok l w
  | [], l, h => by simp [resT] at h; subst h; simp
  | .tmp t :: r, l, h => by
    simp only [resT, Option.map_eq_some_iff] at h
    obtain ⟨l', hl, rfl⟩ := h
    simp only [List.mapM_cons, Sem.run_bind, resF, Sem.run_pure, Result.andThen_ok, resT_run ht hl, ht.get]
  | .cell x t :: r, l, h => by
    have hx : a.tmps.getD x undef = e x := ht.get x
    simp only [resT] at h
    have addr : ∀ {v u : Value}, (Instr.loadAt t v).run P w = .ok u w → (do loadVar t (← asAddr v) : Sem Value).run P w = .ok u w := fun {v u} hv => by
      unfold Instr.loadAt Instr.sureAddr at hv
      cases v <;> simp at hv
      rename_i p
      cases p <;> simp at hv
      simpa [asAddr] using hv
    split at h
    · rename_i n hk
      simp only [Option.bind_eq_some_iff, Option.map_eq_some_iff] at h
      obtain ⟨v, hv, l', hl, rfl⟩ := h
      simp only [List.mapM_cons, resF, hx]
      rw [Sem.run_bind, addr (run_ldA hk hv)]
      simp only [Result.andThen_ok, Sem.run_bind, resT_run ht hl, Sem.run_pure]
    · rename_i hk
      simp only [Option.bind_eq_some_iff, Option.map_eq_some_iff] at h
      obtain ⟨v, hv, l', hl, rfl⟩ := h
      simp only [List.mapM_cons, resF, hx]
      rw [Sem.run_bind, addr (run_ldS hk hv)]
      simp only [Result.andThen_ok, Sem.run_bind, resT_run ht hl, Sem.run_pure]
    · simp at h

theorem retC_resT {e : Env} {h : Hp} : ∀ {rs : List ResultVar} {K : List Value → Prop}, retC P e h rs K → ∃ l, resT P e h rs = some l ∧ K l
  | [], K, k => ⟨[], rfl, k⟩
  | .tmp t :: r, K, k => by
    obtain ⟨l, h1, h2⟩ := retC_resT (rs := r) k
    exact ⟨_, by simp [resT, h1], h2⟩
  | .cell a t :: r, K, k => by
    simp only [retC] at k
    simp only [resT]
    split at k
    · obtain ⟨v, hv, k⟩ := k
      obtain ⟨l, h1, h2⟩ := retC_resT (rs := r) k
      exact ⟨v :: l, by simp only [hv, h1, Option.bind_some, Option.map_some], h2⟩
    · obtain ⟨v, hv, k⟩ := k
      obtain ⟨l, h1, h2⟩ := retC_resT (rs := r) k
      exact ⟨v :: l, by simp only [hv, h1, Option.bind_some, Option.map_some], h2⟩
    · exact k.elim
theorem retQ_resT {rs : List ResultVar} {R : Value → Hp → Prop} {e : Env} {h : Hp} (k : retQ P rs R e h) : ∃ l, resT P e h rs = some l ∧ R (packV l) h := retC_resT k

theorem results_run {n : Nat} {fn : Func} {R : Value → Hp → Prop} {e : Env} {a : Act} (ht : Fits n a e) {w : World} (k : retQ P fn.results.toList R e w.heap) :
    ∃ v, (results fn a.tmps).run P w = .ok v w ∧ R v w.heap := by
  obtain ⟨l, h1, h2⟩ := retQ_resT k
  have hr := resT_run ht h1
  refine ⟨packV l, ?_, h2⟩
  have hres : results fn a.tmps = (do let vs ← fn.results.mapM (resF a.tmps); pure (if h : vs.size = 1 then vs[0] else .tuple vs)) := rfl
  have hm : (fn.results.mapM (resF a.tmps)).run P w = .ok l.toArray w := by
    rw [Array.mapM_eq_mapM_toList, Sem.run_map, hr]; rfl
  rw [hres, Sem.run_bind, hm]
  simp only [Result.andThen_ok, Sem.run_pure]
  congr 1
  match l with
  | [] => rfl
  | [v] => rfl
  | v :: u :: r => simp [packV]

/-- The temporaries at a call's begin. -/
def env0 : List Value → Env
  | [], _ => undef
  | v :: _, 0 => v
  | _ :: r, t + 1 => env0 r t
theorem env0_get : ∀ (l : List Value) (n t : Nat), (l ++ List.replicate n undef).getD t undef = env0 l t
  | [], n, t => by
    simp only [List.nil_append, env0, List.getD_eq_getElem?_getD, List.getElem?_replicate]
    split <;> rfl
  | v :: r, n, 0 => rfl
  | v :: r, n, t + 1 => env0_get r n t

/-- **A CALL DOES WHAT THE FORMULA SAYS.** -/
theorem calls_of_evC {f : FuncId} {fn : Func} {c : Code} {args : List Value} {h : Hp} {R : Value → Hp → Prop} (ann : Nat → List Nat) (rp : Nat → List (List Nat)) (hm : P.follows .mixedOrders = true)
    (hf : P.funcs[f]? = some fn) (hb : fn.body = some c) (hn : below fn.ntmps c = true) (hl : Nat.ble args.length fn.ntmps = true) (k : evC P ann rp c (env0 args) h (bodyQ P fn.results.toList R)) : CallsH P f args.toArray h R := by
  intro w hw
  subst hw
  refine calls_of_wp hf hb ?_
  have hl := Nat.le_of_ble_eq_true hl
  have ht : Fits fn.ntmps { tmps := args.toArray ++ Array.replicate (fn.ntmps - args.toArray.size) undef, defers := [] } (env0 args) := by
    refine ⟨by simp; omega, fun t => ?_⟩
    rw [← env0_get args (fn.ntmps - args.length) t]
    have e : (args.toArray ++ Array.replicate (fn.ntmps - args.toArray.size) undef) = (args ++ List.replicate (fn.ntmps - args.length) undef).toArray := by simp
    rw [e]
    simp
  refine wp_mono (evC_sound hm c (fun t h => by have := (List.all_eq_true.1 hn) t h; rwa [Nat.blt_eq] at this) _ _ w _ ht k) ?_
  rintro ex a' w' ⟨e', st, k'⟩
  cases ex with
  | normal =>
    obtain ⟨v, hv, hR⟩ := results_run (fn := fn) st.tmps k'
    exact ⟨st.defers, v, hv, v, rfl, st.same, hR⟩
  | ret =>
    obtain ⟨v, hv, hR⟩ := results_run (fn := fn) st.tmps k'
    exact ⟨st.defers, v, hv, v, rfl, st.same, hR⟩
  | _ => exact k'.elim

end
attribute [irreducible] evC
end Go.Fw

/- The framework, part 10: rules by which the formulas are reckoned. No condition. -/
namespace Go.Fw
open Go

/-! ## the simp rules -/
@[simp] theorem bnd_some {α : Type} (a : α) (K : α → Prop) : bnd (some a) K ↔ K a := ⟨fun ⟨_, e, k⟩ => by cases e; exact k, fun k => ⟨a, rfl, k⟩⟩
@[simp] theorem bnd_none {α : Type} (K : α → Prop) : bnd (none : Option α) K ↔ False := ⟨fun ⟨_, e, _⟩ => by simp at e, False.elim⟩
@[simp] theorem bnd_ite {α : Type} (c : Prop) [Decidable c] (a : α) (K : α → Prop) : bnd (if c then some a else none) K ↔ c ∧ K a := by
  by_cases h : c <;> simp [h]
@[simp] theorem nw_eq (h : Hp) (c : Array Value) (E : TypeId) (mk : Nat → Value) (K : Value → Hp → Prop) : nw h c E mk K ↔ K (mk h.size) (h.push (.cells c E (0, 0))) := Iff.rfl
@[simp] theorem nwM_eq (h : Hp) (K : Value → Hp → Prop) : nwM h K ↔ K (.map (some h.size)) (h.push (.map #[] 0)) := Iff.rfl
@[simp] theorem ptr0_eq (b : Nat) : ptr0 b = .pointer (some ⟨b, 0, none⟩) := rfl
@[simp] theorem condT_bool (b : Bool) (p q : Prop) : condT (.bool b) p q ↔ (if b = true then p else q) := by cases b <;> simp [condT]
@[simp] theorem isB_bool (a b : Bool) : isB (.bool a) b = (a == b) := rfl
@[simp] theorem asB_bool (b : Bool) : asB (.bool b) = some b := rfl
@[simp] theorem guardT_true (F : (Value → Hp → Prop) → Prop) (h : Hp) (K : Value → Hp → Prop) : guardT true F h K ↔ F K := by simp [guardT]
@[simp] theorem guardT_false (F : (Value → Hp → Prop) → Prop) (h : Hp) (K : Value → Hp → Prop) : guardT false F h K ↔ K undef h := by simp [guardT]
@[simp] theorem nilE_ptr (a : Addr) : nilE (.pointer (some a)) = some (.pointer (some a)) := rfl
@[simp] theorem nilE_none : nilE (.pointer none) = none := rfl
@[simp] theorem nilE_func (f : FuncId) (a b : Array Value) : nilE (.func (.func f) a b) = some (.func (.func f) a b) := rfl
@[simp] theorem nilE_iface (t : TypeId) (v : Value) : nilE (.iface t v) = some (.iface t v) := rfl
@[simp] theorem fldE_ptr (off b o : Nat) : fldE off (.pointer (some ⟨b, o, none⟩)) = some (.pointer (some ⟨b, o + off, none⟩)) := rfl
@[simp] theorem idxE_sl (sz b o len cap : Nat) (k : IntKind) (n : Int) : idxE sz (.slice (some ⟨b, o, none⟩) len cap) (.int k n) = if 0 ≤ n ∧ n < len then some (.pointer (some ⟨b, o + n.toNat * sz, none⟩)) else none := rfl
@[simp] theorem idxE_nil (sz len cap : Nat) (v : Value) : idxE sz (.slice none len cap) v = none := rfl
@[simp] theorem idxA_ptr (len sz b o : Nat) (k : IntKind) (n : Int) : idxA len sz (.pointer (some ⟨b, o, none⟩)) (.int k n) = if 0 ≤ n ∧ n < len then some (.pointer (some ⟨b, o + n.toNat * sz, none⟩)) else none := rfl
@[simp] theorem idxV_agg (kd : Option Nat) (len n : Nat) (cs : Array Value) (k : IntKind) (i : Int) : idxV kd len n (.agg cs) (.int k i) = if 0 ≤ i ∧ i < len then partE kd (i.toNat * n) cs else none := rfl
@[simp] theorem partE_none (off : Nat) (cs : Array Value) : partE none off cs = cs[off]? := rfl
@[simp] theorem partE_some (n off : Nat) (cs : Array Value) : partE (some n) off cs = some (.agg (cs.extract off (off + n))) := rfl
@[simp] theorem fieldE_agg (k : Option Nat) (off : Nat) (cs : Array Value) : fieldE k off (.agg cs) = partE k off cs := rfl
@[simp] theorem extE_tuple (i : Nat) (vs : Array Value) : extE i (.tuple vs) = vs[i]? := rfl
@[simp] theorem lenE_sl (a : Option Addr) (n c : Nat) : lenE (.slice a n c) = some (.int .i64 n) := rfl
@[simp] theorem lenS_str (s : ByteArray) : lenS (.string s) = some (.int .i64 s.size) := rfl
@[simp] theorem goInt_eq (n : Int) : goInt n = .int .i64 n := rfl
@[simp] theorem cvI_int (k k' : IntKind) (n : Int) : cvI k (.int k' n) = some (.int k (k.wrap n)) := rfl
@[simp] theorem unE_not (b : Bool) : unE .not (.bool b) = some (.bool !b) := rfl
@[simp] theorem unE_neg (k : IntKind) (n : Int) : unE .neg (.int k n) = some (.int k (k.wrap (0 - n))) := rfl
@[simp] theorem cells_agg (c : Array Value) : (Value.agg c).cells = c := rfl
@[simp] theorem cells_int (k : IntKind) (n : Int) : (Value.int k n).cells = #[.int k n] := rfl
@[simp] theorem cells_bool (b : Bool) : (Value.bool b).cells = #[.bool b] := rfl
@[simp] theorem cells_str (s : ByteArray) : (Value.string s).cells = #[.string s] := rfl
@[simp] theorem cells_ptr (a : Option Addr) : (Value.pointer a).cells = #[.pointer a] := rfl
@[simp] theorem cells_slice (a : Option Addr) (n c : Nat) : (Value.slice a n c).cells = #[.slice a n c] := rfl
@[simp] theorem cells_map (a : Option Nat) : (Value.map a).cells = #[.map a] := rfl
@[simp] theorem cells_func (f : Fn) (a b : Array Value) : (Value.func f a b).cells = #[.func f a b] := rfl
@[simp] theorem cells_nilFunc : Value.nilFunc.cells = #[.nilFunc] := rfl
@[simp] theorem cells_iface (t : TypeId) (v : Value) : (Value.iface t v).cells = #[.iface t v] := rfl
@[simp] theorem cells_nilIface : Value.nilIface.cells = #[.nilIface] := rfl

section
variable (k : IntKind) (a b : Int)
@[simp] theorem bin_add : binE .add (.int k a) (.int k b) = some (.int k (k.wrap (a + b))) := by simp [binE, intE]
@[simp] theorem bin_sub : binE .sub (.int k a) (.int k b) = some (.int k (k.wrap (a - b))) := by simp [binE, intE]
@[simp] theorem bin_mul : binE .mul (.int k a) (.int k b) = some (.int k (k.wrap (a * b))) := by simp [binE, intE]
@[simp] theorem bin_quo : binE .quo (.int k a) (.int k b) = if b = 0 then none else some (.int k (k.wrap (a.tdiv b))) := by simp [binE, intE]
@[simp] theorem bin_rem : binE .rem (.int k a) (.int k b) = if b = 0 then none else some (.int k (a.tmod b)) := by simp [binE, intE]
@[simp] theorem bin_eql : binE .eql (.int k a) (.int k b) = some (.bool (decide (a = b))) := by
  have e : (a == b) = decide (a = b) := by by_cases h : a = b <;> simp [h]
  simp [binE, intE, e]
@[simp] theorem bin_neq : binE .neq (.int k a) (.int k b) = some (.bool (decide (a ≠ b))) := by simp [binE, intE]; rfl
@[simp] theorem bin_lss : binE .lss (.int k a) (.int k b) = some (.bool (decide (a < b))) := by simp [binE, intE]
@[simp] theorem bin_leq : binE .leq (.int k a) (.int k b) = some (.bool (decide (a ≤ b))) := by simp [binE, intE]
@[simp] theorem bin_gtr : binE .gtr (.int k a) (.int k b) = some (.bool (decide (a > b))) := by simp [binE, intE]
@[simp] theorem bin_geq : binE .geq (.int k a) (.int k b) = some (.bool (decide (a ≥ b))) := by simp [binE, intE]
end
@[simp] theorem binB_eql (a b : Bool) : binB .eql (.bool a) (.bool b) = some (.bool (a == b)) := rfl
@[simp] theorem binB_neq (a b : Bool) : binB .neq (.bool a) (.bool b) = some (.bool !(a == b)) := rfl
@[simp] theorem nil_p_some (a : Addr) : nilBin .p .eql (.pointer (some a)) (.pointer none) = some (.bool false) := rfl
@[simp] theorem nil_p_none : nilBin .p .eql (.pointer none) (.pointer none) = some (.bool true) := rfl
@[simp] theorem niln_p_some (a : Addr) : nilBin .p .neq (.pointer (some a)) (.pointer none) = some (.bool true) := rfl
@[simp] theorem niln_p_none : nilBin .p .neq (.pointer none) (.pointer none) = some (.bool false) := rfl
@[simp] theorem nil_f_some (f : Fn) (a b : Array Value) : nilBin .f .eql (.func f a b) .nilFunc = some (.bool false) := rfl
@[simp] theorem nil_f_none : nilBin .f .eql .nilFunc .nilFunc = some (.bool true) := rfl

/-! the heap -/
theorem ldS_at {h : Hp} {b o : Nat} {c : Array Value} {E : TypeId} {f : Nat × Nat} (hb : h[b]? = some (.cells c E f)) : ldS h (.pointer (some ⟨b, o, none⟩)) = c[o]? := by simp [ldS, hb]
theorem ldA_at {n : Nat} {h : Hp} {b o : Nat} {c : Array Value} {E : TypeId} {f : Nat × Nat} (hb : h[b]? = some (.cells c E f)) : ldA n h (.pointer (some ⟨b, o, none⟩)) = if o + n ≤ c.size then some (.agg (c.extract o (o + n))) else none := by simp [ldA, hb]
theorem ldS_ptr (h : Hp) (b o : Nat) : ldS h (.pointer (some ⟨b, o, none⟩)) = match h[b]? with | some (.cells c _ _) => c[o]? | _ => none := rfl
theorem ldA_ptr (n : Nat) (h : Hp) (b o : Nat) : ldA n h (.pointer (some ⟨b, o, none⟩)) = match h[b]? with | some (.cells c _ _) => if o + n ≤ c.size then some (.agg (c.extract o (o + n))) else none | _ => none := rfl
theorem stE_at {n : Nat} {h : Hp} {b o : Nat} {c : Array Value} {E : TypeId} (v : Value) (hb : h[b]? = some (.cells c E (0, 0))) :
    stE n h (.pointer (some ⟨b, o, none⟩)) v = if v.cells.size = n ∧ o + n ≤ c.size ∧ v.cells.toList.all Value.oneCell' = true then some (h.setIfInBounds b (.cells (splice c o v.cells.toList) E (0, 0))) else none := by simp [stE, hb]
theorem stE_ptr (n : Nat) (h : Hp) (b o : Nat) (v : Value) : stE n h (.pointer (some ⟨b, o, none⟩)) v = match h[b]? with
    | some (.cells c E (0, 0)) => if v.cells.size = n ∧ o + n ≤ c.size ∧ v.cells.toList.all Value.oneCell' = true then some (h.setIfInBounds b (.cells (splice c o v.cells.toList) E (0, 0))) else none
    | _ => none := rfl
@[simp] theorem one_int (k : IntKind) (n : Int) : (Value.int k n).oneCell' = true := rfl
@[simp] theorem one_bool (b : Bool) : (Value.bool b).oneCell' = true := rfl
@[simp] theorem one_str (s : ByteArray) : (Value.string s).oneCell' = true := rfl
@[simp] theorem one_ptr (a : Option Addr) : (Value.pointer a).oneCell' = true := rfl
@[simp] theorem one_slice (a : Option Addr) (n c : Nat) : (Value.slice a n c).oneCell' = true := rfl
@[simp] theorem one_map (a : Option Nat) : (Value.map a).oneCell' = true := rfl
@[simp] theorem one_func (f : Fn) (a b : Array Value) : (Value.func f a b).oneCell' = true := rfl
@[simp] theorem one_nilFunc : Value.nilFunc.oneCell' = true := rfl
@[simp] theorem one_iface (t : TypeId) (v : Value) : (Value.iface t v).oneCell' = true := rfl
@[simp] theorem one_nilIface : Value.nilIface.oneCell' = true := rfl

theorem eq_size_false {b n : Nat} (h : b < n) : (b = n) = False := by simp; omega
theorem eq_size_false' {b n : Nat} (h : b < n) : (n = b) = False := by simp; omega
theorem eq_add_false {b n k : Nat} (h : b < n) : (b = n + k) = False := by simp; omega
theorem eq_add_false' {b n k : Nat} (h : b < n) : (n + k = b) = False := by simp; omega
theorem lt_add_true {b n k : Nat} (h : b < n) : (b < n + k) = True := by simp; omega

/-! ## what is left alone -/
/-- Which of a block's bytes are frozen. -/
def frz : Option Obj → Nat × Nat
  | some (.cells _ _ f) => f
  | _ => (0, 0)
/-- All blocks of h but those listed are as they were; none has been frozen or thawed. -/
structure Fr (h h' : Hp) (S : List Nat) : Prop where
  size : h.size ≤ h'.size
  keep : ∀ c, c < h.size → c ∉ S → h'[c]? = h[c]?
  fz : ∀ c : Nat, frz h'[c]? = frz h[c]?

theorem Fr.refl (h : Hp) (S : List Nat) : Fr h h S := ⟨Nat.le_refl _, fun _ _ _ => rfl, fun _ => rfl⟩
theorem Fr.trans {h h1 h2 : Hp} {S S1 S2 : List Nat} (a : Fr h h1 S1) (b : Fr h1 h2 S2) (s1 : ∀ c, c < h.size → c ∈ S1 → c ∈ S) (s2 : ∀ c, c < h.size → c ∈ S2 → c ∈ S) : Fr h h2 S :=
  ⟨Nat.le_trans a.size b.size, fun c hc hS => (b.keep c (Nat.lt_of_lt_of_le hc a.size) fun hm => hS (s2 c hc hm)).trans (a.keep c hc fun hm => hS (s1 c hc hm)), fun c => (b.fz c).trans (a.fz c)⟩
theorem Fr.then {h h1 h2 : Hp} {S : List Nat} (a : Fr h h1 S) (b : Fr h1 h2 S) : Fr h h2 S := a.trans b (fun _ _ h => h) (fun _ _ h => h)
theorem Fr.push (h : Hp) (o : Obj) (S : List Nat) (ho : frz (some o) = (0, 0) := by rfl) : Fr h (h.push o) S := ⟨by simp, fun c hc _ => by rw [Array.getElem?_push, if_neg (by omega)], fun c => by
  rw [Array.getElem?_push]
  split
  · rename_i e; subst e; rw [ho]; simp [frz]
  · rfl⟩
theorem Fr.set (h : Hp) (b : Nat) (o : Obj) {S : List Nat} (hb : b < h.size → b ∈ S) (ho : frz (some o) = frz h[b]?) : Fr h (h.setIfInBounds b o) S := ⟨by simp, fun c hc hS => by
  by_cases e : b = c
  · subst e; exact absurd (hb hc) hS
  · rw [Array.getElem?_setIfInBounds_ne e], fun c => by
  by_cases e : b = c
  · subst e
    by_cases hb2 : b < h.size
    · rw [Array.getElem?_setIfInBounds_self_of_lt hb2, ho]
    · rw [Array.getElem?_eq_none (by simp; omega), Array.getElem?_eq_none (by omega)]
  · rw [Array.getElem?_setIfInBounds_ne e]⟩
theorem Fr.new {h h' : Hp} {S : List Nat} (f : Fr h h' S) (o : Obj) (ho : frz (some o) = (0, 0) := by rfl) : Fr h (h'.push o) S := f.trans (Fr.push h' o S ho) (fun _ _ h => h) (fun _ _ h => h)
theorem Fr.set_new {h h' : Hp} {S : List Nat} (f : Fr h h' S) {n : Nat} (hn : h.size ≤ n) (o : Obj) (ho : frz (some o) = (0, 0) := by rfl) : Fr h (h'.setIfInBounds n o) S :=
  ⟨by simpa using f.size, fun c hc hS => by rw [Array.getElem?_setIfInBounds_ne (by omega)]; exact f.keep c hc hS, fun c => by
    by_cases e : n = c
    · subst e
      by_cases hb2 : n < h'.size
      · rw [Array.getElem?_setIfInBounds_self_of_lt hb2, ho, Array.getElem?_eq_none hn]; rfl
      · rw [Array.getElem?_eq_none (by simp; omega), Array.getElem?_eq_none hn]
    · rw [Array.getElem?_setIfInBounds_ne e]; exact f.fz c⟩
theorem Fr.set_in {h h' : Hp} {S : List Nat} (f : Fr h h' S) {n : Nat} (hn : n ∈ S) (o : Obj) (ho : frz (some o) = frz h'[n]?) : Fr h (h'.setIfInBounds n o) S :=
  f.trans (Fr.set h' n o (S := S) (fun _ => hn) ho) (fun _ _ h => h) (fun _ _ h => h)
theorem Fr.get {h h' : Hp} {S : List Nat} (a : Fr h h' S) {b : Nat} {o : Obj} (hb : h[b]? = some o) (hS : b ∉ S) : h'[b]? = some o :=
  (a.keep b (Array.getElem?_eq_some_iff.1 hb).1 hS).trans hb
theorem Fr.mono {h h' : Hp} {S S' : List Nat} (a : Fr h h' S) (s : ∀ c, c < h.size → c ∈ S → c ∈ S') : Fr h h' S' := ⟨a.size, fun c hc hS => a.keep c hc fun hm => hS (s c hc hm), a.fz⟩
theorem lt_of_get {h : Hp} {b : Nat} {o : Obj} (hb : h[b]? = some o) : b < h.size := (Array.getElem?_eq_some_iff.1 hb).1
theorem get_push {h : Hp} {b : Nat} {o o' : Obj} (hb : h[b]? = some o) : (h.push o')[b]? = some o := by
  have := lt_of_get hb
  rw [Array.getElem?_push, if_neg (by omega)]; exact hb
theorem get_new (h : Hp) (o : Obj) : (h.push o)[h.size]? = some o := by simp
theorem get_set {h : Hp} {b : Nat} {o o' : Obj} (hb : h[b]? = some o) : (h.setIfInBounds b o')[b]? = some o' := by simp [lt_of_get hb]
theorem get_set_ne {h : Hp} {b c : Nat} {o o' : Obj} (hb : h[b]? = some o) (hne : c ≠ b) : (h.setIfInBounds c o')[b]? = some o := by rw [Array.getElem?_setIfInBounds_ne hne]; exact hb

end Go.Fw
