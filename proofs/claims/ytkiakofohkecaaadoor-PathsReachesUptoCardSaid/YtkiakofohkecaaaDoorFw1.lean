/- The framework, part 1: what one operation does, seen on the heap alone, and that the model does just that. No condition. -/
import Derived.WalkKit
import Derived.KernelRfl
namespace Go.Fw
open Go

abbrev Hp := Array Obj

def bnd {α : Type} (x : Option α) (K : α → Prop) : Prop := ∃ a, x = some a ∧ K a

def same (w w' : World) : Prop := w'.os = w.os ∧ w'.tape = w.tape ∧ w'.output = w.output
theorem same.refl (w : World) : same w w := ⟨rfl, rfl, rfl⟩
theorem same.trans {a b c : World} (h : same a b) (k : same b c) : same a c := ⟨k.1.trans h.1, k.2.1.trans h.2.1, k.2.2.trans h.2.2⟩

/-- A call, seen on the heap alone. -/
def CallsH (P : Program) (f : FuncId) (args : Array Value) (h : Hp) (R : Value → Hp → Prop) : Prop :=
  ∀ w, w.heap = h → Calls P f args w fun e w' => ∃ v, e = .returned v ∧ same w w' ∧ R v w'.heap

theorem CallsH.mono {P : Program} {f : FuncId} {args : Array Value} {h : Hp} {R R' : Value → Hp → Prop} (c : CallsH P f args h R) (hr : ∀ v h', R v h' → R' v h') : CallsH P f args h R' :=
  fun w hw => (c w hw).mono fun _ _ ⟨v, he, hs, r⟩ => ⟨v, he, hs, hr _ _ r⟩

def prS {α : Type} (P : Program) (s : Sem α) (K : α → Prop) : Prop := ∃ v, (∀ w, s.run P w = .ok v w) ∧ K v
def rdS {α : Type} (P : Program) (s : Sem α) (h : Hp) (K : α → Prop) : Prop := ∃ v, (∀ w, w.heap = h → s.run P w = .ok v w) ∧ K v
def efS {α : Type} (P : Program) (s : Sem α) (h : Hp) (K : α → Hp → Prop) : Prop :=
  ∀ w, w.heap = h → ∃ v w', s.run P w = .ok v w' ∧ same w w' ∧ K v w'.heap

/-- The temporaries. -/
abbrev Env := Nat → Value
def upd (e : Env) (d : Nat) (v : Value) : Env := fun t => bif Nat.beq t d then v else e t
def ev (e : Env) : Operand → Value
  | .tmp t => e t
  | .const v => v
  | .global g => .pointer (some ⟨g, 0, none⟩)
  | .func f => .func (.func f) #[] #[]

def asB : Value → Option Bool | .bool b => some b | _ => none
def isB (v : Value) (b : Bool) : Bool := match v with | .bool c => c == b | _ => false

def nilE : Value → Option Value
  | .pointer none => none
  | .nilIface => none
  | .nilFunc => none
  | .func (.method _) _ _ => none
  | x => some x

def cmpE (op : BinOp) (lt eq : Bool) : Option Value :=
  match op with
  | .eql => some (.bool eq) | .neq => some (.bool !eq) | .lss => some (.bool lt) | .leq => some (.bool (lt || eq))
  | .gtr => some (.bool !(lt || eq)) | .geq => some (.bool !lt) | _ => none

def intE (op : BinOp) (k : IntKind) (a b : Int) : Option Value :=
  match op with
  | .add => some (.int k (k.wrap (a + b)))
  | .sub => some (.int k (k.wrap (a - b)))
  | .mul => some (.int k (k.wrap (a * b)))
  | .quo => if b = 0 then none else some (.int k (k.wrap (a.tdiv b)))
  | .rem => if b = 0 then none else some (.int k (a.tmod b))
  | .and => some (.int k (k.wrap (BitVec.ofInt k.bits a &&& BitVec.ofInt k.bits b).toNat))
  | .or => some (.int k (k.wrap (BitVec.ofInt k.bits a ||| BitVec.ofInt k.bits b).toNat))
  | .xor => some (.int k (k.wrap (BitVec.ofInt k.bits a ^^^ BitVec.ofInt k.bits b).toNat))
  | .andNot => some (.int k (k.wrap (BitVec.ofInt k.bits a &&& ~~~(BitVec.ofInt k.bits b)).toNat))
  | .eql => some (.bool (a == b))
  | .neq => some (.bool (a != b))
  | .lss => some (.bool (a < b))
  | .leq => some (.bool (a ≤ b))
  | .gtr => some (.bool (a > b))
  | .geq => some (.bool (a ≥ b))
  | .shl => if b < 0 then none else some (.int k (k.wrap (a * 2 ^ min b.toNat k.bits)))
  | .shr => if b < 0 then none else some (.int k (a.fdiv (2 ^ min b.toNat k.bits)))

def strE (op : BinOp) (x y : ByteArray) : Option Value :=
  match op with
  | .add => if ((x.size + y.size : Nat) : Int) > IntKind.i64.max then none else some (.string (x ++ y))
  | op => cmpE op (Op.bytesLess x.toList y.toList) (x.toList == y.toList)

/-- Operators on whole numbers and strings. -/
def binE (op : BinOp) (x y : Value) : Option Value :=
  match x, y with
  | .int k a, .int k' b => (match op with | .shl | .shr => intE op k a b | _ => if k = k' then intE op k a b else none)
  | .string a, .string b => strE op a b
  | _, _ => none
def binB (op : BinOp) (x y : Value) : Option Value :=
  match x, y with
  | .bool a, .bool b => (match op with | .eql => some (.bool (a == b)) | .neq => some (.bool !(a == b)) | _ => none)
  | _, _ => none

/-- == against nil, by the kind of type: pointer, slice, map, function, interface. -/
inductive NilK where | p | s | m | f | i
def nilEq (k : NilK) (x y : Value) : Option Bool :=
  match k, x, y with
  | .p, .pointer none, .pointer b => some b.isNone
  | .p, .pointer (some _), .pointer none => some false
  | .f, .nilFunc, .nilFunc => some true
  | .f, .nilFunc, .func _ _ _ => some false
  | .f, .func _ _ _, .nilFunc => some false
  | .s, .slice none _ _, .slice b _ _ => some b.isNone
  | .s, .slice (some _) _ _, .slice none _ _ => some false
  | .m, .map none, .map b => some b.isNone
  | .m, .map (some _), .map none => some false
  | .i, .nilIface, .nilIface => some true
  | .i, .nilIface, .iface _ _ => some false
  | .i, .iface _ _, .nilIface => some false
  | _, _, _ => none
def nilBin (k : NilK) (op : BinOp) (x y : Value) : Option Value :=
  match op with
  | .eql => (nilEq k x y).map fun b => .bool b
  | .neq => (nilEq k x y).map fun b => .bool !b
  | _ => none

def unE (op : UnOp) (x : Value) : Option Value :=
  match op, x with
  | .neg, .int k n => some (.int k (k.wrap (0 - n)))
  | .not, .bool b => some (.bool !b)
  | _, _ => none

def fldE (off : Nat) (v : Value) : Option Value :=
  match v with | .pointer (some ⟨b, o, none⟩) => some (.pointer (some ⟨b, o + off, none⟩)) | _ => none

def idxE (sz : Nat) (x i : Value) : Option Value :=
  match x, i with
  | .slice (some ⟨b, o, none⟩) len _, .int _ n => if 0 ≤ n ∧ n < len then some (.pointer (some ⟨b, o + n.toNat * sz, none⟩)) else none
  | _, _ => none
def idxA (len sz : Nat) (x i : Value) : Option Value :=
  match x, i with
  | .pointer (some ⟨b, o, none⟩), .int _ n => if 0 ≤ n ∧ n < len then some (.pointer (some ⟨b, o + n.toNat * sz, none⟩)) else none
  | _, _ => none

def partE (k : Option Nat) (off : Nat) (cs : Array Value) : Option Value :=
  match k with | some n => some (.agg (cs.extract off (off + n))) | none => cs[off]?
def aggE : Value → Option (Array Value) | .agg cs => some cs | _ => none
def fieldE (k : Option Nat) (off : Nat) (x : Value) : Option Value :=
  match x with | .agg cs => partE k off cs | _ => none
def idxV (kd : Option Nat) (len n : Nat) (x i : Value) : Option Value :=
  match x, i with
  | .agg cs, .int _ k => if 0 ≤ k ∧ k < len then partE kd (k.toNat * n) cs else none
  | _, _ => none
def idxS (x i : Value) : Option Value :=
  match x, i with
  | .string s, .int _ k => if 0 ≤ k then (s[k.toNat]?).map fun b => .int .u8 b.toNat else none
  | _, _ => none

def bndE (y : Nat) : Value → Option Nat
  | .int _ i => if 0 ≤ i ∧ i ≤ y then some i.toNat else none
  | _ => none
def hiE (len cap : Nat) : Option Value → Option Nat | some v => bndE cap v | none => some len
def loE (h : Nat) : Option Value → Option Nat | some v => bndE h v | none => some 0
def sliceE (sz : Nat) (x : Value) (lo hi : Option Value) : Option Value :=
  match x with
  | .slice a len cap => (hiE len cap hi).bind fun h => (loE h lo).bind fun l => some (.slice (if cap = l then a else a.map (·.add (l * sz))) (h - l) (cap - l))
  | _ => none
def sliceS (x : Value) (lo hi : Option Value) : Option Value :=
  match x with
  | .string s => (hiE s.size s.size hi).bind fun h => (loE h lo).bind fun l => some (.string (s.extract l h))
  | _ => none

def extE (i : Nat) : Value → Option Value | .tuple vs => vs[i]? | _ => none
def cvI (k : IntKind) : Value → Option Value | .int _ n => some (.int k (k.wrap n)) | _ => none
def lenE : Value → Option Value | .slice _ n _ => some (goInt n) | _ => none
def lenS : Value → Option Value | .string s => some (goInt s.size) | _ => none

def fillS (pl : List (Nat × Nat)) (zero : Array Value) (parts : List (Nat × Value)) : Option (Array Value) := Instr.fill (pl[·]?) zero parts
def fillR (size : Nat) (zero : Array Value) (parts : List (Nat × Value)) : Option (Array Value) := Instr.fill (fun i => some (i * size, size)) zero parts

def ldS (h : Hp) : Value → Option Value
  | .pointer (some ⟨b, o, none⟩) => (match h[b]? with | some (.cells c _ _) => c[o]? | _ => none)
  | _ => none
def ldA (n : Nat) (h : Hp) : Value → Option Value
  | .pointer (some ⟨b, o, none⟩) => (match h[b]? with | some (.cells c _ _) => if o + n ≤ c.size then some (.agg (c.extract o (o + n))) else none | _ => none)
  | _ => none

def splice (c : Array Value) (o : Nat) (vs : List Value) : Array Value := (c.toList.take o ++ vs ++ c.toList.drop (o + vs.length)).toArray
def stE (n : Nat) (h : Hp) (a v : Value) : Option Hp :=
  match a with
  | .pointer (some ⟨b, o, none⟩) =>
    (match h[b]? with
    | some (.cells c E (0, 0)) => if v.cells.size = n ∧ o + n ≤ c.size ∧ v.cells.toList.all Value.oneCell' = true then some (h.setIfInBounds b (.cells (splice c o v.cells.toList) E (0, 0))) else none
    | _ => none)
  | _ => none

def szO (P : Program) (t : TypeId) : Option Nat := match P.info? t with | some i => some i.size | none => none
/-- How a variable of the type is read: as one cell (none), or as a row of so many. -/
def ldK (P : Program) (t : TypeId) : Option (Option Nat) :=
  match P.underlying t with
  | none => none
  | some (.struct _) => (match szO P t with | some n => some (some n) | none => none)
  | some (.array _ _) => (match szO P t with | some n => some (some n) | none => none)
  | some _ => some none
def zeroC (P : Program) (t : TypeId) : Option (Array Value) := match P.info? t with | some i => i.zero.map (·.cells) | none => none

/-- May function f be called: it has a body, and is none that the model runs by itself. -/
def okF (P : Program) (f : FuncId) : Bool :=
  match P.funcs[f]? with
  | some fn => !(fn.name == "runtime.NumGoroutine") && !fn.body.isNone
  | none => false

def mapA (ρ : Operand → Value) (xs : Array Operand) : Array Value := (xs.toList.map ρ).toArray
theorem mapA_eq (ρ : Operand → Value) (xs : Array Operand) : mapA ρ xs = xs.map ρ := by rw [mapA, ← Array.toList_map]
def cat3 (a b c : Array Value) : Array Value := (a.toList ++ (b.toList ++ c.toList)).toArray

def callV (P : Program) (f : Value) (args : Array Value) (h : Hp) (K : Value → Hp → Prop) : Prop :=
  match f with
  | .func (.func g) first cap => (match okF P g with | true => CallsH P g (cat3 first args cap) h K | false => False)
  | _ => False

inductive Res where
  | triv (v : Value)
  | pure (x : Option Value)
  | prs (s : Sem Value)
  | rd (f : Hp → Option Value)
  | rds (s : Sem Value)
  | al (c : Array Value) (E : TypeId) (mk : Nat → Value)
  | alo (c : Option (Array Value)) (E : TypeId) (mk : Nat → Value)
  | mp
  | eff (f : Hp → (Value → Hp → Prop) → Prop)
  | bad

def ptr0 (b : Nat) : Value := .pointer (some ⟨b, 0, none⟩)

/-- A new block. -/
def nw (h : Hp) (c : Array Value) (E : TypeId) (mk : Nat → Value) (K : Value → Hp → Prop) : Prop := K (mk h.size) (h.push (.cells c E (0, 0)))
def nwM (h : Hp) (K : Value → Hp → Prop) : Prop := K (.map (some h.size)) (h.push (.map #[] 0))
def guardT (g : Bool) (F : (Value → Hp → Prop) → Prop) (h : Hp) (K : Value → Hp → Prop) : Prop := (g = true → F K) ∧ (g = false → K undef h)
/-- A call through an interface value. -/
def invT (P : Program) (r : Value) (m : String) (args : Array Value) (h : Hp) (K : Value → Hp → Prop) : Prop :=
  ∀ w, w.heap = h → ∃ f as w', (callMethod r m args).run P w = .ok (.enter f as) w' ∧ same w w' ∧ CallsH P f as w'.heap K

def Res.run (P : Program) (r : Res) (h : Hp) (K : Value → Hp → Prop) : Prop :=
  match r with
  | .triv v => K v h
  | .pure x => bnd x fun v => K v h
  | .prs s => prS P s fun v => K v h
  | .rd f => bnd (f h) fun v => K v h
  | .rds s => rdS P s h fun v => K v h
  | .al c E mk => nw h c E mk K
  | .alo c E mk => bnd c fun c => nw h c E mk K
  | .mp => nwM h K
  | .eff f => f h K
  | .bad => False

def Res.runG (P : Program) (g : Bool) (r : Res) (h : Hp) (K : Value → Hp → Prop) : Prop :=
  match r with
  | .triv v => K (bif g then v else undef) h
  | .pure x => bnd (bif g then x else some undef) fun v => K v h
  | .rd f => bnd (bif g then f h else some undef) fun v => K v h
  | r => guardT g (r.run P h) h K

/-- What a conversion, an operator or an assertion of another kind does, by the model's own words. -/
def binS (op : BinOp) (t : TypeId) (x y : Operand) (a b : Value) : Sem Value := do eqGuard op t x y a b; binOp op t a b

def isConst : Operand → Bool | .const _ => true | _ => false

def resBin (P : Program) (op : BinOp) (t : TypeId) (x y : Operand) (a b : Value) : Res :=
  match P.underlying t with
  | some (.int _) | some .string => .pure (binE op a b)
  | some .bool => .pure (binB op a b)
  | some (.pointer _) => .pure (nilBin .p op a b)
  | some (.slice _) => .pure (nilBin .s op a b)
  | some (.map _ _) => .pure (nilBin .m op a b)
  | some (.func _ _ _) => .pure (nilBin .f op a b)
  | some (.interface _) => (match isConst x || isConst y with | true => .pure (nilBin .i op a b) | false => .prs (binS op t x y a b))
  | _ => .prs (binS op t x y a b)

def places (P : Program) : List Field → Option (List (Nat × Nat))
  | [] => some []
  | f :: r => (match szO P f.type, places P r with | some n, some l => some ((f.offset, n) :: l) | _, _ => none)
def resBuild (P : Program) (t : TypeId) (parts : List (Nat × Value)) : Res :=
  match zeroC P t with
  | none => .bad
  | some z => (match P.underlying t with
    | some (.struct fs) => (match places P fs.toList with | some pl => .pure ((fillS pl z parts).map .agg) | none => .bad)
    | some (.array _ elem) => (match szO P elem with | some n => .pure ((fillR n z parts).map .agg) | none => .bad)
    | _ => .bad)

/-- The cells of a row of so many zero elements. -/
def zeros (z : Array Value) (n : Nat) : Array Value := ((List.range n).map fun i => z.toList.getD (i % z.size) undef).toArray
def resBuildSlice (P : Program) (t : TypeId) (len : Nat) (parts : List (Nat × Value)) : Res :=
  match P.underlying t with
  | some (.slice elem) =>
    (match zeroC P elem, szO P elem with
    | some z, some n => (match Nat.ble (len * n) 16777216 && (Nat.beq (len * n) 0 || Nat.blt 0 z.size) with | true => .alo (fillR n (zeros (bif Nat.beq (len * n) 0 then #[] else z) (len * n)) parts) elem (fun b => .slice (some ⟨b, 0, none⟩) len len) | false => .bad)
    | _, _ => .bad)
  | _ => .bad

def resField (P : Program) (s : TypeId) (x : Value) (f : Nat) : Res :=
  match P.underlying s with
  | some (.struct fs) => (match fs[f]? with | some f => (match szO P f.type with | some (_ + 1) => .pure (fldE f.offset x) | _ => .bad) | none => .bad)
  | _ => .bad
def resFieldV (P : Program) (s : TypeId) (x : Value) (f : Nat) : Res :=
  match P.underlying s with
  | some (.struct fs) => (match fs[f]? with | some f => (match ldK P f.type with | some k => .pure (fieldE k f.offset x) | none => .bad) | none => .bad)
  | _ => .bad
def resIndexA (P : Program) (t : TypeId) (x i : Value) : Res :=
  match P.underlying t with
  | some (.slice elem) => (match szO P elem with | some n => .pure (idxE n x i) | none => .bad)
  | some (.array len elem) => (match szO P elem with | some n => .pure (idxA len n x i) | none => .bad)
  | _ => .bad
def resIndexV (P : Program) (t : TypeId) (x i : Value) : Res :=
  match P.underlying t with
  | some (.array len elem) => (match szO P elem, ldK P elem with | some n, some k => .pure (idxV k len n x i) | _, _ => .bad)
  | some .string => .pure (idxS x i)
  | _ => .bad
def resSlice (P : Program) (t : TypeId) (x : Value) (lo hi mx : Option Value) : Res :=
  match mx with
  | some _ => .prs (Instr.sliceAt t x lo hi mx)
  | none => (match P.underlying t with
    | some (.slice elem) => (match szO P elem with | some n => .pure (sliceE n x lo hi) | none => .bad)
    | some .string => .pure (sliceS x lo hi)
    | _ => .prs (Instr.sliceAt t x lo hi none))
def resConv (P : Program) (s d : TypeId) (x : Value) : Res :=
  match P.underlying s, P.underlying d with
  | some (.int _), some (.int k) => .pure (cvI k x)
  | _, _ => .eff fun h K => efS P (convert s d x) h K
def resLen (P : Program) (t : TypeId) (x : Value) (c : Sem Value) : Res :=
  match P.underlying t with
  | some (.slice _) => .pure (lenE x)
  | some .string => .pure (lenS x)
  | some (.array n _) => .triv (goInt n)
  | _ => .rds c

def resCall (P : Program) (c : Call) (ty : TypeId) (ρ : Operand → Value) : Res :=
  match c.callee with
  | .value f => .eff (callV P (ρ f) (mapA ρ c.args))
  | .invoke r m => .eff fun h K => invT P (ρ r) m (mapA ρ c.args) h K
  | .builtin b =>
    match b with
    | .len => (match c.argTypes[0]?, c.args[0]? with | some t, some x => resLen P t (ρ x) (Builtin.len_ c.argTypes ty (mapA ρ c.args)) | _, _ => .bad)
    | .append => .eff fun h K => efS P (Builtin.append_ c.argTypes ty (mapA ρ c.args)) h K
    | .copy => .eff fun h K => efS P (Builtin.copy_ c.argTypes ty (mapA ρ c.args)) h K
    | .delete => .eff fun h K => efS P (Builtin.delete_ c.argTypes ty (mapA ρ c.args)) h K
    | .clear => .eff fun h K => efS P (Builtin.clear_ c.argTypes ty (mapA ρ c.args)) h K
    | .cap => .prs (Builtin.cap_ c.argTypes ty (mapA ρ c.args))
    | .min => .prs (Builtin.min_ c.argTypes ty (mapA ρ c.args))
    | .max => .prs (Builtin.max_ c.argTypes ty (mapA ρ c.args))
    | _ => .bad

def effU (P : Program) (s : Sem Unit) : Res := .eff fun h K => efS P s h fun _ h' => K undef h'

def res (P : Program) (o : Oper) (ρ : Operand → Value) : Res :=
  match o.op with
  | .move x => .triv (ρ x)
  | .assign x => .triv (ρ x)
  | .pick c a b => .pure ((asB (ρ c)).map fun t => bif t then ρ a else ρ b)
  | .alloc t => (match zeroC P t with | some z => .al z t ptr0 | none => .bad)
  | .box t x => .al (ρ x).cells t ptr0
  | .build t ps => resBuild P t (ps.toList.map fun (i, x) => (i, ρ x))
  | .buildSlice t n ps => resBuildSlice P t n (ps.toList.map fun (i, x) => (i, ρ x))
  | .load t a => (match ldK P t with | some (some n) => .rd fun h => ldA n h (ρ a) | some none => .rd fun h => ldS h (ρ a) | none => .bad)
  | .store t a x => (match szO P t with | some n => .eff fun h K => bnd (stE n h (ρ a) (ρ x)) fun h' => K undef h' | none => .bad)
  | .nilCheck x => .pure (nilE (ρ x))
  | .binOp op t x y _ => resBin P op t x y (ρ x) (ρ y)
  | .unOp op _ x => .pure (unE op (ρ x))
  | .convert s d x => resConv P s d (ρ x)
  | .makeInterface t x => .prs (Instr.makeInterface t (ρ x))
  | .makeFunc fn a b => .triv (.func fn (mapA ρ a) (mapA ρ b))
  | .makeMap _ none => .mp
  | .makeMap t r => .eff fun h K => efS P (Instr.makeMap t (r.map ρ)) h K
  | .makeSlice t l c => .eff fun h K => efS P (Instr.makeSlice t (ρ l) (ρ c)) h K
  | .slice t x lo hi mx => resSlice P t (ρ x) (lo.map ρ) (hi.map ρ) (mx.map ρ)
  | .fieldAddr s x f => resField P s (ρ x) f
  | .field s x f => resFieldV P s (ρ x) f
  | .indexAddr t x i => resIndexA P t (ρ x) (ρ i)
  | .index t x i => resIndexV P t (ρ x) (ρ i)
  | .lookup t x i ok => .rds (Instr.lookup t (ρ x) (ρ i) ok)
  | .mapUpdate t m k x => effU P (Instr.mapUpdate t (ρ m) (ρ k) (ρ x))
  | .insert t m k x => effU P (Instr.mapUpdate t (ρ m) (ρ k) (ρ x))
  | .mapEntry t m k => .eff fun h K => efS P (Instr.mapEntry t (ρ m) (ρ k)) h K
  | .entryStore t m s x => effU P (Instr.entryStore t (ρ m) (ρ s) (ρ x))
  | .range t x => .eff fun h K => efS P (Instr.range t (ρ x)) h K
  | .next it b => .eff fun h K => efS P (Instr.next (ρ it) b o.type) h K
  | .entry it => .rds (Instr.entry (ρ it))
  | .typeAssert x t a ok => .prs (Instr.typeAssert (ρ x) t a ok)
  | .extract t i => .pure (extE i (ρ t))
  | .call c => resCall P c o.type ρ
  | _ => .bad

end Go.Fw
