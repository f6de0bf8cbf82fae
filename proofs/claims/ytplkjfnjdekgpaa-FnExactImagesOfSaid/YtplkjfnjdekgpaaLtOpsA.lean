/- What the plain operations do to the values and the heap of the small logic: own work. -/
import Derived.Test.YtplkjfnjdekgpaaLtCore
namespace Go.Proofs.Ytplkjfnjdekgpaa
open Go

inductive Ty where
  | bool
  | int (k : IntKind)
  | str
  | slice (e : TypeId)
  | struct (fs : List (Nat × TypeId))
  | ptr
  | func
  | other
  deriving Inhabited

structure TI where
  ty : Ty := .other
  sz : Nat := 0
  bytes : Nat := 0
  zero : AV := .undef
  cmp : Bool := false
  deriving Inhabited

abbrev TE := TypeId → TI

/-- A scalar type, by which structs are compared. -/
def Ty.scalar : Ty → Bool
  | .bool | .int _ | .str => true
  | _ => false

structure TEOk (P : Program) (T : TE) : Prop where
  tbool : ∀ t, (T t).ty = .bool → P.underlying t = some .bool
  tint : ∀ t k, (T t).ty = .int k → P.underlying t = some (.int k)
  tstr : ∀ t, (T t).ty = .str → P.underlying t = some .string
  tslice : ∀ t e, (T t).ty = .slice e → P.underlying t = some (.slice e)
  tstruct : ∀ t fs, (T t).ty = .struct fs → ∃ F : Array Field, P.underlying t = some (.struct F) ∧ F.toList.map (fun f => (f.offset, f.type)) = fs
  tptr : ∀ t, (T t).ty = .ptr → ∃ e, P.underlying t = some (.pointer e)
  tfunc : ∀ t, (T t).ty = .func → ∃ a b c, P.underlying t = some (.func a b c)
  info : ∀ t, 0 < (T t).sz → ∃ i z, P.info? t = some i ∧ i.size = (T t).sz ∧ i.bytes = (T t).bytes ∧ i.zero = some z ∧ (∀ c, VR c (T t).zero z) ∧
    (T t).zero.cells.length = (T t).sz ∧ (∀ u, u ∈ (T t).zero.cells → u.one = true)
  cmp : ∀ t fs, (T t).ty = .struct fs → (T t).cmp = true → P.stoodInHeld t = false ∧ P.eqGuardType P.depth t = false ∧
    ∃ F : Array Field, P.underlying t = some (.struct F) ∧ F.toList.map (fun f => (f.offset, f.type)) = fs ∧ (∀ f, f ∈ F.toList → f.name ≠ "_") ∧
      (∀ (i : Nat) (p : Nat × TypeId), fs[i]? = some p → p.1 = i)

def rdSl (h : Heap) (sz : Nat) : AV → Option (List AV)
  | .nils => some []
  | .ro s _ l => if s = sz then some l else none
  | .sl s id off len _ _ => if s = sz then (match h id with
      | some b => if off + len ≤ b.length then some ((b.drop off).take len) else none
      | none => none) else none
  | _ => none

def AV.good : AV → Bool
  | .agg _ => true
  | v => v.one

/-- The part of type t at an offset of an element. -/
def part (T : TE) (t : TypeId) (off : Nat) (e : AV) : Option AV :=
  match (T t).ty with
  | .struct _ => if off + (T t).sz ≤ e.cells.length then some (.agg ((e.cells.drop off).take (T t).sz)) else none
  | .other => none
  | _ => e.cells[off]?

def setPart (e : AV) (off : Nat) (v : AV) : AV :=
  match e with
  | .agg cs => .agg (cs.take off ++ v.cells ++ cs.drop (off + v.cells.length))
  | _ => v

def ofVal : Value → AV
  | .bool b => .bool b
  | .int k n => .int k n
  | .string s => .str s
  | .slice none 0 0 => .nils
  | .pointer none => .nilp
  | .nilFunc => .nilf
  | .func (.func f) ⟨[]⟩ ⟨[]⟩ => .fn f []
  | _ => .undef

def eqC : AV → AV → Option Bool
  | .int k a, .int k' b => if k = k' then some (a == b) else none
  | .bool a, .bool b => some (a == b)
  | .str a, .str b => some (a.toList == b.toList)
  | _, _ => none

def eqCells : List AV → List AV → Option Bool
  | [], [] => some true
  | x :: xs, y :: ys => (eqC x y).bind fun a => (eqCells xs ys).bind fun b => some (a && b)
  | _, _ => none

def bitA (op : BinOp) (k : IntKind) (x y : Int) : Int :=
  let a := BitVec.ofInt k.bits x
  let b := BitVec.ofInt k.bits y
  match op with
  | .and => k.wrap ((a &&& b).toNat : Int)
  | .or => k.wrap ((a ||| b).toNat : Int)
  | .xor => k.wrap ((a ^^^ b).toNat : Int)
  | _ => k.wrap ((a &&& ~~~b).toNat : Int)

/-- A value's kind is its type's. -/
def scalarFits (T : TE) (t : TypeId) (x : AV) : Prop :=
  match (T t).ty, x with
  | .int _, .int _ _ => True
  | .bool, .bool _ => True
  | .str, .str _ => True
  | _, _ => False

def fitsP (T : TE) : List (Nat × TypeId) → List AV → Prop
  | [], [] => True
  | p :: fs, x :: xs => scalarFits T p.2 x ∧ fitsP T fs xs
  | _, _ => False

/-- Two operands and what comes of them (a condition, where Go would panic). -/
def binP (T : TE) (op : BinOp) (t : TypeId) (x y : AV) (K : AV → Prop) : Prop :=
  match op, x, y with
  | .shl, .int k a, .int _ b => 0 ≤ b ∧ K (.int k (k.wrap (a * 2 ^ (min b.toNat k.bits))))
  | .shr, .int k a, .int _ b => 0 ≤ b ∧ K (.int k (a.fdiv (2 ^ (min b.toNat k.bits))))
  | .add, .int k a, .int k' b => k = k' ∧ K (.int k (k.wrap (a + b)))
  | .sub, .int k a, .int k' b => k = k' ∧ K (.int k (k.wrap (a - b)))
  | .mul, .int k a, .int k' b => k = k' ∧ K (.int k (k.wrap (a * b)))
  | .quo, .int k a, .int k' b => k = k' ∧ b ≠ 0 ∧ K (.int k (k.wrap (a.tdiv b)))
  | .rem, .int k a, .int k' b => k = k' ∧ b ≠ 0 ∧ K (.int k (a.tmod b))
  | .and, .int k a, .int k' b => k = k' ∧ K (.int k (bitA .and k a b))
  | .or, .int k a, .int k' b => k = k' ∧ K (.int k (bitA .or k a b))
  | .eql, .int k a, .int k' b => k = k' ∧ K (.bool (decide (a = b)))
  | .neq, .int k a, .int k' b => k = k' ∧ K (.bool (decide (a ≠ b)))
  | .lss, .int k a, .int k' b => k = k' ∧ K (.bool (decide (a < b)))
  | .leq, .int k a, .int k' b => k = k' ∧ K (.bool (decide (a ≤ b)))
  | .gtr, .int k a, .int k' b => k = k' ∧ K (.bool (decide (b < a)))
  | .geq, .int k a, .int k' b => k = k' ∧ K (.bool (decide (b ≤ a)))
  | .add, .str a, .str b => a.size + b.size ≤ maxLen ∧ K (.str (a ++ b))
  | .eql, .str a, .str b => K (.bool (decide (a = b)))
  | .neq, .str a, .str b => K (.bool (decide (a ≠ b)))
  | .eql, .bool a, .bool b => (T t).ty = .bool ∧ K (.bool (a == b))
  | .neq, .bool a, .bool b => (T t).ty = .bool ∧ K (.bool (!(a == b)))
  | .eql, .agg a, .agg b => ∃ fs, (T t).ty = .struct fs ∧ (T t).cmp = true ∧ fitsP T fs a ∧ ∃ r, eqCells a b = some r ∧ K (.bool r)
  | .neq, .agg a, .agg b => ∃ fs, (T t).ty = .struct fs ∧ (T t).cmp = true ∧ fitsP T fs a ∧ ∃ r, eqCells a b = some r ∧ K (.bool (!r))
  | .eql, .nils, .nils => (∃ e, (T t).ty = .slice e) ∧ K (.bool true)
  | .eql, .ro _ _ _, .nils => (∃ e, (T t).ty = .slice e) ∧ K (.bool false)
  | .eql, .sl _ _ _ _ _ _, .nils => (∃ e, (T t).ty = .slice e) ∧ K (.bool false)
  | _, _, _ => False

def unP (op : UnOp) (x : AV) (K : AV → Prop) : Prop :=
  match op, x with
  | .not, .bool b => K (.bool (!b))
  | .neg, .int k n => K (.int k (k.wrap (0 - n)))
  | _, _ => False

def bnd (o : Option AV) (d n : Nat) : Prop :=
  match o with
  | none => n = d
  | some (.int _ z) => 0 ≤ z ∧ n = z.toNat
  | _ => False

def sliceP (sz : Nat) (x : AV) (lo hi mx : Option AV) (K : AV → Prop) : Prop :=
  match x with
  | .nils => bnd lo 0 0 ∧ bnd hi 0 0 ∧ bnd mx 0 0 ∧ K .nils
  | .ro s ex l => s = sz ∧ ∃ i j m, bnd lo 0 i ∧ bnd hi l.length j ∧ bnd mx l.length m ∧ i ≤ j ∧ j ≤ m ∧ m ≤ l.length ∧
      K (.ro s (if mx.isSome then decide (m = j) else (ex && decide (j = l.length))) ((l.drop i).take (j - i)))
  | .sl s id off len lo' ex => s = sz ∧ ∃ i j m, bnd lo 0 i ∧ bnd hi len j ∧ bnd mx lo' m ∧ i ≤ j ∧ j ≤ m ∧ m ≤ lo' ∧
      K (.sl s id (off + i) (j - i) (m - i) (if mx.isSome then true else ex))
  | _ => False

def strSliceP (s : ByteArray) (lo hi : Option AV) (K : AV → Prop) : Prop :=
  ∃ i j, bnd lo 0 i ∧ bnd hi s.size j ∧ i ≤ j ∧ j ≤ s.size ∧ K (.str (s.extract i j))

/-- append, what is appended being elements of the same type. -/
def appendP (T : TE) (e : TypeId) (x y : AV) (h : Heap) (n : Nat) (K : AV → Heap → Nat → Prop) : Prop :=
  ∃ ys, rdSl h (T e).sz y = some ys ∧ 0 < (T e).sz ∧
  match x with
  | .nils => ys.length * (T e).bytes ≤ 140737488355328 ∧ ys.length ≤ 140737488355328 ∧ (if ys = [] then K .nils h n else K (.sl (T e).sz n 0 ys.length ys.length false) (h.upd n ys) (n + 1))
  | .ro s ex l => s = (T e).sz ∧ (l.length + ys.length) * (T e).bytes ≤ 140737488355328 ∧ l.length + ys.length ≤ 140737488355328 ∧
      (if ys = [] then K x h n else ex = true ∧ K (.sl s n 0 (l.length + ys.length) (l.length + ys.length) false) (h.upd n (l ++ ys)) (n + 1))
  | .sl s id off len lo ex => s = (T e).sz ∧ (len + ys.length) * (T e).bytes ≤ 140737488355328 ∧ len + ys.length ≤ 140737488355328 ∧ ∃ b, h id = some b ∧ off + lo ≤ b.length ∧
      (if len + ys.length ≤ lo then K (.sl s id off (len + ys.length) lo ex) (h.upd id (b.take (off + len) ++ ys ++ b.drop (off + len + ys.length))) n
       else if ex = true then K (.sl s n 0 (len + ys.length) (len + ys.length) false) (h.upd n ((b.drop off).take len ++ ys)) (n + 1)
       else K (.sl s n 0 (len + ys.length) (len + ys.length) false) ((h.del id).upd n ((b.drop off).take len ++ ys)) (n + 1))
  | _ => False

/-- copy between rows of one type. -/
def copyP (T : TE) (e : TypeId) (x y : AV) (h : Heap) (n : Nat) (K : AV → Heap → Nat → Prop) : Prop :=
  ∃ ys, rdSl h (T e).sz y = some ys ∧ 0 < (T e).sz ∧
  match x with
  | .nils => K (.int .i64 0) h n
  | .sl s id off len _ _ => s = (T e).sz ∧ ∃ b, h id = some b ∧ off + len ≤ b.length ∧ K (.int .i64 (min ys.length len : Nat)) (h.upd id (b.take off ++ ys.take len ++ b.drop (off + (ys.take len).length))) n
  | _ => False

/-- clear of a row. -/
def clearP (T : TE) (e : TypeId) (x : AV) (h : Heap) (n : Nat) (K : AV → Heap → Nat → Prop) : Prop :=
  0 < (T e).sz ∧
  match x with
  | .nils => K (.tup []) h n
  | .sl s id off len _ _ => s = (T e).sz ∧ ∃ b, h id = some b ∧ off + len ≤ b.length ∧ K (.tup []) (h.upd id (b.take off ++ List.replicate len (T e).zero ++ b.drop (off + len))) n
  | _ => False

def buildP (T : TE) (fs : List (Nat × TypeId)) (cells : List AV) (ev : Operand → AV) : List (Nat × Operand) → (List AV → Prop) → Prop
  | [], K => K cells
  | (i, x) :: rest, K => ∃ p, fs[i]? = some p ∧ (ev x).cells.length = (T p.2).sz ∧ 0 < (T p.2).sz ∧ p.1 + (T p.2).sz ≤ cells.length ∧ (ev x).good = true ∧
      buildP T fs (cells.take p.1 ++ (ev x).cells ++ cells.drop (p.1 + (T p.2).sz)) ev rest K

def builtinP (T : TE) (b : Builtin) (ts : List TypeId) (xs : List AV) (h : Heap) (n : Nat) (K : AV → Heap → Nat → Prop) : Prop :=
  match b, ts, xs with
  | .len, [t], [.str s] => (T t).ty = .str ∧ K (.int .i64 s.size) h n
  | .len, [t], [x] => ∃ e l, (T t).ty = .slice e ∧ rdSl h (T e).sz x = some l ∧ K (.int .i64 l.length) h n
  | .cap, [t], [.sl _ _ _ _ lo ex] => ∃ e, (T t).ty = .slice e ∧ ex = true ∧ K (.int .i64 lo) h n
  | .min, _, [.int k a, .int k' b] => k = k' ∧ K (.int k (if b < a then b else a)) h n
  | .max, _, [.int k a, .int k' b] => k = k' ∧ K (.int k (if a < b then b else a)) h n
  | .append, [t, t'], [x, y] => t = t' ∧ ∃ e, (T t).ty = .slice e ∧ appendP T e x y h n K
  | .copy, [t, _], [x, y] => ∃ e, (T t).ty = .slice e ∧ copyP T e x y h n K
  | .clear, [t], [x] => ∃ e, (T t).ty = .slice e ∧ clearP T e x h n K
  | _, _, _ => False

def opP (T : TE) (op : Op) (ev : Operand → AV) (h : Heap) (n : Nat) (K : AV → Heap → Nat → Prop) : Prop :=
  match op with
  | .move x => K (ev x) h n
  | .assign x => K (ev x) h n
  | .pick c a b => ∃ t, ev c = .bool t ∧ K (if t then ev a else ev b) h n
  | .alloc e => 0 < (T e).sz ∧ K (.ep (T e).sz (.sl (T e).sz n 0 1 1 true) 0 0) (h.upd n [(T e).zero]) (n + 1)
  | .box e x => (ev x).good = true ∧ (ev x).cells.length = (T e).sz ∧ 0 < (T e).sz ∧ K (.ep (T e).sz (.sl (T e).sz n 0 1 1 true) 0 0) (h.upd n [ev x]) (n + 1)
  | .build t parts => ∃ fs, (T t).ty = .struct fs ∧ 0 < (T t).sz ∧ fs.all (fun p => decide (0 < (T p.2).sz)) = true ∧ buildP T fs (T t).zero.cells ev parts.toList (fun cs => K (.agg cs) h n)
  | .buildSlice t len parts => ∃ e, (T t).ty = .slice e ∧ 0 < (T e).sz ∧ len * (T e).sz ≤ 16777216 ∧ parts.toList.map (·.1) = List.range len ∧
      (∀ p, p ∈ parts.toList → (ev p.2).cells.length = (T e).sz ∧ (ev p.2).good = true) ∧
      K (.sl (T e).sz n 0 len len true) (h.upd n (parts.toList.map fun p => ev p.2)) (n + 1)
  | .load t a => ∃ sz s i off l e v, ev a = .ep sz s i off ∧ rdSl h sz s = some l ∧ l[i]? = some e ∧ part T t off e = some v ∧ (∀ fs, (T t).ty = .struct fs → 0 < (T t).sz) ∧ K v h n
  | .store t a x => ∃ sz id o len lo ex i off b e, ev a = .ep sz (.sl sz id o len lo ex) i off ∧ h id = some b ∧ b[o + i]? = some e ∧ (ev x).good = true ∧
      (ev x).cells.length = (T t).sz ∧ 0 < (T t).sz ∧ off + (T t).sz ≤ e.cells.length ∧ K .undef (h.upd id (b.set (o + i) (setPart e off (ev x)))) n
  | .nilCheck x => match ev x with
      | .ep sz a i off => K (.ep sz a i off) h n
      | .fn f c => K (.fn f c) h n
      | _ => False
  | .binOp op t x y _ => binP T op t (ev x) (ev y) (fun r => K r h n)
  | .unOp op _ x => unP op (ev x) (fun r => K r h n)
  | .convert s d x => match (T d).ty, ev x with
      | .int k, .int _ m => (∃ k', (T s).ty = .int k') ∧ K (.int k (k.wrap m)) h n
      | _, _ => False
  | .makeFunc (.func f) first cap => first = #[] ∧ K (.fn f (cap.toList.map ev)) h n
  | .makeSlice t l c => ∃ (e : TypeId) (k1 k2 : IntKind) (a b : Int), (T t).ty = .slice e ∧ 0 < (T e).sz ∧ ev l = .int k1 a ∧ ev c = .int k2 b ∧ 0 ≤ a ∧ a ≤ b ∧ ((T e).bytes : Int) * b ≤ 140737488355328 ∧ b ≤ 140737488355328 ∧
      K (.sl (T e).sz n 0 a.toNat b.toNat true) (h.upd n (List.replicate b.toNat (T e).zero)) (n + 1)
  | .slice t x lo hi mx => match ev x with
      | .str s => (T t).ty = .str ∧ mx = none ∧ strSliceP s (lo.map ev) (hi.map ev) (fun r => K r h n)
      | v => ∃ e, (T t).ty = .slice e ∧ 0 < (T e).sz ∧ (mx.isSome = true → hi.isSome = true) ∧ sliceP (T e).sz v (lo.map ev) (hi.map ev) (mx.map ev) (fun r => K r h n)
  | .fieldAddr s x f => ∃ sz b i off fs p, ev x = .ep sz b i off ∧ (T s).ty = .struct fs ∧ fs[f]? = some p ∧ 0 < (T p.2).sz ∧ K (.ep sz b i (off + p.1)) h n
  | .field t x f => ∃ fs p cs v, (T t).ty = .struct fs ∧ fs[f]? = some p ∧ ev x = .agg cs ∧ part T p.2 p.1 (.agg cs) = some v ∧ (∀ fs, (T p.2).ty = .struct fs → 0 < (T p.2).sz) ∧ K v h n
  | .indexAddr t x ix => ∃ e l k i, (T t).ty = .slice e ∧ 0 < (T e).sz ∧ rdSl h (T e).sz (ev x) = some l ∧ ev ix = .int k i ∧ 0 ≤ i ∧ i < (l.length : Int) ∧ K (.ep (T e).sz (ev x) i.toNat 0) h n
  | .index t x ix => ∃ s k i, (T t).ty = .str ∧ ev x = .str s ∧ ev ix = .int k i ∧ 0 ≤ i ∧ ∃ hi : i.toNat < s.size, K (.int .u8 ((s[i.toNat]'hi).toNat : Int)) h n
  | .extract t ix => ∃ vs r, ev t = .tup vs ∧ vs[ix]? = some r ∧ K r h n
  | .call c => match c.callee with
      | .builtin b => builtinP T b c.argTypes.toList (c.args.toList.map ev) h n K
      | _ => False
  | _ => False

end Go.Proofs.Ytplkjfnjdekgpaa
