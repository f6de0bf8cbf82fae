/- The values, the heap and the relation of the small logic: own work. -/
import Derived.WalkKit
import Derived.WalkSpells
import Derived.Below
namespace Go.Proofs.Ytplkjfnjdekgpaa
open Go

/-- Values of the small logic. A frozen slice bears its elements; an owned one is an id of the heap. -/
inductive AV where
  | bool (b : Bool)
  | int (k : IntKind) (n : Int)
  | str (s : ByteArray)
  | nils
  | ro (sz : Nat) (ex : Bool) (l : List AV)
  | sl (sz id off len lo : Nat) (ex : Bool)
  | ep (sz : Nat) (a : AV) (i off : Nat)
  | nilp
  | nilf
  | fn (f : FuncId) (cap : List AV)
  | agg (cs : List AV)
  | tup (vs : List AV)
  | undef
  deriving Inhabited

namespace AV
def cells : AV → List AV
  | agg cs => cs
  | v => [v]
def one : AV → Bool
  | agg _ => false
  | tup _ => false
  | undef => false
  | _ => true
@[simp] theorem cells_bool (b : Bool) : (bool b).cells = [bool b] := rfl
@[simp] theorem cells_int (k : IntKind) (n : Int) : (int k n).cells = [int k n] := rfl
@[simp] theorem cells_str (s : ByteArray) : (str s).cells = [str s] := rfl
@[simp] theorem cells_nils : nils.cells = [nils] := rfl
@[simp] theorem cells_ro (sz : Nat) (ex : Bool) (l : List AV) : (ro sz ex l).cells = [ro sz ex l] := rfl
@[simp] theorem cells_sl (sz id off len lo : Nat) (ex : Bool) : (sl sz id off len lo ex).cells = [sl sz id off len lo ex] := rfl
@[simp] theorem cells_ep (sz : Nat) (a : AV) (i off : Nat) : (ep sz a i off).cells = [ep sz a i off] := rfl
@[simp] theorem cells_nilp : nilp.cells = [nilp] := rfl
@[simp] theorem cells_nilf : nilf.cells = [nilf] := rfl
@[simp] theorem cells_fn (f : FuncId) (c : List AV) : (fn f c).cells = [fn f c] := rfl
@[simp] theorem cells_agg (cs : List AV) : (agg cs).cells = cs := rfl
end AV

/-- Which concrete row an id stands for (block, first cell, cells an element); the frozen blocks; the world. -/
structure Cfg where
  ι : Nat → Option (Nat × Nat × Nat)
  Fz : Nat → Prop
  w : World

abbrev Heap := Nat → Option (List AV)
def Heap.upd (h : Heap) (id : Nat) (b : List AV) : Heap := fun x => if x = id then some b else h x
def Heap.del (h : Heap) (id : Nat) : Heap := fun x => if x = id then none else h x
def Heap.emp : Heap := fun _ => none
@[simp] theorem Heap.upd_same (h : Heap) (id : Nat) (b : List AV) : h.upd id b id = some b := by simp [Heap.upd]
theorem Heap.upd_ne (h : Heap) {id x : Nat} (b : List AV) (hx : x ≠ id) : h.upd id b x = h x := by simp [Heap.upd, hx]

/-- A value of the logic stands for a value of the machine. -/
inductive VR (c : Cfg) : AV → Value → Prop
  | bool (b : Bool) : VR c (.bool b) (.bool b)
  | int (k : IntKind) (n : Int) : VR c (.int k n) (.int k n)
  | str (s : ByteArray) : VR c (.str s) (.string s)
  | nils : VR c .nils (.slice none 0 0)
  | ro (sz : Nat) (ex : Bool) (l : List AV) (a : Addr) (cap : Nat) (f : Nat → Nat → Value)
      (hcap : l.length ≤ cap) (hmax : cap ≤ maxLen) (hex : ex = true → cap = l.length) (hfz : l ≠ [] → c.Fz a.block)
      (hsz : ∀ (i : Nat) (e : AV), l[i]? = some e → e.cells.length = sz)
      (hone : ∀ (i : Nat) (e : AV) (j : Nat) (u : AV), l[i]? = some e → e.cells[j]? = some u → u.one = true)
      (hc : ∀ (i : Nat) (e : AV) (j : Nat) (u : AV), l[i]? = some e → e.cells[j]? = some u → c.w.cell? (a.add (i * sz + j)) = some (f i j))
      (hv : ∀ (i : Nat) (e : AV) (j : Nat) (u : AV), l[i]? = some e → e.cells[j]? = some u → VR c u (f i j)) :
      VR c (.ro sz ex l) (.slice (some a) l.length cap)
  | sl (sz id off len lo : Nat) (ex : Bool) (b base cap : Nat)
      (hι : c.ι id = some (b, base, sz)) (hlen : len ≤ lo) (hlo : lo ≤ cap) (hex : ex = true → cap = lo) (hmax : cap ≤ maxLen)
      (hroom : ∃ arr E fr, c.w.heap[b]? = some (.cells arr E fr) ∧ base + (off + cap) * sz ≤ arr.size) (a : Addr) (ha : cap ≠ 0 → a = ⟨b, base + off * sz, none⟩) :
      VR c (.sl sz id off len lo ex) (.slice (some a) len cap)
  | ep_ro (sz : Nat) (ex : Bool) (l : List AV) (i off : Nat) (a : Addr) (cap : Nat) (ha : VR c (.ro sz ex l) (.slice (some a) l.length cap)) (hi : i < l.length) :
      VR c (.ep sz (.ro sz ex l) i off) (.pointer (some (a.add (i * sz + off))))
  | ep_sl (sz id o len lo : Nat) (ex : Bool) (i off b base : Nat) (hι : c.ι id = some (b, base, sz)) :
      VR c (.ep sz (.sl sz id o len lo ex) i off) (.pointer (some ⟨b, base + (o + i) * sz + off, none⟩))
  | nilp : VR c .nilp (.pointer none)
  | nilf : VR c .nilf .nilFunc
  | fn (f : FuncId) (cap : List AV) (vs : Array Value) (hs : vs.size = cap.length)
      (hv : ∀ (i : Nat) (u : AV) (v : Value), cap[i]? = some u → vs[i]? = some v → VR c u v) : VR c (.fn f cap) (.func (.func f) #[] vs)
  | agg (cs : List AV) (vs : Array Value) (hs : vs.size = cs.length) (hone : ∀ u, u ∈ cs → u.one = true)
      (hv : ∀ (i : Nat) (u : AV) (v : Value), cs[i]? = some u → vs[i]? = some v → VR c u v) : VR c (.agg cs) (.agg vs)
  | tup (cs : List AV) (vs : Array Value) (hs : vs.size = cs.length)
      (hv : ∀ (i : Nat) (u : AV) (v : Value), cs[i]? = some u → vs[i]? = some v → VR c u v) : VR c (.tup cs) (.tuple vs)
  | undef (v : Value) : VR c .undef v

/-- One block of the heap, in the world. -/
structure BlkR (c : Cfg) (id : Nat) (blk : List AV) (b base sz : Nat) (arr : Array Value) (E : TypeId) : Prop where
  ι : c.ι id = some (b, base, sz)
  heap : c.w.heap[b]? = some (.cells arr E (0, 0))
  nfz : ¬ c.Fz b
  size : ∀ (i : Nat) (e : AV), blk[i]? = some e → e.cells.length = sz
  one : ∀ (i : Nat) (e : AV) (j : Nat) (u : AV), blk[i]? = some e → e.cells[j]? = some u → u.one = true
  cell : ∀ (i : Nat) (e : AV) (j : Nat) (u : AV), blk[i]? = some e → e.cells[j]? = some u → ∃ v, arr[base + i * sz + j]? = some v ∧ VR c u v

structure HR (c : Cfg) (h : Heap) : Prop where
  blk : ∀ (id : Nat) (blk : List AV), h id = some blk → ∃ b base sz arr E, BlkR c id blk b base sz arr E
  inj : ∀ (i j : Nat) (bi bj : List AV) (x y : Nat × Nat × Nat), h i = some bi → h j = some bj → c.ι i = some x → c.ι j = some y → x.1 = y.1 → i = j
  fzlt : ∀ b, c.Fz b → b < c.w.heap.size

/-- What a step may have done: from (c, h) to (c', h'), new ids out of fr. -/
structure Ext (c : Cfg) (h : Heap) (fr : Nat → Prop) (c' : Cfg) (h' : Heap) : Prop where
  os : c'.w.os = c.w.os
  tape : c'.w.tape = c.w.tape
  output : c'.w.output = c.w.output
  size : c.w.heap.size ≤ c'.w.heap.size
  ι : ∀ (id : Nat) (x : Nat × Nat × Nat), c.ι id = some x → c'.ι id = some x
  dom : ∀ (id : Nat) (x : Nat × Nat × Nat), c'.ι id = some x → c.ι id = some x ∨ fr id
  fz : ∀ b, c.Fz b → c'.Fz b
  shape : ∀ (b : Nat) (arr : Array Value) (E : TypeId) (f : Nat × Nat), c.w.heap[b]? = some (.cells arr E f) → ∃ arr', c'.w.heap[b]? = some (.cells arr' E f) ∧ arr'.size = arr.size
  frame : ∀ b, b < c.w.heap.size → (∀ (id : Nat) (blk : List AV) (x : Nat × Nat × Nat), h id = some blk → c.ι id = some x → x.1 ≠ b) → c'.w.heap[b]? = c.w.heap[b]?
  own : ∀ (id : Nat) (blk : List AV) (x : Nat × Nat × Nat), h' id = some blk → c'.ι id = some x →
    c.w.heap.size ≤ x.1 ∨ ∃ id0 blk0 x0, h id0 = some blk0 ∧ c.ι id0 = some x0 ∧ x0.1 = x.1
  fzb : ∀ b, c'.Fz b → c.Fz b ∨ c.w.heap.size ≤ b ∨ ∃ id0 blk0 x0, h id0 = some blk0 ∧ c.ι id0 = some x0 ∧ x0.1 = b

theorem Ext.refl (c : Cfg) (h : Heap) (fr : Nat → Prop) : Ext c h fr c h :=
  ⟨rfl, rfl, rfl, Nat.le_refl _, fun _ _ h => h, fun _ _ h => .inl h, fun _ h => h, fun _ arr _ _ h => ⟨arr, h, rfl⟩, fun _ _ _ => rfl,
   fun id blk x hh hx => .inr ⟨id, blk, x, hh, hx, rfl⟩, fun _ h => .inl h⟩

theorem Ext.trans {c c1 c2 : Cfg} {h h1 h2 : Heap} {f1 f2 fr : Nat → Prop} (e1 : Ext c h f1 c1 h1) (e2 : Ext c1 h1 f2 c2 h2) (k1 : ∀ i, f1 i → fr i) (k2 : ∀ i, f2 i → fr i) : Ext c h fr c2 h2 where
  os := e2.os.trans e1.os
  tape := e2.tape.trans e1.tape
  output := e2.output.trans e1.output
  size := Nat.le_trans e1.size e2.size
  ι := fun id x h => e2.ι id x (e1.ι id x h)
  dom := fun id x h => by
    rcases e2.dom id x h with h | h
    · rcases e1.dom id x h with h | h
      · exact .inl h
      · exact .inr (k1 _ h)
    · exact .inr (k2 _ h)
  fz := fun b h => e2.fz b (e1.fz b h)
  shape := fun b arr E f h => by
    obtain ⟨a1, h1, s1⟩ := e1.shape b arr E f h
    obtain ⟨a2, h2, s2⟩ := e2.shape b a1 E f h1
    exact ⟨a2, h2, s2.trans s1⟩
  frame := fun b hb hn => by
    rw [← e1.frame b hb hn]
    refine e2.frame b (Nat.lt_of_lt_of_le hb e1.size) fun id blk x hh hx he => ?_
    rcases e1.own id blk x hh hx with h | ⟨id0, blk0, x0, a1, a2, a3⟩
    · omega
    · exact hn id0 blk0 x0 a1 a2 (a3.trans he)
  own := fun id blk x hh hx => by
    rcases e2.own id blk x hh hx with h | ⟨id1, blk1, x1, a1, a2, a3⟩
    · exact .inl (Nat.le_trans e1.size h)
    · rcases e1.own id1 blk1 x1 a1 a2 with h | ⟨id0, blk0, x0, b1, b2, b3⟩
      · exact .inl (a3 ▸ h)
      · exact .inr ⟨id0, blk0, x0, b1, b2, b3.trans a3⟩
  fzb := fun b h => by
    rcases e2.fzb b h with h | h | ⟨id1, blk1, x1, a1, a2, a3⟩
    · exact e1.fzb b h
    · exact .inr (.inl (Nat.le_trans e1.size h))
    · rcases e1.own id1 blk1 x1 a1 a2 with h | ⟨id0, blk0, x0, b1, b2, b3⟩
      · exact .inr (.inl (a3 ▸ h))
      · exact .inr (.inr ⟨id0, blk0, x0, b1, b2, b3.trans a3⟩)

theorem heap_lt {w : World} {b : Nat} {o : Obj} (h : w.heap[b]? = some o) : b < w.heap.size := (Array.getElem?_eq_some_iff.1 h).1

/-- A frozen block stays as it is. -/
theorem Ext.keep {c c' : Cfg} {h h' : Heap} {fr : Nat → Prop} (e : Ext c h fr c' h') (hh : HR c h) {b : Nat} (hb : c.Fz b) (hlt : b < c.w.heap.size) : c'.w.heap[b]? = c.w.heap[b]? := by
  refine e.frame b hlt fun id blk x h1 h2 h3 => ?_
  obtain ⟨b', base, sz, arr, E, hB⟩ := hh.blk id blk h1
  rw [hB.ι] at h2
  obtain rfl := Option.some.inj h2
  have h3' : b' = b := h3
  subst h3'
  exact hB.nfz hb

theorem add_block (a : Addr) (n : Nat) : (a.add n).block = a.block := by unfold Addr.add; split <;> rfl

theorem VR.mono {c c' : Cfg} {h h' : Heap} {fr : Nat → Prop} (e : Ext c h fr c' h') (hh : HR c h) {u : AV} {v : Value} (k : VR c u v) : VR c' u v := by
  induction k with
  | bool b => exact .bool b
  | int k n => exact .int k n
  | str s => exact .str s
  | nils => exact .nils
  | ro sz ex l a cap f hcap hmax hex hfz hsz hone hc hv ih =>
    refine .ro sz ex l a cap f hcap hmax hex (fun hl => e.fz _ (hfz hl)) hsz hone (fun i x j u h1 h2 => ?_) ih
    have h3 := hc i x j u h1 h2
    have hl : l ≠ [] := by rintro rfl; simp at h1
    have hlt := World.block_lt_of_cell? c.w _ h3
    rw [add_block] at hlt
    rw [← h3]
    exact World.cell?_of_block (by rw [add_block]; exact e.keep hh (hfz hl) hlt)
  | sl sz id off len lo ex b base cap hι hlen hlo hex hmax hroom a ha =>
    obtain ⟨arr, E, f, h1, h2⟩ := hroom
    obtain ⟨arr', h3, h4⟩ := e.shape _ _ _ _ h1
    exact .sl sz id off len lo ex b base cap (e.ι _ _ hι) hlen hlo hex hmax ⟨arr', E, f, h3, by omega⟩ a ha
  | ep_ro sz ex l i off a cap ha hi ih => exact .ep_ro sz ex l i off a cap ih hi
  | ep_sl sz id o len lo ex i off b base hι => exact .ep_sl sz id o len lo ex i off b base (e.ι _ _ hι)
  | nilp => exact .nilp
  | nilf => exact .nilf
  | fn f cap vs hs hv ih => exact .fn f cap vs hs ih
  | agg cs vs hs hone hv ih => exact .agg cs vs hs hone ih
  | tup cs vs hs hv ih => exact .tup cs vs hs ih
  | undef v => exact .undef v

/-- The cells of a value that stands for one. -/
theorem VR.cells {c : Cfg} {u : AV} {v : Value} (k : VR c u v) (hu : ∀ x, x ∈ u.cells → x.one = true) :
    v.cells.size = u.cells.length ∧ ∀ (j : Nat) (x : AV) (y : Value), u.cells[j]? = some x → v.cells[j]? = some y → VR c x y := by
  cases k
  case agg cs vs hs hone hv => exact ⟨hs, hv⟩
  case undef => simp [AV.cells, AV.one] at hu
  case tup => simp [AV.cells, AV.one] at hu
  all_goals
    refine ⟨rfl, fun j x y h1 h2 => ?_⟩
    cases j with
    | zero =>
      simp [Value.cells] at h1 h2
      subst h1; subst h2
      first | exact .bool _ | exact .int _ _ | exact .str _ | exact .nils | (constructor <;> assumption) | (apply VR.ep_ro <;> assumption) | (apply VR.ep_sl; assumption) | (apply VR.ro <;> assumption) | (apply VR.fn <;> assumption)
    | succ j => simp [] at h1

/-- A one-cell value is none of the machine's aggregates. -/
theorem VR.one {c : Cfg} {u : AV} {v : Value} (k : VR c u v) (hu : u.one = true) : v.oneCell' = true := by
  cases k <;> first | rfl | simp [AV.one] at hu

end Go.Proofs.Ytplkjfnjdekgpaa
