import GoSem.Claims
import Derived.WalkKit
import Derived.WalkSpells
import Derived.Below
import Derived.Great.FillDense
import Derived.Great.BuildSlice
import Derived.Laws.CopyRow
set_option linter.unusedSimpArgs false
set_option linter.unusedVariables false
set_option linter.unusedSectionVars false
namespace Go.Proofs.Ytcngfjmfgeckmaa
open Go
def pins : Nat → Option (Array Value) := fun _ => none
end Go.Proofs.Ytcngfjmfgeckmaa
namespace Go.Proofs.Ytcngfjmfgeckmaa
open Go
structure CellD where
  key : Int
  value : Int
  deriving DecidableEq
structure PageD where
  id : Int
  lsn : Int
  cells : List CellD
structure PageResultD where
  code : Int
  page : PageD
structure BytesResultD where
  code : Int
  bytes : List Int
structure IntResultD where
  code : Int
  value : Int
structure IntsResultD where
  code : Int
  list : List Int
structure TextResultD where
  code : Int
  text : ByteArray
structure LooseD where
  page : Int
  part : Int
  data : List Int
structure DiskD where
  pages : List (List Int)
  loose : List LooseD
structure DiskResultD where
  code : Int
  disk : DiskD
structure RecD where
  kind : Int
  txn : Int
  key : Int
  had : Bool
  old : Int
  has : Bool
  new : Int
  back : Int
structure LogD where
  sure : List Int
  loose : List Int
structure LogResultD where
  code : Int
  lsn : Int
  log : LogD
structure RecsResultD where
  code : Int
  used : Int
  recs : List RecD
structure NodeD where
  leaf : Bool
  keys : List Int
  kids : List Int
structure TreeD where
  root : Int
  nodes : List NodeD
structure TreeResultD where
  code : Int
  tree : TreeD
structure treeWalkD where
  t : TreeD
  seen : List Bool
  depth : Int
  bad : Bool
structure VersionD where
  txn : Int
  at_ : Int
  gone : Bool
  value : Int
structure ViewD where
  at_ : Int
  own : Int
structure ChainResultD where
  code : Int
  chain : List VersionD
structure UndoD where
  key : Int
  had : Bool
  gone : Bool
  value : Int
structure TxnD where
  id : Int
  at_ : Int
  state : Int
  done : Int
  undos : List UndoD
structure RowD where
  key : Int
  chain : List VersionD
structure EngineD where
  next : Int
  clock : Int
  txns : List TxnD
  rows : List RowD
structure EngineResultD where
  code : Int
  value : Int
  engine : EngineD
structure CellsResultD where
  code : Int
  cells : List CellD
structure GarbageResultD where
  code : Int
  versions : Int
  rows : Int
  txns : Int
structure PairD where
  value : Int
  key : Int
  deriving DecidableEq
structure PairsResultD where
  code : Int
  pairs : List PairD
structure ActD where
  kind : Int
  txn : Int
  key : Int
  value : Int
structure ReplyD where
  code : Int
  value : Int
  cells : List CellD
structure CopiedD where
  id : Int
  at_ : Int
  state : Int
  start : List CellD
  now : List CellD
  wrote : List Int
structure CopiesD where
  next : Int
  clock : Int
  now : List CellD
  last : List Int
  txns : List CopiedD
structure CopiesResultD where
  code : Int
  value : Int
  cells : List CellD
  copies : CopiesD
structure RepliesResultD where
  code : Int
  replies : List ReplyD
structure ReplyResultD where
  code : Int
  reply : ReplyD
  engine : EngineD
structure HopD where
  kind : Int
  txn : Int
  key : Int
  of : Int
structure HistoryResultD where
  code : Int
  history : List HopD
structure EdgeD where
  frm : Int
  to : Int
  kind : Int
  deriving DecidableEq
structure EdgesResultD where
  code : Int
  edges : List EdgeD
structure HeldD where
  txn : Int
  key : Int
  deriving DecidableEq
structure StoreD where
  next : Int
  pages : List PageD
  disk : DiskD
  log : LogD
  held : List HeldD
  opn : List Int
structure StoreResultD where
  code : Int
  value : Int
  store : StoreD
structure PagesResultD where
  code : Int
  pages : List PageD
structure CrashResultD where
  code : Int
  disk : DiskD
  log : LogD
structure PartsResultD where
  code : Int
  parts : List (List Int)
structure ScriptResultD where
  code : Int
  engine : EngineD
  said : ByteArray
structure ActResultD where
  code : Int
  act : ActD
structure MergeResultD where
  code : Int
  acts : List ActD
  who : List Int
structure TalksResultD where
  code : Int
  talks : List (List ReplyD)
structure l4GoD where
  seen : List Int
  depth : Int
  bad : Bool
structure l13SimD where
  cells : List CellD
  begun : List Int
  ended : List Int
  undid : List Int
  held : List HeldD
inductive RK where
  | cell
  | page
  | pageResult
  | bytesResult
  | intResult
  | intsResult
  | textResult
  | loose
  | disk
  | diskResult
  | rcrd
  | log
  | logResult
  | recsResult
  | node
  | tree
  | treeResult
  | treeWalk
  | version
  | view
  | chainResult
  | undo
  | txn
  | row
  | engine
  | engineResult
  | cellsResult
  | garbageResult
  | pair
  | pairsResult
  | act
  | reply
  | copied
  | copies
  | copiesResult
  | repliesResult
  | replyResult
  | hop
  | historyResult
  | edge
  | edgesResult
  | held
  | store
  | storeResult
  | pagesResult
  | crashResult
  | partsResult
  | scriptResult
  | actResult
  | mergeResult
  | talksResult
  | l4Go
  | l13Sim
abbrev RK.den : RK → Type
  | .cell => CellD
  | .page => PageD
  | .pageResult => PageResultD
  | .bytesResult => BytesResultD
  | .intResult => IntResultD
  | .intsResult => IntsResultD
  | .textResult => TextResultD
  | .loose => LooseD
  | .disk => DiskD
  | .diskResult => DiskResultD
  | .rcrd => RecD
  | .log => LogD
  | .logResult => LogResultD
  | .recsResult => RecsResultD
  | .node => NodeD
  | .tree => TreeD
  | .treeResult => TreeResultD
  | .treeWalk => treeWalkD
  | .version => VersionD
  | .view => ViewD
  | .chainResult => ChainResultD
  | .undo => UndoD
  | .txn => TxnD
  | .row => RowD
  | .engine => EngineD
  | .engineResult => EngineResultD
  | .cellsResult => CellsResultD
  | .garbageResult => GarbageResultD
  | .pair => PairD
  | .pairsResult => PairsResultD
  | .act => ActD
  | .reply => ReplyD
  | .copied => CopiedD
  | .copies => CopiesD
  | .copiesResult => CopiesResultD
  | .repliesResult => RepliesResultD
  | .replyResult => ReplyResultD
  | .hop => HopD
  | .historyResult => HistoryResultD
  | .edge => EdgeD
  | .edgesResult => EdgesResultD
  | .held => HeldD
  | .store => StoreD
  | .storeResult => StoreResultD
  | .pagesResult => PagesResultD
  | .crashResult => CrashResultD
  | .partsResult => PartsResultD
  | .scriptResult => ScriptResultD
  | .actResult => ActResultD
  | .mergeResult => MergeResultD
  | .talksResult => TalksResultD
  | .l4Go => l4GoD
  | .l13Sim => l13SimD
def RK.num : RK → Nat
  | .cell => 0
  | .page => 1
  | .pageResult => 2
  | .bytesResult => 3
  | .intResult => 4
  | .intsResult => 5
  | .textResult => 6
  | .loose => 7
  | .disk => 8
  | .diskResult => 9
  | .rcrd => 10
  | .log => 11
  | .logResult => 12
  | .recsResult => 13
  | .node => 14
  | .tree => 15
  | .treeResult => 16
  | .treeWalk => 17
  | .version => 18
  | .view => 19
  | .chainResult => 20
  | .undo => 21
  | .txn => 22
  | .row => 23
  | .engine => 24
  | .engineResult => 25
  | .cellsResult => 26
  | .garbageResult => 27
  | .pair => 28
  | .pairsResult => 29
  | .act => 30
  | .reply => 31
  | .copied => 32
  | .copies => 33
  | .copiesResult => 34
  | .repliesResult => 35
  | .replyResult => 36
  | .hop => 37
  | .historyResult => 38
  | .edge => 39
  | .edgesResult => 40
  | .held => 41
  | .store => 42
  | .storeResult => 43
  | .pagesResult => 44
  | .crashResult => 45
  | .partsResult => 46
  | .scriptResult => 47
  | .actResult => 48
  | .mergeResult => 49
  | .talksResult => 50
  | .l4Go => 51
  | .l13Sim => 52
def RK.w : RK → Nat
  | .cell => 2
  | .page => 3
  | .pageResult => 4
  | .bytesResult => 2
  | .intResult => 2
  | .intsResult => 2
  | .textResult => 2
  | .loose => 3
  | .disk => 2
  | .diskResult => 3
  | .rcrd => 8
  | .log => 2
  | .logResult => 4
  | .recsResult => 3
  | .node => 3
  | .tree => 2
  | .treeResult => 3
  | .treeWalk => 5
  | .version => 4
  | .view => 2
  | .chainResult => 2
  | .undo => 4
  | .txn => 5
  | .row => 2
  | .engine => 4
  | .engineResult => 6
  | .cellsResult => 2
  | .garbageResult => 4
  | .pair => 2
  | .pairsResult => 2
  | .act => 4
  | .reply => 3
  | .copied => 6
  | .copies => 5
  | .copiesResult => 8
  | .repliesResult => 2
  | .replyResult => 8
  | .hop => 4
  | .historyResult => 2
  | .edge => 3
  | .edgesResult => 2
  | .held => 2
  | .store => 8
  | .storeResult => 10
  | .pagesResult => 2
  | .crashResult => 5
  | .partsResult => 2
  | .scriptResult => 6
  | .actResult => 5
  | .mergeResult => 3
  | .talksResult => 2
  | .l4Go => 3
  | .l13Sim => 5
def RK.flat : RK → Bool
  | .cell => true
  | .page => false
  | .pageResult => false
  | .bytesResult => false
  | .intResult => true
  | .intsResult => false
  | .textResult => true
  | .loose => false
  | .disk => false
  | .diskResult => false
  | .rcrd => true
  | .log => false
  | .logResult => false
  | .recsResult => false
  | .node => false
  | .tree => false
  | .treeResult => false
  | .treeWalk => false
  | .version => true
  | .view => true
  | .chainResult => false
  | .undo => true
  | .txn => false
  | .row => false
  | .engine => false
  | .engineResult => false
  | .cellsResult => false
  | .garbageResult => true
  | .pair => true
  | .pairsResult => false
  | .act => true
  | .reply => false
  | .copied => false
  | .copies => false
  | .copiesResult => false
  | .repliesResult => false
  | .replyResult => false
  | .hop => true
  | .historyResult => false
  | .edge => true
  | .edgesResult => false
  | .held => true
  | .store => false
  | .storeResult => false
  | .pagesResult => false
  | .crashResult => false
  | .partsResult => false
  | .scriptResult => false
  | .actResult => true
  | .mergeResult => false
  | .talksResult => false
  | .l4Go => false
  | .l13Sim => false
theorem RK.num_inj : ∀ {a b : RK}, a.num = b.num → a = b := by intro a b h; cases a <;> cases b <;> first | rfl | exact absurd h (by decide)
end Go.Proofs.Ytcngfjmfgeckmaa
namespace Go.Proofs.Ytcngfjmfgeckmaa
open Go
inductive AV where
  | bool (b : Bool)
  | int (k : IntKind) (n : Int)
  | str (s : ByteArray)
  | nils
  | ro (sz : Nat) (ex : Bool) (l : List AV)
  | sl (sz id off len lo : Nat) (ex : Bool)
  | ep (sz : Nat) (a : AV) (i off : Nat)
  | nilp
  | nilf
  | fn (f : FuncId) (cap : List AV)
  | agg (cs : List AV)
  | tup (vs : List AV)
  | undef
  deriving Inhabited
namespace AV
def cells : AV → List AV
  | agg cs => cs
  | v => [v]
def one : AV → Bool
  | agg _ => false
  | tup _ => false
  | undef => false
  | _ => true
@[simp] theorem cells_bool (b : Bool) : (bool b).cells = [bool b] := rfl
@[simp] theorem cells_int (k : IntKind) (n : Int) : (int k n).cells = [int k n] := rfl
@[simp] theorem cells_str (s : ByteArray) : (str s).cells = [str s] := rfl
@[simp] theorem cells_nils : nils.cells = [nils] := rfl
@[simp] theorem cells_ro (sz : Nat) (ex : Bool) (l : List AV) : (ro sz ex l).cells = [ro sz ex l] := rfl
@[simp] theorem cells_sl (sz id off len lo : Nat) (ex : Bool) : (sl sz id off len lo ex).cells = [sl sz id off len lo ex] := rfl
@[simp] theorem cells_ep (sz : Nat) (a : AV) (i off : Nat) : (ep sz a i off).cells = [ep sz a i off] := rfl
@[simp] theorem cells_nilp : nilp.cells = [nilp] := rfl
@[simp] theorem cells_nilf : nilf.cells = [nilf] := rfl
@[simp] theorem cells_fn (f : FuncId) (c : List AV) : (fn f c).cells = [fn f c] := rfl
@[simp] theorem cells_agg (cs : List AV) : (agg cs).cells = cs := rfl
end AV
structure Cfg where
  ι : Nat → Option (Nat × Nat × Nat)
  Fz : Nat → Prop
  w : World
abbrev Heap := Nat → Option (List AV)
def Heap.upd (h : Heap) (id : Nat) (b : List AV) : Heap := fun x => if x = id then some b else h x
def Heap.del (h : Heap) (id : Nat) : Heap := fun x => if x = id then none else h x
def Heap.emp : Heap := fun _ => none
@[simp] theorem Heap.upd_same (h : Heap) (id : Nat) (b : List AV) : h.upd id b id = some b := by simp [Heap.upd]
theorem Heap.upd_ne (h : Heap) {id x : Nat} (b : List AV) (hx : x ≠ id) : h.upd id b x = h x := by simp [Heap.upd, hx]
inductive VR (c : Cfg) : AV → Value → Prop
  | bool (b : Bool) : VR c (.bool b) (.bool b)
  | int (k : IntKind) (n : Int) : VR c (.int k n) (.int k n)
  | str (s : ByteArray) : VR c (.str s) (.string s)
  | nils : VR c .nils (.slice none 0 0)
  | ro (sz : Nat) (ex : Bool) (l : List AV) (a : Addr) (cap : Nat) (f : Nat → Nat → Value)
      (hcap : l.length ≤ cap) (hmax : cap ≤ maxLen) (hex : ex = true → cap = l.length) (hfz : l ≠ [] → c.Fz a.block)
      (hsz : ∀ (i : Nat) (e : AV), l[i]? = some e → e.cells.length = sz)
      (hone : ∀ (i : Nat) (e : AV) (j : Nat) (u : AV), l[i]? = some e → e.cells[j]? = some u → u.one = true)
      (hc : ∀ (i : Nat) (e : AV) (j : Nat) (u : AV), l[i]? = some e → e.cells[j]? = some u → c.w.cell? (a.add (i * sz + j)) = some (f i j))
      (hv : ∀ (i : Nat) (e : AV) (j : Nat) (u : AV), l[i]? = some e → e.cells[j]? = some u → VR c u (f i j)) :
      VR c (.ro sz ex l) (.slice (some a) l.length cap)
  | sl (sz id off len lo : Nat) (ex : Bool) (b base cap : Nat)
      (hι : c.ι id = some (b, base, sz)) (hlen : len ≤ lo) (hlo : lo ≤ cap) (hex : ex = true → cap = lo) (hmax : cap ≤ maxLen)
      (hroom : ∃ arr E fr, c.w.heap[b]? = some (.cells arr E fr) ∧ base + (off + cap) * sz ≤ arr.size) (a : Addr) (ha : cap ≠ 0 → a = ⟨b, base + off * sz, none⟩) :
      VR c (.sl sz id off len lo ex) (.slice (some a) len cap)
  | ep_ro (sz : Nat) (ex : Bool) (l : List AV) (i off : Nat) (a : Addr) (cap : Nat) (ha : VR c (.ro sz ex l) (.slice (some a) l.length cap)) (hi : i < l.length) :
      VR c (.ep sz (.ro sz ex l) i off) (.pointer (some (a.add (i * sz + off))))
  | ep_sl (sz id o len lo : Nat) (ex : Bool) (i off b base : Nat) (hι : c.ι id = some (b, base, sz)) :
      VR c (.ep sz (.sl sz id o len lo ex) i off) (.pointer (some ⟨b, base + (o + i) * sz + off, none⟩))
  | nilp : VR c .nilp (.pointer none)
  | nilf : VR c .nilf .nilFunc
  | fn (f : FuncId) (cap : List AV) (vs : Array Value) (hs : vs.size = cap.length)
      (hv : ∀ (i : Nat) (u : AV) (v : Value), cap[i]? = some u → vs[i]? = some v → VR c u v) : VR c (.fn f cap) (.func (.func f) #[] vs)
  | agg (cs : List AV) (vs : Array Value) (hs : vs.size = cs.length) (hone : ∀ u, u ∈ cs → u.one = true)
      (hv : ∀ (i : Nat) (u : AV) (v : Value), cs[i]? = some u → vs[i]? = some v → VR c u v) : VR c (.agg cs) (.agg vs)
  | tup (cs : List AV) (vs : Array Value) (hs : vs.size = cs.length)
      (hv : ∀ (i : Nat) (u : AV) (v : Value), cs[i]? = some u → vs[i]? = some v → VR c u v) : VR c (.tup cs) (.tuple vs)
  | undef (v : Value) : VR c .undef v
structure BlkR (c : Cfg) (id : Nat) (blk : List AV) (b base sz : Nat) (arr : Array Value) (E : TypeId) : Prop where
  ι : c.ι id = some (b, base, sz)
  heap : c.w.heap[b]? = some (.cells arr E (0, 0))
  nfz : ¬ c.Fz b
  size : ∀ (i : Nat) (e : AV), blk[i]? = some e → e.cells.length = sz
  one : ∀ (i : Nat) (e : AV) (j : Nat) (u : AV), blk[i]? = some e → e.cells[j]? = some u → u.one = true
  cell : ∀ (i : Nat) (e : AV) (j : Nat) (u : AV), blk[i]? = some e → e.cells[j]? = some u → ∃ v, arr[base + i * sz + j]? = some v ∧ VR c u v
structure HR (c : Cfg) (h : Heap) : Prop where
  blk : ∀ (id : Nat) (blk : List AV), h id = some blk → ∃ b base sz arr E, BlkR c id blk b base sz arr E
  inj : ∀ (i j : Nat) (bi bj : List AV) (x y : Nat × Nat × Nat), h i = some bi → h j = some bj → c.ι i = some x → c.ι j = some y → x.1 = y.1 → i = j
  fzlt : ∀ b, c.Fz b → b < c.w.heap.size
  pin : ∀ b cs, pins b = some cs → c.Fz b ∧ ∃ E f, c.w.heap[b]? = some (.cells cs E f)
structure Ext (c : Cfg) (h : Heap) (fr : Nat → Prop) (c' : Cfg) (h' : Heap) : Prop where
  os : c'.w.os = c.w.os
  tape : c'.w.tape = c.w.tape
  output : c'.w.output = c.w.output
  size : c.w.heap.size ≤ c'.w.heap.size
  ι : ∀ (id : Nat) (x : Nat × Nat × Nat), c.ι id = some x → c'.ι id = some x
  dom : ∀ (id : Nat) (x : Nat × Nat × Nat), c'.ι id = some x → c.ι id = some x ∨ fr id
  fz : ∀ b, c.Fz b → c'.Fz b
  shape : ∀ (b : Nat) (arr : Array Value) (E : TypeId) (f : Nat × Nat), c.w.heap[b]? = some (.cells arr E f) → ∃ arr', c'.w.heap[b]? = some (.cells arr' E f) ∧ arr'.size = arr.size
  frame : ∀ b, b < c.w.heap.size → (∀ (id : Nat) (blk : List AV) (x : Nat × Nat × Nat), h id = some blk → c.ι id = some x → x.1 ≠ b) → c'.w.heap[b]? = c.w.heap[b]?
  own : ∀ (id : Nat) (blk : List AV) (x : Nat × Nat × Nat), h' id = some blk → c'.ι id = some x →
    c.w.heap.size ≤ x.1 ∨ ∃ id0 blk0 x0, h id0 = some blk0 ∧ c.ι id0 = some x0 ∧ x0.1 = x.1
  fzb : ∀ b, c'.Fz b → c.Fz b ∨ c.w.heap.size ≤ b ∨ ∃ id0 blk0 x0, h id0 = some blk0 ∧ c.ι id0 = some x0 ∧ x0.1 = b
theorem pin_over {c c' : Cfg} {h h' : Heap} {fr : Nat → Prop} (hh : HR c h) (e : Ext c h fr c' h') : ∀ b cs, pins b = some cs → c'.Fz b ∧ ∃ E f, c'.w.heap[b]? = some (.cells cs E f) := fun b cs hp => by
  obtain ⟨h1, E, f, h2⟩ := hh.pin b cs hp
  refine ⟨e.fz b h1, E, f, (e.frame b (hh.fzlt b h1) fun id blk x k1 k2 => ?_).trans h2⟩
  rintro rfl
  obtain ⟨bb, base, sz, arr, E2, hB⟩ := hh.blk id blk k1
  have := hB.ι.symm.trans k2
  obtain rfl := Option.some.inj this
  exact hB.nfz h1
theorem Ext.refl (c : Cfg) (h : Heap) (fr : Nat → Prop) : Ext c h fr c h :=
  ⟨rfl, rfl, rfl, Nat.le_refl _, fun _ _ h => h, fun _ _ h => .inl h, fun _ h => h, fun _ arr _ _ h => ⟨arr, h, rfl⟩, fun _ _ _ => rfl,
   fun id blk x hh hx => .inr ⟨id, blk, x, hh, hx, rfl⟩, fun _ h => .inl h⟩
theorem Ext.trans {c c1 c2 : Cfg} {h h1 h2 : Heap} {f1 f2 fr : Nat → Prop} (e1 : Ext c h f1 c1 h1) (e2 : Ext c1 h1 f2 c2 h2) (k1 : ∀ i, f1 i → fr i) (k2 : ∀ i, f2 i → fr i) : Ext c h fr c2 h2 where
  os := e2.os.trans e1.os
  tape := e2.tape.trans e1.tape
  output := e2.output.trans e1.output
  size := Nat.le_trans e1.size e2.size
  ι := fun id x h => e2.ι id x (e1.ι id x h)
  dom := fun id x h => by
    rcases e2.dom id x h with h | h
    · rcases e1.dom id x h with h | h
      · exact .inl h
      · exact .inr (k1 _ h)
    · exact .inr (k2 _ h)
  fz := fun b h => e2.fz b (e1.fz b h)
  shape := fun b arr E f h => by
    obtain ⟨a1, h1, s1⟩ := e1.shape b arr E f h
    obtain ⟨a2, h2, s2⟩ := e2.shape b a1 E f h1
    exact ⟨a2, h2, s2.trans s1⟩
  frame := fun b hb hn => by
    rw [← e1.frame b hb hn]
    refine e2.frame b (Nat.lt_of_lt_of_le hb e1.size) fun id blk x hh hx he => ?_
    rcases e1.own id blk x hh hx with h | ⟨id0, blk0, x0, a1, a2, a3⟩
    · omega
    · exact hn id0 blk0 x0 a1 a2 (a3.trans he)
  own := fun id blk x hh hx => by
    rcases e2.own id blk x hh hx with h | ⟨id1, blk1, x1, a1, a2, a3⟩
    · exact .inl (Nat.le_trans e1.size h)
    · rcases e1.own id1 blk1 x1 a1 a2 with h | ⟨id0, blk0, x0, b1, b2, b3⟩
      · exact .inl (a3 ▸ h)
      · exact .inr ⟨id0, blk0, x0, b1, b2, b3.trans a3⟩
  fzb := fun b h => by
    rcases e2.fzb b h with h | h | ⟨id1, blk1, x1, a1, a2, a3⟩
    · exact e1.fzb b h
    · exact .inr (.inl (Nat.le_trans e1.size h))
    · rcases e1.own id1 blk1 x1 a1 a2 with h | ⟨id0, blk0, x0, b1, b2, b3⟩
      · exact .inr (.inl (a3 ▸ h))
      · exact .inr (.inr ⟨id0, blk0, x0, b1, b2, b3.trans a3⟩)
theorem heap_lt {w : World} {b : Nat} {o : Obj} (h : w.heap[b]? = some o) : b < w.heap.size := (Array.getElem?_eq_some_iff.1 h).1
theorem Ext.keep {c c' : Cfg} {h h' : Heap} {fr : Nat → Prop} (e : Ext c h fr c' h') (hh : HR c h) {b : Nat} (hb : c.Fz b) (hlt : b < c.w.heap.size) : c'.w.heap[b]? = c.w.heap[b]? := by
  refine e.frame b hlt fun id blk x h1 h2 h3 => ?_
  obtain ⟨b', base, sz, arr, E, hB⟩ := hh.blk id blk h1
  rw [hB.ι] at h2
  obtain rfl := Option.some.inj h2
  have h3' : b' = b := h3
  subst h3'
  exact hB.nfz hb
theorem add_block (a : Addr) (n : Nat) : (a.add n).block = a.block := by unfold Addr.add; split <;> rfl
theorem VR.mono {c c' : Cfg} {h h' : Heap} {fr : Nat → Prop} (e : Ext c h fr c' h') (hh : HR c h) {u : AV} {v : Value} (k : VR c u v) : VR c' u v := by
  induction k with
  | bool b => exact .bool b
  | int k n => exact .int k n
  | str s => exact .str s
  | nils => exact .nils
  | ro sz ex l a cap f hcap hmax hex hfz hsz hone hc hv ih =>
    refine .ro sz ex l a cap f hcap hmax hex (fun hl => e.fz _ (hfz hl)) hsz hone (fun i x j u h1 h2 => ?_) ih
    have h3 := hc i x j u h1 h2
    have hl : l ≠ [] := by rintro rfl; simp at h1
    have hlt := World.block_lt_of_cell? c.w _ h3
    rw [add_block] at hlt
    rw [← h3]
    exact World.cell?_of_block (by rw [add_block]; exact e.keep hh (hfz hl) hlt)
  | sl sz id off len lo ex b base cap hι hlen hlo hex hmax hroom a ha =>
    obtain ⟨arr, E, f, h1, h2⟩ := hroom
    obtain ⟨arr', h3, h4⟩ := e.shape _ _ _ _ h1
    exact .sl sz id off len lo ex b base cap (e.ι _ _ hι) hlen hlo hex hmax ⟨arr', E, f, h3, by omega⟩ a ha
  | ep_ro sz ex l i off a cap ha hi ih => exact .ep_ro sz ex l i off a cap ih hi
  | ep_sl sz id o len lo ex i off b base hι => exact .ep_sl sz id o len lo ex i off b base (e.ι _ _ hι)
  | nilp => exact .nilp
  | nilf => exact .nilf
  | fn f cap vs hs hv ih => exact .fn f cap vs hs ih
  | agg cs vs hs hone hv ih => exact .agg cs vs hs hone ih
  | tup cs vs hs hv ih => exact .tup cs vs hs ih
  | undef v => exact .undef v
theorem VR.cells {c : Cfg} {u : AV} {v : Value} (k : VR c u v) (hu : ∀ x, x ∈ u.cells → x.one = true) :
    v.cells.size = u.cells.length ∧ ∀ (j : Nat) (x : AV) (y : Value), u.cells[j]? = some x → v.cells[j]? = some y → VR c x y := by
  cases k
  case agg cs vs hs hone hv => exact ⟨hs, hv⟩
  case undef => simp [AV.cells, AV.one] at hu
  case tup => simp [AV.cells, AV.one] at hu
  all_goals
    refine ⟨rfl, fun j x y h1 h2 => ?_⟩
    cases j with
    | zero =>
      simp [Value.cells] at h1 h2
      subst h1; subst h2
      first | exact .bool _ | exact .int _ _ | exact .str _ | exact .nils | (constructor <;> assumption) | (apply VR.ep_ro <;> assumption) | (apply VR.ep_sl; assumption) | (apply VR.ro <;> assumption) | (apply VR.fn <;> assumption)
    | succ j => simp [Value.cells] at h1
theorem VR.one {c : Cfg} {u : AV} {v : Value} (k : VR c u v) (hu : u.one = true) : v.oneCell' = true := by
  cases k <;> first | rfl | simp [AV.one] at hu
end Go.Proofs.Ytcngfjmfgeckmaa
namespace Go.Proofs.Ytcngfjmfgeckmaa
open Go
inductive Ty where
  | bool
  | int (k : IntKind)
  | str
  | slice (e : TypeId)
  | struct (fs : List (Nat × TypeId))
  | ptr
  | func
  | other
  deriving Inhabited
structure TI where
  ty : Ty := .other
  sz : Nat := 0
  bytes : Nat := 0
  zero : AV := .undef
  cmp : Bool := false
  deriving Inhabited
abbrev TE := TypeId → TI
def Ty.scalar : Ty → Bool
  | .bool | .int _ | .str => true
  | _ => false
structure TEOk (P : Program) (T : TE) : Prop where
  tbool : ∀ t, (T t).ty = .bool → P.underlying t = some .bool
  tint : ∀ t k, (T t).ty = .int k → P.underlying t = some (.int k)
  tstr : ∀ t, (T t).ty = .str → P.underlying t = some .string
  tslice : ∀ t e, (T t).ty = .slice e → P.underlying t = some (.slice e)
  tstruct : ∀ t fs, (T t).ty = .struct fs → ∃ F : Array Field, P.underlying t = some (.struct F) ∧ F.toList.map (fun f => (f.offset, f.type)) = fs
  tptr : ∀ t, (T t).ty = .ptr → ∃ e, P.underlying t = some (.pointer e)
  tfunc : ∀ t, (T t).ty = .func → ∃ a b c, P.underlying t = some (.func a b c)
  info : ∀ t, 0 < (T t).sz → ∃ i z, P.info? t = some i ∧ i.size = (T t).sz ∧ i.bytes = (T t).bytes ∧ i.zero = some z ∧ (∀ c, VR c (T t).zero z) ∧
    (T t).zero.cells.length = (T t).sz ∧ (∀ u, u ∈ (T t).zero.cells → u.one = true)
  cmp : ∀ t fs, (T t).ty = .struct fs → (T t).cmp = true → P.stoodInHeld t = false ∧ P.eqGuardType P.depth t = false ∧
    ∃ F : Array Field, P.underlying t = some (.struct F) ∧ F.toList.map (fun f => (f.offset, f.type)) = fs ∧ (∀ f, f ∈ F.toList → f.name ≠ "_") ∧
      (∀ (i : Nat) (p : Nat × TypeId), fs[i]? = some p → p.1 = i)
def rdSl (h : Heap) (sz : Nat) : AV → Option (List AV)
  | .nils => some []
  | .ro s _ l => if s = sz then some l else none
  | .sl s id off len _ _ => if s = sz then (match h id with
      | some b => if off + len ≤ b.length then some ((b.drop off).take len) else none
      | none => none) else none
  | _ => none
def AV.good : AV → Bool
  | .agg _ => true
  | v => v.one
def part (T : TE) (t : TypeId) (off : Nat) (e : AV) : Option AV :=
  match (T t).ty with
  | .struct _ => if off + (T t).sz ≤ e.cells.length then some (.agg ((e.cells.drop off).take (T t).sz)) else none
  | .other => none
  | _ => e.cells[off]?
def setPart (e : AV) (off : Nat) (v : AV) : AV :=
  match e with
  | .agg cs => .agg (cs.take off ++ v.cells ++ cs.drop (off + v.cells.length))
  | _ => v
def ofVal : Value → AV
  | .bool b => .bool b
  | .int k n => .int k n
  | .string s => .str s
  | .slice none 0 0 => .nils
  | .pointer none => .nilp
  | .nilFunc => .nilf
  | .func (.func f) ⟨[]⟩ ⟨[]⟩ => .fn f []
  | _ => .undef
def eqC : AV → AV → Option Bool
  | .int k a, .int k' b => if k = k' then some (a == b) else none
  | .bool a, .bool b => some (a == b)
  | .str a, .str b => some (a.toList == b.toList)
  | _, _ => none
def eqCells : List AV → List AV → Option Bool
  | [], [] => some true
  | x :: xs, y :: ys => (eqC x y).bind fun a => (eqCells xs ys).bind fun b => some (a && b)
  | _, _ => none
def bitA (op : BinOp) (k : IntKind) (x y : Int) : Int :=
  let a := BitVec.ofInt k.bits x
  let b := BitVec.ofInt k.bits y
  match op with
  | .and => k.wrap ((a &&& b).toNat : Int)
  | .or => k.wrap ((a ||| b).toNat : Int)
  | .xor => k.wrap ((a ^^^ b).toNat : Int)
  | _ => k.wrap ((a &&& ~~~b).toNat : Int)
def scalarFits (T : TE) (t : TypeId) (x : AV) : Prop :=
  match (T t).ty, x with
  | .int _, .int _ _ => True
  | .bool, .bool _ => True
  | .str, .str _ => True
  | _, _ => False
def fitsP (T : TE) : List (Nat × TypeId) → List AV → Prop
  | [], [] => True
  | p :: fs, x :: xs => scalarFits T p.2 x ∧ fitsP T fs xs
  | _, _ => False
def binP (T : TE) (op : BinOp) (t : TypeId) (x y : AV) (K : AV → Prop) : Prop :=
  match op, x, y with
  | .shl, .int k a, .int _ b => 0 ≤ b ∧ K (.int k (k.wrap (a * 2 ^ (min b.toNat k.bits))))
  | .shr, .int k a, .int _ b => 0 ≤ b ∧ K (.int k (a.fdiv (2 ^ (min b.toNat k.bits))))
  | .add, .int k a, .int k' b => k = k' ∧ K (.int k (k.wrap (a + b)))
  | .sub, .int k a, .int k' b => k = k' ∧ K (.int k (k.wrap (a - b)))
  | .mul, .int k a, .int k' b => k = k' ∧ K (.int k (k.wrap (a * b)))
  | .quo, .int k a, .int k' b => k = k' ∧ b ≠ 0 ∧ K (.int k (k.wrap (a.tdiv b)))
  | .rem, .int k a, .int k' b => k = k' ∧ b ≠ 0 ∧ K (.int k (a.tmod b))
  | .and, .int k a, .int k' b => k = k' ∧ K (.int k (bitA .and k a b))
  | .or, .int k a, .int k' b => k = k' ∧ K (.int k (bitA .or k a b))
  | .eql, .int k a, .int k' b => k = k' ∧ K (.bool (decide (a = b)))
  | .neq, .int k a, .int k' b => k = k' ∧ K (.bool (decide (a ≠ b)))
  | .lss, .int k a, .int k' b => k = k' ∧ K (.bool (decide (a < b)))
  | .leq, .int k a, .int k' b => k = k' ∧ K (.bool (decide (a ≤ b)))
  | .gtr, .int k a, .int k' b => k = k' ∧ K (.bool (decide (b < a)))
  | .geq, .int k a, .int k' b => k = k' ∧ K (.bool (decide (b ≤ a)))
  | .add, .str a, .str b => a.size + b.size ≤ maxLen ∧ K (.str (a ++ b))
  | .eql, .str a, .str b => K (.bool (decide (a = b)))
  | .neq, .str a, .str b => K (.bool (decide (a ≠ b)))
  | .eql, .bool a, .bool b => (T t).ty = .bool ∧ K (.bool (a == b))
  | .neq, .bool a, .bool b => (T t).ty = .bool ∧ K (.bool (!(a == b)))
  | .eql, .agg a, .agg b => ∃ fs, (T t).ty = .struct fs ∧ (T t).cmp = true ∧ fitsP T fs a ∧ ∃ r, eqCells a b = some r ∧ K (.bool r)
  | .neq, .agg a, .agg b => ∃ fs, (T t).ty = .struct fs ∧ (T t).cmp = true ∧ fitsP T fs a ∧ ∃ r, eqCells a b = some r ∧ K (.bool (!r))
  | .eql, .nils, .nils => (∃ e, (T t).ty = .slice e) ∧ K (.bool true)
  | .eql, .ro _ _ _, .nils => (∃ e, (T t).ty = .slice e) ∧ K (.bool false)
  | .eql, .sl _ _ _ _ _ _, .nils => (∃ e, (T t).ty = .slice e) ∧ K (.bool false)
  | _, _, _ => False
def unP (op : UnOp) (x : AV) (K : AV → Prop) : Prop :=
  match op, x with
  | .not, .bool b => K (.bool (!b))
  | .neg, .int k n => K (.int k (k.wrap (0 - n)))
  | _, _ => False
def bnd (o : Option AV) (d n : Nat) : Prop :=
  match o with
  | none => n = d
  | some (.int _ z) => 0 ≤ z ∧ n = z.toNat
  | _ => False
def sliceP (sz : Nat) (x : AV) (lo hi mx : Option AV) (K : AV → Prop) : Prop :=
  match x with
  | .nils => bnd lo 0 0 ∧ bnd hi 0 0 ∧ bnd mx 0 0 ∧ K .nils
  | .ro s ex l => s = sz ∧ ∃ i j m, bnd lo 0 i ∧ bnd hi l.length j ∧ bnd mx l.length m ∧ i ≤ j ∧ j ≤ m ∧ m ≤ l.length ∧
      K (.ro s (if mx.isSome then decide (m = j) else (ex && decide (j = l.length))) ((l.drop i).take (j - i)))
  | .sl s id off len lo' ex => s = sz ∧ ∃ i j m, bnd lo 0 i ∧ bnd hi len j ∧ bnd mx lo' m ∧ i ≤ j ∧ j ≤ m ∧ m ≤ lo' ∧
      K (.sl s id (off + i) (j - i) (m - i) (if mx.isSome then true else ex))
  | _ => False
def strSliceP (s : ByteArray) (lo hi : Option AV) (K : AV → Prop) : Prop :=
  ∃ i j, bnd lo 0 i ∧ bnd hi s.size j ∧ i ≤ j ∧ j ≤ s.size ∧ K (.str (s.extract i j))
def appendP (T : TE) (e : TypeId) (x y : AV) (h : Heap) (n : Nat) (K : AV → Heap → Nat → Prop) : Prop :=
  ∃ ys, rdSl h (T e).sz y = some ys ∧ 0 < (T e).sz ∧
  match x with
  | .nils => ys.length * (T e).bytes ≤ 140737488355328 ∧ ys.length ≤ 140737488355328 ∧ (if ys = [] then K .nils h n else K (.sl (T e).sz n 0 ys.length ys.length false) (h.upd n ys) (n + 1))
  | .ro s ex l => s = (T e).sz ∧ (l.length + ys.length) * (T e).bytes ≤ 140737488355328 ∧ l.length + ys.length ≤ 140737488355328 ∧
      (if ys = [] then K x h n else ex = true ∧ K (.sl s n 0 (l.length + ys.length) (l.length + ys.length) false) (h.upd n (l ++ ys)) (n + 1))
  | .sl s id off len lo ex => s = (T e).sz ∧ (len + ys.length) * (T e).bytes ≤ 140737488355328 ∧ len + ys.length ≤ 140737488355328 ∧ ∃ b, h id = some b ∧ off + lo ≤ b.length ∧
      (if len + ys.length ≤ lo then K (.sl s id off (len + ys.length) lo ex) (h.upd id (b.take (off + len) ++ ys ++ b.drop (off + len + ys.length))) n
       else if ex = true then K (.sl s n 0 (len + ys.length) (len + ys.length) false) (h.upd n ((b.drop off).take len ++ ys)) (n + 1)
       else K (.sl s n 0 (len + ys.length) (len + ys.length) false) ((h.del id).upd n ((b.drop off).take len ++ ys)) (n + 1))
  | _ => False
def copyP (T : TE) (e : TypeId) (x y : AV) (h : Heap) (n : Nat) (K : AV → Heap → Nat → Prop) : Prop :=
  ∃ ys, rdSl h (T e).sz y = some ys ∧ 0 < (T e).sz ∧
  match x with
  | .nils => K (.int .i64 0) h n
  | .sl s id off len _ _ => s = (T e).sz ∧ ∃ b, h id = some b ∧ off + len ≤ b.length ∧ K (.int .i64 (min ys.length len : Nat)) (h.upd id (b.take off ++ ys.take len ++ b.drop (off + (ys.take len).length))) n
  | .ro _ _ [] => K (.int .i64 0) h n
  | _ => False
def copyX (T : TE) (t : TypeId) (x y : AV) (h : Heap) (n : Nat) (K : AV → Heap → Nat → Prop) : Prop :=
  ∃ e id off len lo ex id2 off2 len2 lo2 ex2 b b2, (T t).ty = .slice e ∧ 0 < (T e).sz ∧ x = .sl (T e).sz id off len lo ex ∧ y = .sl (T e).sz id2 off2 len2 lo2 ex2 ∧ h id = some b ∧ off ≤ b.length ∧ h id2 = some b2 ∧ off2 + min len2 len ≤ b2.length ∧
    K (.int .i64 (min len2 len : Nat)) (h.upd id (b.take off ++ (b2.drop off2).take (min len2 len) ++ b.drop (off + min len2 len))) n
def clearP (T : TE) (e : TypeId) (x : AV) (h : Heap) (n : Nat) (K : AV → Heap → Nat → Prop) : Prop :=
  0 < (T e).sz ∧
  match x with
  | .nils => K (.tup []) h n
  | .sl s id off len _ _ => s = (T e).sz ∧ ∃ b, h id = some b ∧ off + len ≤ b.length ∧ K (.tup []) (h.upd id (b.take off ++ List.replicate len (T e).zero ++ b.drop (off + len))) n
  | _ => False
def buildP (T : TE) (fs : List (Nat × TypeId)) (cells : List AV) (ev : Operand → AV) : List (Nat × Operand) → (List AV → Prop) → Prop
  | [], K => K cells
  | (i, x) :: rest, K => ∃ p, fs[i]? = some p ∧ (ev x).cells.length = (T p.2).sz ∧ 0 < (T p.2).sz ∧ p.1 + (T p.2).sz ≤ cells.length ∧ (ev x).good = true ∧
      buildP T fs (cells.take p.1 ++ (ev x).cells ++ cells.drop (p.1 + (T p.2).sz)) ev rest K
def builtinP (T : TE) (b : Builtin) (ts : List TypeId) (xs : List AV) (h : Heap) (n : Nat) (K : AV → Heap → Nat → Prop) : Prop :=
  match b, ts, xs with
  | .len, [t], [.str s] => (T t).ty = .str ∧ K (.int .i64 s.size) h n
  | .len, [t], [x] => ∃ e l, (T t).ty = .slice e ∧ rdSl h (T e).sz x = some l ∧ K (.int .i64 l.length) h n
  | .cap, [t], [.sl _ _ _ _ lo ex] => ∃ e, (T t).ty = .slice e ∧ ex = true ∧ K (.int .i64 lo) h n
  | .min, _, [.int k a, .int k' b] => k = k' ∧ K (.int k (if b < a then b else a)) h n
  | .max, _, [.int k a, .int k' b] => k = k' ∧ K (.int k (if a < b then b else a)) h n
  | .append, [t, t'], [x, y] => t = t' ∧ ∃ e, (T t).ty = .slice e ∧ appendP T e x y h n K
  | .copy, [t, _], [x, y] => (∃ e, (T t).ty = .slice e ∧ copyP T e x y h n K) ∨ copyX T t x y h n K
  | .clear, [t], [x] => ∃ e, (T t).ty = .slice e ∧ clearP T e x h n K
  | _, _, _ => False
def bytesStr (ns : List Int) : ByteArray := ns.foldl (fun r m => r.push (UInt8.ofNat m.toNat)) ByteArray.empty
def opP (T : TE) (op : Op) (ev : Operand → AV) (h : Heap) (n : Nat) (K : AV → Heap → Nat → Prop) : Prop :=
  match op with
  | .move x => K (ev x) h n
  | .assign x => K (ev x) h n
  | .pick c a b => ∃ t, ev c = .bool t ∧ K (if t then ev a else ev b) h n
  | .alloc e => 0 < (T e).sz ∧ K (.ep (T e).sz (.sl (T e).sz n 0 1 1 true) 0 0) (h.upd n [(T e).zero]) (n + 1)
  | .box e x => (ev x).good = true ∧ (ev x).cells.length = (T e).sz ∧ 0 < (T e).sz ∧ K (.ep (T e).sz (.sl (T e).sz n 0 1 1 true) 0 0) (h.upd n [ev x]) (n + 1)
  | .build t parts => ∃ fs, (T t).ty = .struct fs ∧ 0 < (T t).sz ∧ fs.all (fun p => decide (0 < (T p.2).sz)) = true ∧ buildP T fs (T t).zero.cells ev parts.toList (fun cs => K (.agg cs) h n)
  | .buildSlice t len parts => ∃ e, (T t).ty = .slice e ∧ 0 < (T e).sz ∧ len * (T e).sz ≤ 16777216 ∧ parts.toList.map (·.1) = List.range len ∧
      (∀ p, p ∈ parts.toList → (ev p.2).cells.length = (T e).sz ∧ (ev p.2).good = true) ∧
      K (.sl (T e).sz n 0 len len true) (h.upd n (parts.toList.map fun p => ev p.2)) (n + 1)
  | .load t a => ∃ sz s i off l e v, ev a = .ep sz s i off ∧ rdSl h sz s = some l ∧ l[i]? = some e ∧ part T t off e = some v ∧ (∀ fs, (T t).ty = .struct fs → 0 < (T t).sz) ∧ K v h n
  | .store t a x => ∃ sz id o len lo ex i off b e, ev a = .ep sz (.sl sz id o len lo ex) i off ∧ h id = some b ∧ b[o + i]? = some e ∧ (ev x).good = true ∧
      (ev x).cells.length = (T t).sz ∧ 0 < (T t).sz ∧ off + (T t).sz ≤ e.cells.length ∧ K .undef (h.upd id (b.set (o + i) (setPart e off (ev x)))) n
  | .nilCheck x => match ev x with
      | .ep sz a i off => K (.ep sz a i off) h n
      | .fn f c => K (.fn f c) h n
      | _ => False
  | .binOp op t x y _ => binP T op t (ev x) (ev y) (fun r => K r h n)
  | .unOp op _ x => unP op (ev x) (fun r => K r h n)
  | .convert s d x => match (T d).ty, ev x with
      | .int k, .int _ m => (∃ k', (T s).ty = .int k') ∧ K (.int k (k.wrap m)) h n
      | .str, v => ∃ e ns, (T s).ty = .slice e ∧ (T e).ty = .int .u8 ∧ rdSl h 1 v = some (ns.map (AV.int .u8)) ∧ K (.str (bytesStr ns)) h n
      | _, _ => False
  | .makeFunc (.func f) first cap => first = #[] ∧ K (.fn f (cap.toList.map ev)) h n
  | .makeSlice t l c => ∃ (e : TypeId) (k1 k2 : IntKind) (a b : Int), (T t).ty = .slice e ∧ 0 < (T e).sz ∧ ev l = .int k1 a ∧ ev c = .int k2 b ∧ 0 ≤ a ∧ a ≤ b ∧ ((T e).bytes : Int) * b ≤ 140737488355328 ∧ b ≤ 140737488355328 ∧
      K (.sl (T e).sz n 0 a.toNat b.toNat true) (h.upd n (List.replicate b.toNat (T e).zero)) (n + 1)
  | .slice t x lo hi mx => match ev x with
      | .str s => (T t).ty = .str ∧ mx = none ∧ strSliceP s (lo.map ev) (hi.map ev) (fun r => K r h n)
      | v => ∃ e, (T t).ty = .slice e ∧ 0 < (T e).sz ∧ (mx.isSome = true → hi.isSome = true) ∧ sliceP (T e).sz v (lo.map ev) (hi.map ev) (mx.map ev) (fun r => K r h n)
  | .fieldAddr s x f => ∃ sz b i off fs p, ev x = .ep sz b i off ∧ (T s).ty = .struct fs ∧ fs[f]? = some p ∧ 0 < (T p.2).sz ∧ K (.ep sz b i (off + p.1)) h n
  | .field t x f => ∃ fs p cs v, (T t).ty = .struct fs ∧ fs[f]? = some p ∧ ev x = .agg cs ∧ part T p.2 p.1 (.agg cs) = some v ∧ (∀ fs, (T p.2).ty = .struct fs → 0 < (T p.2).sz) ∧ K v h n
  | .indexAddr t x ix => ∃ e l k i, (T t).ty = .slice e ∧ 0 < (T e).sz ∧ rdSl h (T e).sz (ev x) = some l ∧ ev ix = .int k i ∧ 0 ≤ i ∧ i < (l.length : Int) ∧ K (.ep (T e).sz (ev x) i.toNat 0) h n
  | .index t x ix => ∃ s k i, (T t).ty = .str ∧ ev x = .str s ∧ ev ix = .int k i ∧ 0 ≤ i ∧ ∃ hi : i.toNat < s.size, K (.int .u8 ((s[i.toNat]'hi).toNat : Int)) h n
  | .extract t ix => ∃ vs r, ev t = .tup vs ∧ vs[ix]? = some r ∧ K r h n
  | .call c => match c.callee with
      | .builtin b => builtinP T b c.argTypes.toList (c.args.toList.map ev) h n K
      | _ => False
  | _ => False
end Go.Proofs.Ytcngfjmfgeckmaa
namespace Go.Proofs.Ytcngfjmfgeckmaa
open Go
def OpOk (P : Program) (c : Cfg) (h : Heap) (n : Nat) (s : Sem Next) (K : AV → Heap → Nat → Prop) : Prop :=
  ∃ (nx : Next) (c' : Cfg) (r : AV) (h' : Heap) (n' : Nat) (v : Value), s.run P c.w = .ok nx c'.w ∧ (nx = .value v ∨ (nx = .skip ∧ v = Go.undef)) ∧
    Ext c h (fun id => n ≤ id ∧ id < n') c' h' ∧ HR c' h' ∧ (∀ id, n' ≤ id → c'.ι id = none) ∧ VR c' r v ∧ n ≤ n' ∧ K r h' n'
section
variable {P : Program} {c : Cfg} {h : Heap} {n : Nat} {K : AV → Heap → Nat → Prop}
theorem OpOk.pure (hh : HR c h) (hf : ∀ id, n ≤ id → c.ι id = none) {s : Sem Next} {r : AV} {v : Value} (hrun : s.run P c.w = .ok (.value v) c.w) (hv : VR c r v) (hK : K r h n) : OpOk P c h n s K :=
  ⟨_, c, r, h, n, v, hrun, .inl rfl, Ext.refl _ _ _, hh, hf, hv, Nat.le_refl _, hK⟩
def Cfg.new (c : Cfg) (n sz : Nat) (w' : World) : Cfg := ⟨fun x => if x = n then some (c.w.heap.size, 0, sz) else c.ι x, c.Fz, w'⟩
theorem alloc_ext (_ : HR c h) (hf : ∀ id, n ≤ id → c.ι id = none) {w' : World} {arr : Array Value} {E : TypeId} {sz : Nat} (blk : List AV) (hw : w'.heap = c.w.heap.push (.cells arr E))
    (h1 : w'.os = c.w.os) (h2 : w'.tape = c.w.tape) (h3 : w'.output = c.w.output) : Ext c h (fun id => n ≤ id ∧ id < n + 1) (c.new n sz w') (h.upd n blk) := by
  have hold : ∀ b, b < c.w.heap.size → w'.heap[b]? = c.w.heap[b]? := fun b hb => by rw [hw, Array.getElem?_push, if_neg (by omega)]
  refine ⟨h1, h2, h3, ?_, ?_, ?_, fun b h => h, ?_, fun b hb _ => hold b hb, ?_, fun b h => .inl h⟩
  · show _ ≤ w'.heap.size; rw [hw, Array.size_push]; omega
  · intro id x hx
    show (if id = n then _ else _) = _
    rw [if_neg (by rintro rfl; rw [hf _ (Nat.le_refl _)] at hx; cases hx)]; exact hx
  · intro id x hx
    have hx' : (if id = n then some (c.w.heap.size, 0, sz) else c.ι id) = some x := hx
    split at hx'
    · exact .inr ⟨by omega, by omega⟩
    · exact .inl hx'
  · intro b arr0 E0 f hb
    exact ⟨arr0, (hold b (heap_lt hb)).trans hb, rfl⟩
  · intro id blk0 x hb hx
    have hx' : (if id = n then some (c.w.heap.size, 0, sz) else c.ι id) = some x := hx
    by_cases hid : id = n
    · rw [if_pos hid] at hx'
      obtain rfl := Option.some.inj hx'
      exact .inl (Nat.le_refl _)
    · rw [if_neg hid] at hx'
      rw [Heap.upd_ne _ _ hid] at hb
      exact .inr ⟨id, blk0, x, hb, hx', rfl⟩
theorem alloc_hr (hh : HR c h) (hf : ∀ id, n ≤ id → c.ι id = none) {w' : World} {arr : Array Value} {E : TypeId} {sz : Nat} {blk : List AV} (hw : w'.heap = c.w.heap.push (.cells arr E))
    (h1 : w'.os = c.w.os) (h2 : w'.tape = c.w.tape) (h3 : w'.output = c.w.output)
    (hsz : ∀ (i : Nat) (e : AV), blk[i]? = some e → e.cells.length = sz)
    (hone : ∀ (i : Nat) (e : AV) (j : Nat) (u : AV), blk[i]? = some e → e.cells[j]? = some u → u.one = true)
    (hc : ∀ (i : Nat) (e : AV) (j : Nat) (u : AV), blk[i]? = some e → e.cells[j]? = some u → ∃ v, arr[i * sz + j]? = some v ∧ VR c u v) : HR (c.new n sz w') (h.upd n blk) := by
  have hext : Ext c h (fun id => n ≤ id ∧ id < n + 1) (c.new n sz w') (h.upd n blk) := alloc_ext hh hf blk hw h1 h2 h3
  have hι : ∀ id, id ≠ n → (c.new n sz w').ι id = c.ι id := fun id hid => if_neg hid
  have hιn : (c.new n sz w').ι n = some (c.w.heap.size, 0, sz) := if_pos rfl
  have old : ∀ id blk0, h id = some blk0 → id ≠ n → ∃ b base sz0 arr0 E0, BlkR c id blk0 b base sz0 arr0 E0 ∧ BlkR (c.new n sz w') id blk0 b base sz0 arr0 E0 := by
    intro id blk0 hb hid
    obtain ⟨b, base, sz0, arr0, E0, hB⟩ := hh.blk id blk0 hb
    refine ⟨b, base, sz0, arr0, E0, hB, (hι id hid).trans hB.ι, ?_, hB.nfz, hB.size, hB.one, fun i e j u a1 a2 => ?_⟩
    · show w'.heap[b]? = _
      rw [hw, Array.getElem?_push, if_neg (by have := heap_lt hB.heap; omega)]; exact hB.heap
    · obtain ⟨v, b1, b2⟩ := hB.cell i e j u a1 a2
      exact ⟨v, b1, b2.mono hext hh⟩
  refine ⟨fun id blk0 hb => ?_, fun i j bi bj x y hi hj hx hy hxy => ?_, fun b hb => ?_, pin_over hh hext⟩
  · by_cases hid : id = n
    · subst hid
      rw [Heap.upd_same] at hb
      obtain rfl := Option.some.inj hb
      refine ⟨c.w.heap.size, 0, sz, arr, E, hιn, ?_, fun hfz => ?_, hsz, hone, fun i e j u a1 a2 => ?_⟩
      · show w'.heap[c.w.heap.size]? = _
        rw [hw]; simp
      · exact absurd (hh.fzlt _ hfz) (Nat.lt_irrefl _)
      · obtain ⟨v, b1, b2⟩ := hc i e j u a1 a2
        exact ⟨v, by simpa using b1, b2.mono hext hh⟩
    · rw [Heap.upd_ne _ _ hid] at hb
      obtain ⟨b, base, sz0, arr0, E0, _, hB⟩ := old id blk0 hb hid
      exact ⟨b, base, sz0, arr0, E0, hB⟩
  · have lt : ∀ id blk0 z, h id = some blk0 → id ≠ n → (c.new n sz w').ι id = some z → z.1 < c.w.heap.size := by
      intro id blk0 z hb hid hz
      obtain ⟨b, base, sz0, arr0, E0, hB⟩ := hh.blk id blk0 hb
      rw [hι id hid, hB.ι] at hz
      obtain rfl := Option.some.inj hz
      exact heap_lt hB.heap
    by_cases hin : i = n <;> by_cases hjn : j = n
    · omega
    · subst hin
      rw [Heap.upd_ne _ _ hjn] at hj
      rw [hιn] at hx
      obtain rfl := Option.some.inj hx
      have := lt j bj y hj hjn hy
      have hxy' : c.w.heap.size = y.1 := hxy
      omega
    · subst hjn
      rw [Heap.upd_ne _ _ hin] at hi
      rw [hιn] at hy
      obtain rfl := Option.some.inj hy
      have := lt i bi x hi hin hx
      have hxy' : x.1 = c.w.heap.size := hxy
      omega
    · rw [Heap.upd_ne _ _ hin] at hi
      rw [Heap.upd_ne _ _ hjn] at hj
      rw [hι _ hin] at hx
      rw [hι _ hjn] at hy
      exact hh.inj i j bi bj x y hi hj hx hy hxy
  · have := hh.fzlt b hb
    show b < w'.heap.size
    rw [hw, Array.size_push]; omega
theorem alloc_fresh (hf : ∀ id, n ≤ id → c.ι id = none) {w' : World} {sz : Nat} : ∀ id, n + 1 ≤ id → (c.new n sz w').ι id = none := fun id hid => by
  show (if id = n then _ else _) = _
  rw [if_neg (by omega)]; exact hf id (by omega)
def Cfg.wr (c : Cfg) (n : Nat) (x : Nat × Nat × Nat) (w' : World) : Cfg := ⟨fun y => if y = n then some x else c.ι y, c.Fz, w'⟩
theorem write_ok (hh : HR c h) {id : Nat} {b : List AV} (hb : h id = some b) {bb base sz : Nat} {arr arr' : Array Value} {E : TypeId} (hB : BlkR c id b bb base sz arr E) {w' : World}
    (hw : w'.heap = c.w.heap.setIfInBounds bb (.cells arr' E (0, 0))) (h1 : w'.os = c.w.os) (h2 : w'.tape = c.w.tape) (h3 : w'.output = c.w.output) (hs : arr'.size = arr.size)
    (b' : List AV) (hsz : ∀ (i : Nat) (e : AV), b'[i]? = some e → e.cells.length = sz)
    (hone : ∀ (i : Nat) (e : AV) (j : Nat) (u : AV), b'[i]? = some e → e.cells[j]? = some u → u.one = true)
    (hc : ∀ (i : Nat) (e : AV) (j : Nat) (u : AV), b'[i]? = some e → e.cells[j]? = some u → ∃ v, arr'[base + i * sz + j]? = some v ∧ VR c u v) :
    Ext c h (fun _ => False) ⟨c.ι, c.Fz, w'⟩ (h.upd id b') ∧ HR ⟨c.ι, c.Fz, w'⟩ (h.upd id b') := by
  have hbl := heap_lt hB.heap
  have hat : w'.heap[bb]? = some (.cells arr' E (0, 0)) := by rw [hw]; simp [hbl]
  have hne : ∀ k, k ≠ bb → w'.heap[k]? = c.w.heap[k]? := fun k hk => by rw [hw, Array.getElem?_setIfInBounds_ne (Ne.symm hk)]
  have hsize : w'.heap.size = c.w.heap.size := by rw [hw]; simp
  have hext : Ext c h (fun _ => False) ⟨c.ι, c.Fz, w'⟩ (h.upd id b') := by
    refine ⟨h1, h2, h3, by show _ ≤ w'.heap.size; omega, fun _ _ h => h, fun _ _ h => .inl h, fun _ h => h, ?_, ?_, ?_, fun _ h => .inl h⟩
    · intro k a0 E0 f hk
      by_cases hkb : k = bb
      · subst hkb
        rw [hB.heap] at hk
        obtain ⟨rfl, rfl, rfl⟩ := Obj.cells.inj (Option.some.inj hk)
        exact ⟨arr', hat, hs⟩
      · exact ⟨a0, (hne k hkb).trans hk, rfl⟩
    · intro k hk hno
      exact hne k (fun hkb => hno id b _ hb hB.ι (hkb ▸ rfl))
    · intro i bi x hi hx
      by_cases hid : i = id
      · subst hid; exact .inr ⟨i, b, x, hb, hx, rfl⟩
      · rw [Heap.upd_ne _ _ hid] at hi; exact .inr ⟨i, bi, x, hi, hx, rfl⟩
  refine ⟨hext, fun i bi hi => ?_, fun i j bi bj x y hi hj hx hy hxy => ?_, fun k hk => by show k < w'.heap.size; rw [hsize]; exact hh.fzlt k hk, pin_over hh hext⟩
  · by_cases hid : i = id
    · subst hid
      rw [Heap.upd_same] at hi
      obtain rfl := Option.some.inj hi
      refine ⟨bb, base, sz, arr', E, hB.ι, hat, hB.nfz, hsz, hone, fun k e j u a1 a2 => ?_⟩
      obtain ⟨v, q1, q2⟩ := hc k e j u a1 a2
      exact ⟨v, q1, q2.mono hext hh⟩
    · rw [Heap.upd_ne _ _ hid] at hi
      obtain ⟨k, base0, sz0, arr0, E0, hB0⟩ := hh.blk i bi hi
      refine ⟨k, base0, sz0, arr0, E0, hB0.ι, ?_, hB0.nfz, hB0.size, hB0.one, fun k e j u a1 a2 => ?_⟩
      · show w'.heap[k]? = _
        rw [hne k (fun hk => hid (hh.inj i id bi b _ _ hi hb hB0.ι hB.ι hk))]; exact hB0.heap
      · obtain ⟨v, q1, q2⟩ := hB0.cell k e j u a1 a2
        exact ⟨v, q1, q2.mono hext hh⟩
  · have up : ∀ k bk, (h.upd id b') k = some bk → ∃ b0, h k = some b0 := fun k bk hk => by
      by_cases hid : k = id
      · subst hid; exact ⟨b, hb⟩
      · rw [Heap.upd_ne _ _ hid] at hk; exact ⟨bk, hk⟩
    obtain ⟨b1, q1⟩ := up i bi hi
    obtain ⟨b2, q2⟩ := up j bj hj
    exact hh.inj i j b1 b2 x y q1 q2 hx hy hxy
theorem turn_ok (hh : HR c h) (hf : ∀ id, n ≤ id → c.ι id = none) {id : Nat} {b : List AV} (hb : h id = some b) {bb base sz : Nat} {arr arr' : Array Value} {E : TypeId} (hB : BlkR c id b bb base sz arr E) {w' : World}
    (hw : w'.heap = c.w.heap.setIfInBounds bb (.cells arr' E (0, 0))) (h1 : w'.os = c.w.os) (h2 : w'.tape = c.w.tape) (h3 : w'.output = c.w.output) (hs : arr'.size = arr.size)
    (base' : Nat) (b' : List AV) (hsz : ∀ (i : Nat) (e : AV), b'[i]? = some e → e.cells.length = sz)
    (hone : ∀ (i : Nat) (e : AV) (j : Nat) (u : AV), b'[i]? = some e → e.cells[j]? = some u → u.one = true)
    (hc : ∀ (i : Nat) (e : AV) (j : Nat) (u : AV), b'[i]? = some e → e.cells[j]? = some u → ∃ v, arr'[base' + i * sz + j]? = some v ∧ VR c u v) :
    Ext c h (fun x => n ≤ x ∧ x < n + 1) (c.wr n (bb, base', sz) w') ((h.del id).upd n b') ∧ HR (c.wr n (bb, base', sz) w') ((h.del id).upd n b') := by
  have hbl := heap_lt hB.heap
  have hat : w'.heap[bb]? = some (.cells arr' E (0, 0)) := by rw [hw]; simp [hbl]
  have hne : ∀ k, k ≠ bb → w'.heap[k]? = c.w.heap[k]? := fun k hk => by rw [hw, Array.getElem?_setIfInBounds_ne (Ne.symm hk)]
  have hsize : w'.heap.size = c.w.heap.size := by rw [hw]; simp
  have hι : ∀ k, k ≠ n → (c.wr n (bb, base', sz) w').ι k = c.ι k := fun k hk => if_neg hk
  have hιn : (c.wr n (bb, base', sz) w').ι n = some (bb, base', sz) := if_pos rfl
  have hidn : id ≠ n := fun e => by have := hB.ι; rw [hf id (by omega)] at this; cases this
  have get : ∀ k bk, ((h.del id).upd n b') k = some bk → k ≠ n → k ≠ id ∧ h k = some bk := fun k bk hk hkn => by
    rw [Heap.upd_ne _ _ hkn] at hk
    unfold Heap.del at hk
    split at hk
    · cases hk
    · exact ⟨by assumption, hk⟩
  have hext : Ext c h (fun x => n ≤ x ∧ x < n + 1) (c.wr n (bb, base', sz) w') ((h.del id).upd n b') := by
    refine ⟨h1, h2, h3, by show _ ≤ w'.heap.size; omega, ?_, ?_, fun _ h => h, ?_, ?_, ?_, fun _ h => .inl h⟩
    · intro k x hx
      rw [hι k (fun e => by rw [e, hf n (Nat.le_refl _)] at hx; cases hx)]; exact hx
    · intro k x hx
      by_cases hk : k = n
      · exact .inr ⟨by omega, by omega⟩
      · rw [hι k hk] at hx; exact .inl hx
    · intro k a0 E0 f hk
      by_cases hkb : k = bb
      · subst hkb
        rw [hB.heap] at hk
        obtain ⟨rfl, rfl, rfl⟩ := Obj.cells.inj (Option.some.inj hk)
        exact ⟨arr', hat, hs⟩
      · exact ⟨a0, (hne k hkb).trans hk, rfl⟩
    · intro k hk hno
      exact hne k (fun hkb => hno id b _ hb hB.ι (hkb ▸ rfl))
    · intro k bk x hk hx
      by_cases hkn : k = n
      · subst hkn
        rw [hιn] at hx
        obtain rfl := Option.some.inj hx
        exact .inr ⟨id, b, _, hb, hB.ι, rfl⟩
      · rw [hι k hkn] at hx
        exact .inr ⟨k, bk, x, (get k bk hk hkn).2, hx, rfl⟩
  refine ⟨hext, fun i bi hi => ?_, fun i j bi bj x y hi hj hx hy hxy => ?_, fun k hk => by show k < w'.heap.size; rw [hsize]; exact hh.fzlt k hk, pin_over hh hext⟩
  · by_cases hin : i = n
    · subst hin
      rw [Heap.upd_same] at hi
      obtain rfl := Option.some.inj hi
      refine ⟨bb, base', sz, arr', E, hιn, hat, hB.nfz, hsz, hone, fun k e j u a1 a2 => ?_⟩
      obtain ⟨v, q1, q2⟩ := hc k e j u a1 a2
      exact ⟨v, q1, q2.mono hext hh⟩
    · obtain ⟨hid, hi'⟩ := get i bi hi hin
      obtain ⟨k, base0, sz0, arr0, E0, hB0⟩ := hh.blk i bi hi'
      refine ⟨k, base0, sz0, arr0, E0, (hι i hin).trans hB0.ι, ?_, hB0.nfz, hB0.size, hB0.one, fun k e j u a1 a2 => ?_⟩
      · show w'.heap[k]? = _
        rw [hne k (fun hk => hid (hh.inj i id bi b _ _ hi' hb hB0.ι hB.ι hk))]; exact hB0.heap
      · obtain ⟨v, q1, q2⟩ := hB0.cell k e j u a1 a2
        exact ⟨v, q1, q2.mono hext hh⟩
  · have nb : ∀ k bk z, ((h.del id).upd n b') k = some bk → k ≠ n → (c.wr n (bb, base', sz) w').ι k = some z → z.1 ≠ bb := fun k bk z hk hkn hz he => by
      obtain ⟨hid, hk'⟩ := get k bk hk hkn
      rw [hι k hkn] at hz
      exact hid (hh.inj k id bk b z _ hk' hb hz hB.ι he)
    by_cases hin : i = n <;> by_cases hjn : j = n
    · omega
    · subst hin
      rw [hιn] at hx
      obtain rfl := Option.some.inj hx
      exact absurd hxy.symm (nb j bj y hj hjn hy)
    · subst hjn
      rw [hιn] at hy
      obtain rfl := Option.some.inj hy
      exact absurd hxy (nb i bi x hi hin hx)
    · obtain ⟨_, hi'⟩ := get i bi hi hin
      obtain ⟨_, hj'⟩ := get j bj hj hjn
      rw [hι _ hin] at hx
      rw [hι _ hjn] at hy
      exact hh.inj i j bi bj x y hi' hj' hx hy hxy
theorem turn_fresh (hf : ∀ id, n ≤ id → c.ι id = none) {w' : World} {x : Nat × Nat × Nat} : ∀ id, n + 1 ≤ id → (c.wr n x w').ι id = none := fun id hid => by
  show (if id = n then _ else _) = _
  rw [if_neg (by omega)]; exact hf id (by omega)
end
end Go.Proofs.Ytcngfjmfgeckmaa
namespace Go.Proofs.Ytcngfjmfgeckmaa
open Go
section
variable {P : Program} {T : TE} {c : Cfg} {h : Heap} {n : Nat} {K : AV → Heap → Nat → Prop}
theorem isAgg_struct (hT : TEOk P T) {t : TypeId} {fs : List (Nat × TypeId)} (ht : (T t).ty = .struct fs) (w : World) : (isAgg t).run P w = .ok true w := by
  obtain ⟨F, hu, _⟩ := hT.tstruct t fs ht
  simp [isAgg, run_underlying hu]
theorem isAgg_plain (hT : TEOk P T) {t : TypeId} (h1 : ∀ fs, (T t).ty ≠ .struct fs) (h2 : (T t).ty ≠ .other) (w : World) : (isAgg t).run P w = .ok false w := by
  cases ht : (T t).ty with
  | bool => simp [isAgg, run_underlying (hT.tbool t ht)]
  | int k => simp [isAgg, run_underlying (hT.tint t k ht)]
  | str => simp [isAgg, run_underlying (hT.tstr t ht)]
  | slice e => simp [isAgg, run_underlying (hT.tslice t e ht)]
  | struct fs => exact absurd ht (h1 fs)
  | ptr => obtain ⟨e, he⟩ := hT.tptr t ht; simp [isAgg, run_underlying he]
  | func => obtain ⟨a, b, d, he⟩ := hT.tfunc t ht; simp [isAgg, run_underlying he]
  | other => exact absurd ht h2
theorem sizeOf_run (hT : TEOk P T) {t : TypeId} (ht : 0 < (T t).sz) (w : World) : (sizeOf t).run P w = .ok (T t).sz w := by
  obtain ⟨i, z, hi, hs, _⟩ := hT.info t ht
  simp [sizeOf, typeInfo, hi, hs]
theorem add_off (a : Addr) (n : Nat) (hs : a.spot = none) : a.add n = ⟨a.block, a.off + n, none⟩ := by
  unfold Addr.add; split
  · subst_vars; cases a; simp_all
  · rfl
theorem add_add (a : Addr) (i j : Nat) : (a.add i).add j = a.add (i + j) := by
  unfold Addr.add
  by_cases hi : i = 0 <;> by_cases hj : j = 0 <;> simp [hi, hj, Nat.add_assoc]
theorem cell_spot {w : World} {a : Addr} {v : Value} (h : w.cell? a = some v) : a.spot = none := by
  unfold World.cell? at h
  split at h
  · split at h
    · cases h
    · rename_i hs; simpa using hs
  · cases h
theorem rd_slice (hh : HR c h) {a : AV} {v : Value} (hv : VR c a v) {sz : Nat} {l : List AV} (hr : rdSl h sz a = some l) :
    (v = .slice none 0 0 ∧ l = []) ∨ ∃ ad cap, v = .slice (some ad) l.length cap ∧ l.length ≤ cap ∧ cap ≤ maxLen ∧
      (∀ (i : Nat) (e : AV), l[i]? = some e → e.cells.length = sz) ∧
      (∀ (i : Nat) (e : AV) (j : Nat) (u : AV), l[i]? = some e → e.cells[j]? = some u → u.one = true) ∧
      (∀ (i : Nat) (e : AV) (j : Nat) (u : AV), l[i]? = some e → e.cells[j]? = some u → ∃ x, c.w.cell? (ad.add (i * sz + j)) = some x ∧ VR c u x) ∧
      (∀ i off, i < l.length → VR c (.ep sz a i off) (.pointer (some (ad.add (i * sz + off))))) ∧ (l ≠ [] → 0 < sz → ad.spot = none) := by
  cases hv <;> simp only [rdSl] at hr
  case nils => exact .inl ⟨rfl, (Option.some.inj hr).symm⟩
  case ro s ex l0 ad cap f hcap hmax hex hfz hsz hone hc hv =>
    split at hr
    · subst_vars
      obtain rfl := Option.some.inj hr
      refine .inr ⟨ad, cap, rfl, hcap, hmax, hsz, hone, fun i e j u h1 h2 => ⟨_, hc i e j u h1 h2, hv i e j u h1 h2⟩, fun i off hi => ?_, fun hne hs => ?_⟩
      · exact .ep_ro s ex l0 i off ad cap (.ro s ex l0 ad cap f hcap hmax hex hfz hsz hone hc hv) hi
      · cases l0 with
        | nil => exact absurd rfl hne
        | cons e l0 =>
          have h1 := hsz 0 e rfl
          have h2 : e.cells[0]? = some (e.cells[0]'(by omega)) := List.getElem?_eq_getElem (by omega)
          have h3 := cell_spot (hc 0 e 0 _ rfl h2)
          simpa [Addr.add] using h3
    · cases hr
  case sl s id off len lo ex bb base cap hι hlen hlo hex hmax hroom ad had =>
    split at hr
    · subst_vars
      split at hr
      · rename_i b hb
        split at hr
        · rename_i hle
          obtain rfl := Option.some.inj hr
          have hll : ((b.drop off).take len).length = len := by simp; omega
          obtain ⟨bb', base', sz', arr, E, hB⟩ := hh.blk id b hb
          have he := hB.ι
          rw [hι] at he
          obtain ⟨rfl, rfl, rfl⟩ : bb = bb' ∧ base = base' ∧ s = sz' := by simpa using he
          have get : ∀ (i : Nat) (e : AV), ((b.drop off).take len)[i]? = some e → b[off + i]? = some e ∧ i < len := fun i e hi => by
            have hlt : i < len := by
              rcases Nat.lt_or_ge i len with h | h
              · exact h
              · rw [List.getElem?_take] at hi; split at hi
                · omega
                · cases hi
            rw [List.getElem?_take, if_pos hlt, List.getElem?_drop] at hi
            exact ⟨hi, hlt⟩
          rw [hll]
          refine .inr ⟨ad, cap, rfl, by omega, hmax, fun i e hi => hB.size _ _ (get i e hi).1, fun i e j u hi hj => hB.one _ _ _ _ (get i e hi).1 hj, fun i e j u hi hj => ?_, fun i o hi => ?_, fun hne _ => ?_⟩
          · obtain ⟨x, q1, q2⟩ := hB.cell _ _ _ _ (get i e hi).1 hj
            have hlt := (get i e hi).2
            refine ⟨x, ?_, q2⟩
            rw [had (by omega), add_off _ _ rfl]
            simp only [World.cell?, hB.heap]
            rw [← q1]
            simp only [Option.isSome_none, Bool.false_eq_true, if_false]
            congr 1
            rw [Nat.add_mul]; omega
          · have hp := VR.ep_sl (c := c) s id off len lo ex i o bb base hι
            rw [had (by omega), add_off _ _ rfl]
            have : base + (off + i) * s + o = base + off * s + (i * s + o) := by rw [Nat.add_mul]; omega
            rwa [this] at hp
          · rw [had (by
              intro h0
              have : len = 0 := by omega
              subst this
              simp at hne)]
        · cases hr
      · cases hr
    · cases hr
  all_goals cases hr
theorem rd_ep (hh : HR c h) {s : AV} {sz i off : Nat} {v : Value} (hv : VR c (.ep sz s i off) v) {l : List AV} {e : AV} (hr : rdSl h sz s = some l) (hi : l[i]? = some e) :
    ∃ ad, v = .pointer (some ad) ∧ e.cells.length = sz ∧ (∀ (j : Nat) (u : AV), e.cells[j]? = some u → u.one = true) ∧
      ∀ (j : Nat) (u : AV), e.cells[off + j]? = some u → ∃ x, c.w.cell? (ad.add j) = some x ∧ VR c u x := by
  have hlt : i < l.length := (List.getElem?_eq_some_iff.1 hi).1
  cases hv
  case ep_ro ex l0 ad cap ha hi0 =>
    rcases rd_slice hh ha hr with ⟨h1, _⟩ | ⟨ad', cap', h1, _, _, h4, h5, h6, _, _⟩
    · cases h1
    · obtain ⟨rfl, _⟩ : ad = ad' ∧ True := by simp at h1; exact ⟨h1.1, trivial⟩
      refine ⟨_, rfl, h4 i e hi, fun j u => h5 i e j u hi, fun j u hj => ?_⟩
      obtain ⟨x, q1, q2⟩ := h6 i e (off + j) u hi hj
      refine ⟨x, ?_, q2⟩
      rw [add_add]
      rw [← q1]; congr 2; omega
  case ep_sl id o len lo ex b base hι =>
    simp only [rdSl, if_true] at hr
    split at hr
    · rename_i blk hb
      split at hr
      · rename_i hle
        obtain rfl := Option.some.inj hr
        obtain ⟨bb', base', sz', arr, E, hB⟩ := hh.blk id blk hb
        have he := hB.ι
        rw [hι] at he
        obtain ⟨rfl, rfl, rfl⟩ : b = bb' ∧ base = base' ∧ sz = sz' := by simpa using he
        have hlen : i < len := by
          have : i < ((blk.drop o).take len).length := hlt
          simp at this; omega
        have hi' : blk[o + i]? = some e := by rw [List.getElem?_take, if_pos hlen, List.getElem?_drop] at hi; exact hi
        refine ⟨_, rfl, hB.size _ _ hi', fun j u => hB.one _ _ _ _ hi', fun j u hj => ?_⟩
        obtain ⟨x, q1, q2⟩ := hB.cell _ _ _ _ hi' hj
        refine ⟨x, ?_, q2⟩
        rw [add_off _ _ rfl]
        simp only [World.cell?, hB.heap]
        rw [← q1]
        simp only [Option.isSome_none, Bool.false_eq_true, if_false]
        congr 1
        omega
      · cases hr
    · cases hr
theorem vals_of {us : List AV} {q : Nat → Value → Prop} (h : ∀ (j : Nat) (u : AV), us[j]? = some u → ∃ x, q j x ∧ VR c u x) :
    ∃ vs : List Value, vs.length = us.length ∧ (∀ (j : Nat) (v : Value), vs[j]? = some v → q j v) ∧ ∀ (j : Nat) (u : AV) (v : Value), us[j]? = some u → vs[j]? = some v → VR c u v := by
  induction us generalizing q with
  | nil => exact ⟨[], rfl, by simp, by simp⟩
  | cons u us ih =>
    obtain ⟨x, hx, hvx⟩ := h 0 u rfl
    obtain ⟨vs, h1, h2, h3⟩ := ih (q := fun j v => q (j + 1) v) (fun j w hw => h (j + 1) w (by simpa using hw))
    refine ⟨x :: vs, by simp [h1], fun j v hj => ?_, fun j w v hj hv => ?_⟩
    · cases j with
      | zero => simp at hj; subst hj; exact hx
      | succ j => exact h2 j v (by simpa using hj)
    · cases j with
      | zero => simp at hj hv; subst hj; subst hv; exact hvx
      | succ j => exact h3 j w v (by simpa using hj) (by simpa using hv)
theorem load_run (hT : TEOk P T) {t : TypeId} {off : Nat} {e u : AV} {ad : Addr} (hp : part T t off e = some u) (hst : ∀ fs, (T t).ty = .struct fs → 0 < (T t).sz)
    (hone : ∀ (j : Nat) (u : AV), e.cells[j]? = some u → u.one = true)
    (hc : ∀ (j : Nat) (u : AV), e.cells[off + j]? = some u → ∃ x, c.w.cell? (ad.add j) = some x ∧ VR c u x) : ∃ v, (loadVar t ad).run P c.w = .ok v c.w ∧ VR c u v := by
  unfold part at hp
  split at hp
  · rename_i fs ht
    split at hp
    · rename_i hle
      obtain rfl := Option.some.inj hp
      obtain ⟨vs, h1, h2, h3⟩ := vals_of (c := c) (us := (e.cells.drop off).take (T t).sz) (q := fun j v => c.w.cell? (ad.add j) = some v) (fun j u hj => by
        rw [List.getElem?_take] at hj
        split at hj
        · rw [List.getElem?_drop] at hj; exact hc j u hj
        · cases hj)
      have hlen : vs.length = (T t).sz := by rw [h1]; simp; omega
      refine ⟨.agg vs.toArray, ?_, .agg _ _ (by simp [h1]) (fun u hu => ?_) fun i u v hi hv => h3 i u v hi (by simpa using hv)⟩
      · have := run_loadCells_list (P := P) c.w ad vs h2
        rw [hlen] at this
        simp [loadVar, isAgg_struct hT ht, sizeOf_run hT (hst fs ht), this]
      · obtain ⟨j, hj, rfl⟩ := List.mem_iff_getElem.1 hu
        refine hone (off + j) _ ?_
        simp at hj ⊢
    · cases hp
  · cases hp
  · rename_i h1 h2
    obtain ⟨x, q1, q2⟩ := hc 0 u (by simpa using hp)
    refine ⟨x, ?_, q2⟩
    rw [Addr.add_zero'] at q1
    simp [loadVar, isAgg_plain hT (fun fs => h1 fs) h2, q1]
theorem fieldPlace_run (hT : TEOk P T) (a : Addr) (f : Field) (hf : 0 < (T f.type).sz) (w : World) : (fieldPlace a f).run P w = .ok (a.add f.offset) w := by
  have h := sizeOf_run hT hf w
  have hne : ¬ (T f.type).sz = 0 := by omega
  simp [fieldPlace, h, hne]
theorem ep_add {sz i off o : Nat} {s : AV} {ad : Addr} (hv : VR c (.ep sz s i off) (.pointer (some ad))) : VR c (.ep sz s i (off + o)) (.pointer (some (ad.add o))) := by
  cases hv
  case ep_ro ex l a cap ha hi => rw [add_add, Nat.add_assoc]; exact .ep_ro sz ex l i (off + o) a cap ha hi
  case ep_sl id o' len lo ex b base hι =>
    rw [add_off _ _ rfl]
    have := VR.ep_sl (c := c) sz id o' len lo ex i (off + o) b base hι
    rwa [← Nat.add_assoc] at this
theorem ep_ptr {sz i off : Nat} {s : AV} {v : Value} (hv : VR c (.ep sz s i off) v) : ∃ ad, v = .pointer (some ad) := by
  cases hv <;> exact ⟨_, rfl⟩
theorem part_run (hT : TEOk P T) {t : TypeId} {off : Nat} {cs : List AV} {vs : Array Value} {u : AV} (hv : VR c (.agg cs) (.agg vs)) (hp : part T t off (.agg cs) = some u) (hst : ∀ fs, (T t).ty = .struct fs → 0 < (T t).sz) :
    ∃ v, (Go.part t vs off).run P c.w = .ok v c.w ∧ VR c u v := by
  cases hv with
  | agg _ _ hs hone hcv =>
    unfold part at hp
    split at hp
    · rename_i fs ht
      split at hp
      · rename_i hle
        obtain rfl := Option.some.inj hp
        have hsz := sizeOf_run hT (hst fs ht)
        refine ⟨.agg (vs.extract off (off + (T t).sz)), by simp [Go.part, isAgg_struct hT ht, hsz], .agg _ _ (by simp at hle ⊢; omega) (fun u hu => hone u (List.mem_of_mem_drop (List.mem_of_mem_take hu))) fun i u v hi hv => ?_⟩
        rw [List.getElem?_take] at hi
        split at hi
        · rename_i hlt
          rw [List.getElem?_drop] at hi
          refine hcv (off + i) u v hi ?_
          rw [Array.getElem?_extract] at hv
          split at hv
          · exact hv
          · cases hv
        · cases hi
      · cases hp
    · cases hp
    · rename_i h1 h2
      have hlt : off < cs.length := (List.getElem?_eq_some_iff.1 hp).1
      have hx : vs[off]? = some (vs[off]'(by omega)) := Array.getElem?_eq_getElem (by omega)
      refine ⟨vs[off]'(by omega), ?_, hcv off u _ hp hx⟩
      simp [Go.part, isAgg_plain hT (fun fs => h1 fs) h2, hx]
end
end Go.Proofs.Ytcngfjmfgeckmaa
namespace Go.Proofs.Ytcngfjmfgeckmaa
open Go
section
variable {P : Program} {T : TE} {c : Cfg} {h : Heap} {n : Nat} {K : AV → Heap → Nat → Prop}
theorem setRow_heap_eq {w : World} {g : Nat} {cur cs : Array Value} {E : TypeId} (hg : w.heap[g]? = some (.cells cur E (0, 0))) :
    (w.setRow g cs).heap = w.heap.setIfInBounds g (.cells cs E (0, 0)) := by
  have hlt := heap_lt hg
  have hv : w.heap[g] = .cells cur E (0, 0) := (Array.getElem?_eq_some_iff.1 hg).2
  unfold World.setRow
  apply Array.ext
  · simp
  · intro k h1 h2
    dsimp only at h1 ⊢
    rw [Array.getElem_modify, Array.getElem_setIfInBounds]
    split
    · rename_i hk; subst hk; simp [hv]
    · rfl
theorem good_one {u : AV} {v : Value} (hv : VR c u v) (hg : u.good = true) : ∀ x, x ∈ u.cells → x.one = true := by
  cases hv with
  | agg _ _ hs hone hcv => exact hone
  | tup => simp [AV.good, AV.one] at hg
  | undef => simp [AV.good, AV.one] at hg
  | _ => intro x hx; simp [AV.cells] at hx; subst hx; rfl
theorem new_ok (hh : HR c h) (hf : ∀ id, n ≤ id → c.ι id = none) {u : AV} {v : Value} (hv : VR c u v) (hg : u.good = true) {sz : Nat} (hs : u.cells.length = sz) (E : TypeId) :
    let w' := c.w.alloc (.cells v.cells E)
    Ext c h (fun id => n ≤ id ∧ id < n + 1) (c.new n sz w') (h.upd n [u]) ∧ HR (c.new n sz w') (h.upd n [u]) ∧
      VR (c.new n sz w') (.ep sz (.sl sz n 0 1 1 true) 0 0) (.pointer (some ⟨c.w.heap.size, 0, none⟩)) := by
  have hone := good_one hv hg
  obtain ⟨h1, h2⟩ := VR.cells hv hone
  refine ⟨alloc_ext hh hf _ rfl rfl rfl rfl, alloc_hr hh hf (arr := v.cells) (E := E) rfl rfl rfl rfl ?_ ?_ ?_, ?_⟩
  · intro i e hi
    cases i with
    | zero => simp at hi; subst hi; exact hs
    | succ i => simp at hi
  · intro i e j x hi hj
    cases i with
    | zero => simp at hi; subst hi; exact hone x (List.mem_of_getElem? hj)
    | succ i => simp at hi
  · intro i e j x hi hj
    cases i with
    | zero =>
      simp at hi; subst hi
      have hlt : j < u.cells.length := (List.getElem?_eq_some_iff.1 hj).1
      have hx : v.cells[j]? = some (v.cells[j]'(by omega)) := Array.getElem?_eq_getElem (by omega)
      exact ⟨_, by simp, h2 j x _ hj hx⟩
    | succ i => simp at hi
  · have := VR.ep_sl (c := c.new n sz (c.w.alloc (.cells v.cells E))) sz n 0 1 1 true 0 0 c.w.heap.size 0 (if_pos rfl)
    simp at this
    exact this
theorem box_ok (hh : HR c h) (hf : ∀ id, n ≤ id → c.ι id = none) {u : AV} {v : Value} (hv : VR c u v) (hg : u.good = true) {sz : Nat} (hs : u.cells.length = sz) (E : TypeId) {s : Sem Next}
    (hrun : s.run P c.w = .ok (.value (.pointer (some ⟨c.w.heap.size, 0, none⟩))) (c.w.alloc (.cells v.cells E)))
    (hK : K (.ep sz (.sl sz n 0 1 1 true) 0 0) (h.upd n [u]) (n + 1)) : OpOk P c h n s K := by
  obtain ⟨q1, q2, q3⟩ := new_ok hh hf hv hg hs E
  exact ⟨_, c.new n sz _, _, _, n + 1, _, hrun, .inl rfl, q1, q2, alloc_fresh hf, q3, by omega, hK⟩
theorem setPart_cells {e u : AV} {off : Nat} (hle : off + u.cells.length ≤ e.cells.length) (he : ∀ x, x ∈ e.cells → x.one = true) (hpos : 0 < u.cells.length) :
    (setPart e off u).cells = e.cells.take off ++ u.cells ++ e.cells.drop (off + u.cells.length) := by
  cases e with
  | agg cs => rfl
  | tup => simp [AV.cells, AV.one] at he
  | undef => simp [AV.cells, AV.one] at he
  | _ =>
    simp only [setPart, AV.cells_bool, AV.cells_int, AV.cells_str, AV.cells_nils, AV.cells_ro, AV.cells_sl, AV.cells_ep, AV.cells_nilp, AV.cells_nilf, AV.cells_fn, List.length_cons, List.length_nil] at hle ⊢
    have h1 : off = 0 := by omega
    have h2 : u.cells.length = 1 := by omega
    subst h1
    simp [h2]
theorem getElem?_splice {α : Type} (l m : List α) (off k : Nat) (hle : off + m.length ≤ l.length) :
    (l.take off ++ m ++ l.drop (off + m.length))[k]? = if off ≤ k ∧ k < off + m.length then m[k - off]? else l[k]? := by
  simp only [List.getElem?_append, List.length_append, List.length_take, List.getElem?_take, List.getElem?_drop]
  have h1 : min off l.length = off := by omega
  rw [h1]
  by_cases hk : k < off
  · rw [if_pos (by omega), if_pos hk, if_pos hk, if_neg (by omega)]
  · by_cases hk2 : k < off + m.length
    · rw [if_pos hk2, if_neg hk, if_pos (by omega)]
    · rw [if_neg hk2, if_neg (by omega)]
      congr 1
      omega
theorem store_ok (hT : TEOk P T) (hh : HR c h) (hf : ∀ id, n ≤ id → c.ι id = none) {t : TypeId} {sz id o len lo i off : Nat} {ex : Bool} {b : List AV} {e u : AV} {p v : Value}
    (hp : VR c (.ep sz (.sl sz id o len lo ex) i off) p) (hv : VR c u v) (hb : h id = some b) (he : b[o + i]? = some e) (hg : u.good = true) (hl : u.cells.length = (T t).sz) (hpos : 0 < (T t).sz)
    (hle : off + (T t).sz ≤ e.cells.length) (hK : K .undef (h.upd id (b.set (o + i) (setPart e off u))) n) {s : Sem Next}
    (hs : ∀ w' : World, (Instr.storeAt t p v).run P c.w = .ok () w' → s.run P c.w = .ok .skip w') : OpOk P c h n s K := by
  obtain ⟨bb, base, sz', arr, E, hB⟩ := hh.blk id b hb
  cases hp with
  | ep_sl _ _ _ _ _ _ _ _ bb' base' hι =>
    have hi := hB.ι
    rw [hι] at hi
    obtain ⟨rfl, rfl, rfl⟩ : bb' = bb ∧ base' = base ∧ sz = sz' := by simpa using hi
    have hone := good_one hv hg
    obtain ⟨c1, c2⟩ := VR.cells hv hone
    have hesz := hB.size _ _ he
    have heone : ∀ x, x ∈ e.cells → x.one = true := fun x hx => by
      obtain ⟨j, hj, rfl⟩ := List.mem_iff_getElem.1 hx
      exact hB.one _ _ j _ he (List.getElem?_eq_getElem hj)
    have hlast : base' + (o + i) * sz + sz ≤ arr.size := by
      have hl1 : e.cells[sz - 1]? = some (e.cells[sz - 1]'(by omega)) := List.getElem?_eq_getElem (by omega)
      obtain ⟨x, q1, _⟩ := hB.cell _ _ _ _ he hl1
      have := (Array.getElem?_eq_some_iff.1 q1).1
      omega
    have hvl : v.cells.toList.length = (T t).sz := by rw [Array.length_toList, c1, hl]
    have hv1 : ∀ x ∈ v.cells.toList, x.oneCell' = true := fun x hx => by
      obtain ⟨j, hj, rfl⟩ := List.mem_iff_getElem.1 hx
      have hj' : j < u.cells.length := by simp at hj; omega
      have a1 : u.cells[j]? = some (u.cells[j]'hj') := List.getElem?_eq_getElem hj'
      have a2 : v.cells[j]? = some (v.cells.toList[j]'hj) := by simp at hj ⊢
      exact VR.one (c2 j _ _ a1 a2) (hone _ (List.getElem_mem hj'))
    have hrun := run_storeCells_at P bb' (base' + (o + i) * sz + off) E v.cells.toList 0 arr c.w hB.heap (by rw [hvl]; omega) hv1
    rw [Nat.add_zero, hvl] at hrun
    obtain ⟨arr', harr⟩ : ∃ arr', arr' = (arr.toList.take (base' + (o + i) * sz + off) ++ v.cells.toList ++ arr.toList.drop (base' + (o + i) * sz + off + (T t).sz)).toArray := ⟨_, rfl⟩
    rw [← harr] at hrun
    obtain ⟨it, zt, i1, i2, i3, _⟩ := hT.info t hpos
    have hst : (Instr.storeAt t (.pointer (some ⟨bb', base' + (o + i) * sz + off, none⟩)) v).run P c.w = .ok () (c.w.setRow bb' arr') := by
      have hne : ¬ (v.cells.size ≠ (T t).sz) := by omega
      simp only [Instr.storeAt, Instr.sureAddr, storeVar, Sem.run_bind, Sem.run_pure, Result.andThen_ok, sizeOf_run hT hpos, Sem.run_ite, if_neg hne, hrun]
    have hset : (c.w.setRow bb' arr').heap = _ := setRow_heap_eq hB.heap
    have hspl : ∀ k, arr'[k]? =
        if base' + (o + i) * sz + off ≤ k ∧ k < base' + (o + i) * sz + off + (T t).sz then v.cells[k - (base' + (o + i) * sz + off)]? else arr[k]? := fun k => by
      have := getElem?_splice arr.toList v.cells.toList (base' + (o + i) * sz + off) k (by rw [hvl, Array.length_toList]; omega)
      rw [hvl] at this
      rw [harr, List.getElem?_toArray, this]
      simp
    have hcells := setPart_cells (e := e) (u := u) (off := off) (by omega) heone (by omega)
    have hoi : o + i < b.length := (List.getElem?_eq_some_iff.1 he).1
    obtain ⟨q1, q2⟩ := write_ok hh hb hB (w' := c.w.setRow bb' arr') (arr' := arr')
      hset rfl rfl rfl (by rw [harr]; simp [c1, hl]; omega) (b.set (o + i) (setPart e off u))
      (fun k x hk => by
        rw [List.getElem?_set] at hk
        split at hk
        · simp [] at hk; subst hk; rw [hcells]; simp; omega
        · exact hB.size _ _ hk)
      (fun k x j y hk hj => by
        rw [List.getElem?_set] at hk
        split at hk
        · simp [] at hk; subst hk; rw [hcells, getElem?_splice _ _ _ _ (by omega)] at hj
          split at hj
          · exact hone _ (List.mem_of_getElem? hj)
          · exact heone _ (List.mem_of_getElem? hj)
        · exact hB.one _ _ _ _ hk hj)
      (fun k x j y hk hj => by
        rw [hspl]
        rw [List.getElem?_set] at hk
        split at hk
        · rename_i hko
          subst hko
          simp [] at hk; subst hk; rw [hcells, getElem?_splice _ _ _ _ (by omega)] at hj
          split at hj
          · rename_i hin
            rw [if_pos (by omega)]
            have hlt : j - off < u.cells.length := (List.getElem?_eq_some_iff.1 hj).1
            have hx : v.cells[j - off]? = some (v.cells[j - off]'(by omega)) := Array.getElem?_eq_getElem (by omega)
            refine ⟨_, ?_, c2 _ _ _ hj hx⟩
            rw [← hx]; congr 1; omega
          · rename_i hout
            rw [if_neg (by omega)]
            exact hB.cell _ _ _ _ he hj
        · rename_i hko
          have hjl : j < sz := by
            have := (List.getElem?_eq_some_iff.1 hj).1
            have := hB.size _ _ hk
            omega
          rw [if_neg (by
            rintro ⟨g1, g2⟩
            rcases Nat.lt_or_gt_of_ne hko with hlt | hgt
            · have : (o + i + 1) * sz ≤ k * sz := Nat.mul_le_mul_right _ hlt
              rw [Nat.add_mul (o + i) 1 sz] at this
              omega
            · have : (k + 1) * sz ≤ (o + i) * sz := Nat.mul_le_mul_right _ hgt
              rw [Nat.add_mul k 1 sz] at this
              omega)]
          exact hB.cell _ _ _ _ hk hj)
    refine ⟨_, ⟨c.ι, c.Fz, _⟩, .undef, _, n, Go.undef, hs _ hst, .inr ⟨rfl, rfl⟩, ?_, q2, hf, .undef _, Nat.le_refl _, hK⟩
    exact ⟨q1.os, q1.tape, q1.output, q1.size, q1.ι, fun id x hx => .inl hx, q1.fz, q1.shape, q1.frame, q1.own, q1.fzb⟩
end
end Go.Proofs.Ytcngfjmfgeckmaa
namespace Go.Proofs.Ytcngfjmfgeckmaa
open Go
section
variable {P : Program} {T : TE} {c : Cfg} {h : Heap} {n : Nat} {K : AV → Heap → Nat → Prop}
theorem row_ok (hh : HR c h) (hf : ∀ id, n ≤ id → c.ι id = none) {w' : World} {arr : Array Value} {E : TypeId} {sz : Nat} {blk : List AV} (hw : w'.heap = c.w.heap.push (.cells arr E))
    (h1 : w'.os = c.w.os) (h2 : w'.tape = c.w.tape) (h3 : w'.output = c.w.output)
    (hsz : ∀ (i : Nat) (e : AV), blk[i]? = some e → e.cells.length = sz)
    (hone : ∀ (i : Nat) (e : AV) (j : Nat) (u : AV), blk[i]? = some e → e.cells[j]? = some u → u.one = true)
    (hc : ∀ (i : Nat) (e : AV) (j : Nat) (u : AV), blk[i]? = some e → e.cells[j]? = some u → ∃ v, arr[i * sz + j]? = some v ∧ VR c u v)
    {len lo cap : Nat} {ex : Bool} (hl : len ≤ lo) (hlo : lo ≤ cap) (hex : ex = true → cap = lo) (hmax : cap ≤ maxLen) (hroom : cap * sz ≤ arr.size) {s : Sem Next}
    (hrun : s.run P c.w = .ok (.value (.slice (some ⟨c.w.heap.size, 0, none⟩) len cap)) w')
    (hK : K (.sl sz n 0 len lo ex) (h.upd n blk) (n + 1)) : OpOk P c h n s K := by
  have q1 : Ext c h (fun id => n ≤ id ∧ id < n + 1) (c.new n sz w') (h.upd n blk) := alloc_ext hh hf blk hw h1 h2 h3
  have q2 := alloc_hr hh hf hw h1 h2 h3 hsz hone hc
  have q3 := VR.sl (c := c.new n sz w') sz n 0 len lo ex c.w.heap.size 0 cap (if_pos rfl) hl hlo hex hmax ⟨arr, E, (0, 0), by show w'.heap[c.w.heap.size]? = _; rw [hw]; simp, by simpa using hroom⟩ ⟨c.w.heap.size, 0, none⟩ (fun _ => by simp)
  exact ⟨_, c.new n sz w', _, _, n + 1, _, hrun, .inl rfl, q1, q2, alloc_fresh hf, q3, by omega, hK⟩
theorem flat_at {sz : Nat} (vs : List Value) (hs : ∀ v ∈ vs, v.cells.size = sz) (i j : Nat) (v : Value) (hi : vs[i]? = some v) (hj : j < sz) :
    (vs.flatMap fun v => v.cells.toList)[i * sz + j]? = v.cells[j]? := by
  induction vs generalizing i with
  | nil => simp at hi
  | cons x xs ih =>
    have hx : x.cells.toList.length = sz := by rw [Array.length_toList]; exact hs x (by simp)
    rw [List.flatMap_cons]
    cases i with
    | zero =>
      simp at hi; subst hi
      rw [List.getElem?_append_left (by omega)]
      simp
    | succ i =>
      rw [List.getElem?_append_right (by rw [hx, Nat.add_mul]; omega), hx]
      have : (i + 1) * sz + j - sz = i * sz + j := by rw [Nat.add_mul]; omega
      rw [this]
      exact ih (fun v hv => hs v (List.mem_cons_of_mem _ hv)) i (by simpa using hi)
theorem flat_length {sz : Nat} (vs : List Value) (hs : ∀ v ∈ vs, v.cells.size = sz) : (vs.flatMap fun v => v.cells.toList).length = vs.length * sz := by
  induction vs with
  | nil => simp
  | cons x xs ih =>
    rw [List.flatMap_cons, List.length_append, ih (fun v hv => hs v (List.mem_cons_of_mem _ hv)), Array.length_toList, hs x (by simp), List.length_cons, Nat.add_mul]
    omega
theorem flat_rel {us : List AV} {vs : List Value} {sz : Nat} (hl : vs.length = us.length) (hr : ∀ (i : Nat) (u : AV) (v : Value), us[i]? = some u → vs[i]? = some v → VR c u v)
    (hs : ∀ (i : Nat) (e : AV), us[i]? = some e → e.cells.length = sz) (ho : ∀ (i : Nat) (e : AV) (j : Nat) (u : AV), us[i]? = some e → e.cells[j]? = some u → u.one = true) :
    (∀ v ∈ vs, v.cells.size = sz) ∧ ∀ (i : Nat) (e : AV) (j : Nat) (u : AV), us[i]? = some e → e.cells[j]? = some u → ∃ v, (vs.flatMap fun v => v.cells.toList)[i * sz + j]? = some v ∧ VR c u v := by
  have hcs : ∀ (i : Nat) (u : AV) (v : Value), us[i]? = some u → vs[i]? = some v → v.cells.size = sz ∧ ∀ (j : Nat) (x : AV) (y : Value), u.cells[j]? = some x → v.cells[j]? = some y → VR c x y := fun i u v hu hv => by
    obtain ⟨q1, q2⟩ := VR.cells (hr i u v hu hv) (fun x hx => by
      obtain ⟨j, hj, rfl⟩ := List.mem_iff_getElem.1 hx
      exact ho i u j _ hu (List.getElem?_eq_getElem hj))
    exact ⟨q1.trans (hs i u hu), q2⟩
  have hall : ∀ v ∈ vs, v.cells.size = sz := fun v hv => by
    obtain ⟨i, hi, rfl⟩ := List.mem_iff_getElem.1 hv
    exact (hcs i _ _ (List.getElem?_eq_getElem (by omega : i < us.length)) (List.getElem?_eq_getElem hi)).1
  refine ⟨hall, fun i e j u hi hj => ?_⟩
  have hil : i < us.length := (List.getElem?_eq_some_iff.1 hi).1
  have hvi : vs[i]? = some (vs[i]'(by omega)) := List.getElem?_eq_getElem (by omega)
  obtain ⟨q1, q2⟩ := hcs i e _ hi hvi
  have hjl : j < sz := by have := (List.getElem?_eq_some_iff.1 hj).1; have := hs i e hi; omega
  have hx : (vs[i]'(by omega)).cells[j]? = some ((vs[i]'(by omega)).cells[j]'(by omega)) := Array.getElem?_eq_getElem (by omega)
  exact ⟨_, (flat_at vs hall i j _ hvi hjl).trans hx, q2 j u _ hj hx⟩
theorem zero_cells_rel {z : AV} {v : Value} (hv : VR c z v) (ho : ∀ u, u ∈ z.cells → u.one = true) {sz m : Nat} (hs : z.cells.length = sz) (_ : 0 < sz) :
    (∀ (i : Nat) (e : AV), (List.replicate m z)[i]? = some e → e.cells.length = sz) ∧
    (∀ (i : Nat) (e : AV) (j : Nat) (u : AV), (List.replicate m z)[i]? = some e → e.cells[j]? = some u → u.one = true) ∧
    (∀ (i : Nat) (e : AV) (j : Nat) (u : AV), (List.replicate m z)[i]? = some e → e.cells[j]? = some u → ∃ x, (madeCells v.cells (m * sz))[i * sz + j]? = some x ∧ VR c u x) := by
  obtain ⟨q1, q2⟩ := VR.cells hv ho
  have key : ∀ (i : Nat) (e : AV), (List.replicate m z)[i]? = some e → e = z ∧ i < m := fun i e hi => by
    rw [List.getElem?_replicate] at hi
    split at hi
    · exact ⟨(Option.some.inj hi).symm, by assumption⟩
    · cases hi
  refine ⟨fun i e hi => (key i e hi).1 ▸ hs, fun i e j u hi hj => ho u ((key i e hi).1 ▸ List.mem_of_getElem? hj), fun i e j u hi hj => ?_⟩
  obtain ⟨rfl, hlt⟩ := key i e hi
  have hjl : j < sz := by have := (List.getElem?_eq_some_iff.1 hj).1; omega
  have hx : v.cells[j]? = some (v.cells[j]'(by omega)) := Array.getElem?_eq_getElem (by omega)
  refine ⟨_, ?_, q2 j u _ hj hx⟩
  have hlt2 : i * sz + j < m * sz := by
    have : (i + 1) * sz ≤ m * sz := Nat.mul_le_mul_right _ hlt
    rw [Nat.add_mul] at this; omega
  have hmod : (i * sz + j) % sz = j := by rw [Nat.mul_comm, Nat.mul_add_mod, Nat.mod_eq_of_lt hjl]
  have hsv : v.cells.size = sz := by omega
  have hjv : j < v.cells.size := by omega
  simp [madeCells, hsv, hmod, hlt2, hjl]
theorem makeSlice_ok (hT : TEOk P T) (hh : HR c h) (hf : ∀ id, n ≤ id → c.ι id = none) {t e : TypeId} {k1 k2 : IntKind} {a b : Int} (ht : (T t).ty = .slice e) (hpos : 0 < (T e).sz) (ha : 0 ≤ a) (hab : a ≤ b)
    (hby : ((T e).bytes : Int) * b ≤ 140737488355328) (hb : b ≤ 140737488355328) (hK : K (.sl (T e).sz n 0 a.toNat b.toNat true) (h.upd n (List.replicate b.toNat (T e).zero)) (n + 1)) {s : Sem Next}
    (hs : ∀ v w', (Instr.makeSlice t (.int k1 a) (.int k2 b)).run P c.w = .ok v w' → s.run P c.w = .ok (.value v) w') : OpOk P c h n s K := by
  obtain ⟨i, z, hi, i1, i2, i3, i4, i5, i6⟩ := hT.info e hpos
  have hr := run_make (P := P) c.w t e i z (hT.tslice t e ht) hi i3 k1 k2 a b ha hab (by rw [i2]; omega) (by omega)
  rw [i1] at hr
  obtain ⟨r1, r2, r3⟩ := zero_cells_rel (m := b.toNat) (i4 c) i6 i5 hpos
  exact row_ok hh hf (w' := c.w.alloc (.cells (madeCells z.cells (b.toNat * (T e).sz)) e)) rfl rfl rfl rfl r1 r2 r3 (len := a.toNat) (lo := b.toNat) (cap := b.toNat) (ex := true) (by omega) (Nat.le_refl _) (fun _ => rfl)
    (by unfold maxLen; omega) (by simp [size_madeCells]) (hs _ _ hr) hK
theorem parts_zip {us : List (Nat × Operand)} {ρ : Operand → Value} : ∀ (s : Nat), us.map (·.1) = List.range' s us.length → us.map (fun p => (p.1, ρ p.2)) = ((us.map fun p => ρ p.2).zipIdx s).map fun x => (x.2, x.1) := by
  induction us with
  | nil => intro s _; rfl
  | cons p us ih =>
    intro s hs
    simp only [List.map_cons, List.length_cons, List.range'_succ, List.cons.injEq] at hs
    simp only [List.map_cons, List.zipIdx_cons, hs.1, List.cons.injEq, true_and]
    exact ih (s + 1) hs.2
theorem buildSlice_ok (hT : TEOk P T) (hh : HR c h) (hf : ∀ id, n ≤ id → c.ι id = none) {t e : TypeId} {len : Nat} {parts : Array (Nat × Operand)} {ev : Operand → AV} {ρ : Operand → Value} (hρ : ∀ x, VR c (ev x) (ρ x))
    (ht : (T t).ty = .slice e) (hpos : 0 < (T e).sz) (hlen : len * (T e).sz ≤ 16777216) (hp : parts.toList.map (·.1) = List.range len)
    (hg : ∀ p, p ∈ parts.toList → (ev p.2).cells.length = (T e).sz ∧ (ev p.2).good = true) (hK : K (.sl (T e).sz n 0 len len true) (h.upd n (parts.toList.map fun p => ev p.2)) (n + 1)) {s : Sem Next}
    (hs : ∀ v w', (Instr.buildSlice t len (parts.map fun p => (p.1, ρ p.2))).run P c.w = .ok v w' → s.run P c.w = .ok (.value v) w') : OpOk P c h n s K := by
  obtain ⟨i, z, hi, i1, i2, i3, i4, i5, i6⟩ := hT.info e hpos
  have hpl : parts.toList.length = len := by have := congrArg List.length hp; simpa using this
  have hzs : z.cells.size = (T e).sz := by rw [(VR.cells (i4 c) i6).1, i5]
  have h1 : ∀ (i : Nat) (x : AV), (parts.toList.map fun p => ev p.2)[i]? = some x → x.cells.length = (T e).sz := fun i x hx => by
    obtain ⟨p, hp, rfl⟩ := List.mem_map.1 (List.mem_of_getElem? hx)
    exact (hg p hp).1
  have h2 : ∀ (i : Nat) (x : AV) (j : Nat) (u : AV), (parts.toList.map fun p => ev p.2)[i]? = some x → x.cells[j]? = some u → u.one = true := fun i x j u hx hj => by
    obtain ⟨p, hp, rfl⟩ := List.mem_map.1 (List.mem_of_getElem? hx)
    exact good_one (hρ p.2) (hg p hp).2 u (List.mem_of_getElem? hj)
  have h3 : ∀ (i : Nat) (u : AV) (v : Value), (parts.toList.map fun p => ev p.2)[i]? = some u → (parts.toList.map fun p => ρ p.2)[i]? = some v → VR c u v := fun i u v hu hv => by
    simp only [List.getElem?_map, Option.map_eq_some_iff] at hu hv
    obtain ⟨p, q1, rfl⟩ := hu
    obtain ⟨p', q2, rfl⟩ := hv
    rw [q1] at q2
    obtain rfl := Option.some.inj q2
    exact hρ p.2
  obtain ⟨r1, r2⟩ := flat_rel (c := c) (us := parts.toList.map fun p => ev p.2) (vs := parts.toList.map fun p => ρ p.2) (by simp) h3 h1 h2
  have hfl := flat_length _ r1
  have hz := parts_zip (us := parts.toList) (ρ := ρ) 0 (by rw [hp, hpl, List.range_eq_range'])
  have hpm : (parts.map fun p => (p.1, ρ p.2)).toList = ((parts.toList.map fun p => ρ p.2).zipIdx 0).map fun x => (x.2, x.1) := by rw [Array.toList_map, hz]
  have hfill : ∀ cells : Array Value, cells.size = len * (T e).sz → Instr.fill (fun i => some (i * (T e).sz, (T e).sz)) cells (parts.map fun p => (p.1, ρ p.2)).toList = some ((parts.toList.map fun p => ρ p.2).flatMap fun v => v.cells.toList).toArray := fun cells hc => by
    rw [hpm]
    exact Great.fill_whole hpos _ _ r1 (by rw [hc]; simp [hpl])
  have hrun : (Instr.buildSlice t len (parts.map fun p => (p.1, ρ p.2))).run P c.w = .ok (.slice (some ⟨c.w.heap.size, 0, none⟩) len len) (c.w.alloc (.cells ((parts.toList.map fun p => ρ p.2).flatMap fun v => v.cells.toList).toArray e)) := by
    have hsz : (sizeOf e).run P c.w = .ok (T e).sz c.w := sizeOf_run hT hpos _
    have hn : ¬ (16777216 < len * (T e).sz) := by omega
    clear hpm hs
    generalize (parts.map fun p => (p.1, ρ p.2)) = ps at hfill ⊢
    by_cases h0 : len * (T e).sz = 0
    · have := hfill #[] (by simp [h0])
      simp [Instr.buildSlice, run_underlying (hT.tslice t e ht), hsz, h0, this, newRow, Array.range_zero']
    · have := hfill ((Array.range (len * (T e).sz)).map (z.cells[· % z.cells.size]!)) (by simp)
      simp [Instr.buildSlice, run_underlying (hT.tslice t e ht), hsz, hn, h0, zeroValue, typeInfo, hi, i3, this, newRow]
  have hlm : len ≤ 16777216 := by
    have : len * 1 ≤ len * (T e).sz := Nat.mul_le_mul_left _ hpos
    omega
  exact row_ok hh hf (w' := c.w.alloc (.cells _ e)) rfl rfl rfl rfl h1 h2 (by simpa using r2) (Nat.le_refl _) (Nat.le_refl _) (fun _ => rfl) (by unfold maxLen; omega) (by
    rw [List.size_toArray, hfl]; simp [hpl]) (hs _ _ hrun) hK
end
end Go.Proofs.Ytcngfjmfgeckmaa
namespace Go.Proofs.Ytcngfjmfgeckmaa
open Go
section
variable {P : Program} {T : TE} {c : Cfg} {h : Heap} {n : Nat} {K : AV → Heap → Nat → Prop}
theorem fill_ok {fs : List (Nat × TypeId)} {place : Nat → Option (Nat × Nat)} (hpl : ∀ (i : Nat) (p : Nat × TypeId), fs[i]? = some p → 0 < (T p.2).sz → place i = some (p.1, (T p.2).sz)) {ev : Operand → AV} {ρ : Operand → Value} (hρ : ∀ x, VR c (ev x) (ρ x))
    {R : List AV → Prop} : ∀ (parts : List (Nat × Operand)) (cs : List AV) (vs : Array Value), VR c (.agg cs) (.agg vs) → buildP T fs cs ev parts R →
      ∃ cs' vs', Instr.fill place vs (parts.map fun p => (p.1, ρ p.2)) = some vs' ∧ VR c (.agg cs') (.agg vs') ∧ R cs'
  | [], cs, vs, hv, hb => ⟨cs, vs, rfl, hv, hb⟩
  | (i, x) :: rest, cs, vs, hv, hb => by
    obtain ⟨p, hp, hl, hpos, hle, hg, hb'⟩ := hb
    have hone := good_one (hρ x) hg
    obtain ⟨q1, q2⟩ := VR.cells (hρ x) hone
    cases hv with
    | agg _ _ hs ho hcv =>
      obtain ⟨g1, g2⟩ := Great.foldl_set p.1 (ρ x).cells.toList 0 vs
      have hvs : VR c (.agg (cs.take p.1 ++ (ev x).cells ++ cs.drop (p.1 + (T p.2).sz))) (.agg (((ρ x).cells.toList.zipIdx 0).foldl (fun cs (y : Value × Nat) => cs.setIfInBounds (p.1 + y.2) y.1) vs)) := by
        refine .agg _ _ (by rw [g1, hs]; simp; omega) (fun u hu => ?_) fun k u v hk hkv => ?_
        · rcases List.mem_append.1 hu with hu | hu
          · rcases List.mem_append.1 hu with hu | hu
            · exact ho u (List.mem_of_mem_take hu)
            · exact hone u hu
          · exact ho u (List.mem_of_mem_drop hu)
        · rw [g2 k] at hkv
          rw [← hl, getElem?_splice _ _ _ _ (by omega)] at hk
          simp only [Array.length_toList, Nat.add_zero] at hkv
          split at hk
          · rename_i hin
            rw [if_pos (by rw [q1]; exact ⟨hin.1, hin.2, by omega⟩)] at hkv
            exact q2 _ u v hk (by simpa using hkv)
          · rename_i hout
            rw [if_neg (by rw [q1]; exact fun hq => hout ⟨hq.1, hq.2.1⟩)] at hkv
            exact hcv k u v hk hkv
      obtain ⟨cs', vs', r1, r2, r3⟩ := fill_ok hpl hρ rest _ _ hvs hb'
      refine ⟨cs', vs', ?_, r2, r3⟩
      rw [List.map_cons]
      unfold Instr.fill
      simp only [hpl i p hp hpos]
      rw [if_neg (by rw [q1, hs]; simp; omega)]
      rw [← Array.foldl_toList, Array.toList_zipIdx]
      exact r1
theorem places_run (hT : TEOk P T) (w : World) : ∀ (F : List Field), (∀ f, f ∈ F → 0 < (T f.type).sz) → (F.mapM fun f => Prod.mk f.offset <$> sizeOf f.type).run P w = .ok (F.map fun f => (f.offset, (T f.type).sz)) w
  | [], _ => by simp
  | f :: F, hF => by
    have h1 := sizeOf_run hT (hF f (by simp)) w
    have h2 := places_run hT w F (fun f hf => hF f (List.mem_cons_of_mem _ hf))
    simp [List.mapM_cons, h1, h2]
theorem build_ok (hT : TEOk P T) (hh : HR c h) (hf : ∀ id, n ≤ id → c.ι id = none) {t : TypeId} {fs : List (Nat × TypeId)} {parts : Array (Nat × Operand)} {ev : Operand → AV} {ρ : Operand → Value} (hρ : ∀ x, VR c (ev x) (ρ x))
    (ht : (T t).ty = .struct fs) (hpos : 0 < (T t).sz) (hfs : fs.all (fun p => decide (0 < (T p.2).sz)) = true) (hb : buildP T fs (T t).zero.cells ev parts.toList (fun cs => K (.agg cs) h n)) {s : Sem Next}
    (hs : ∀ v, (Instr.build t (parts.map fun p => (p.1, ρ p.2))).run P c.w = .ok v c.w → s.run P c.w = .ok (.value v) c.w) : OpOk P c h n s K := by
  obtain ⟨i, z, hi, i1, i2, i3, i4, i5, i6⟩ := hT.info t hpos
  obtain ⟨F, hu, hF⟩ := hT.tstruct t fs ht
  have hFpos : ∀ f, f ∈ F.toList → 0 < (T f.type).sz := fun f hf => by
    have : (f.offset, f.type) ∈ fs := by rw [← hF]; exact List.mem_map.2 ⟨f, hf, rfl⟩
    simpa using List.all_eq_true.1 hfs _ this
  have hz : VR c (.agg (T t).zero.cells) (.agg z.cells) := by
    obtain ⟨q1, q2⟩ := VR.cells (i4 c) i6
    exact .agg _ _ q1 i6 q2
  have hpl : ∀ (i : Nat) (p : Nat × TypeId), fs[i]? = some p → 0 < (T p.2).sz → (F.toList.map fun f => (f.offset, (T f.type).sz)).toArray[i]? = some (p.1, (T p.2).sz) := fun i p hp _ => by
    rw [← hF] at hp
    simp only [List.getElem?_map, Option.map_eq_some_iff] at hp
    obtain ⟨f, h1, rfl⟩ := hp
    simp at h1 ⊢
    exact ⟨f, h1, rfl, rfl⟩
  obtain ⟨cs', vs', r1, r2, r3⟩ := fill_ok (R := fun cs => K (.agg cs) h n) hpl hρ parts.toList _ _ hz hb
  have hpm : (parts.map fun p => (p.1, ρ p.2)).toList = parts.toList.map fun p => (p.1, ρ p.2) := by simp
  have hrun : (Instr.build t (parts.map fun p => (p.1, ρ p.2))).run P c.w = .ok (.agg vs') c.w := by
    have h1 := places_run hT c.w F.toList hFpos
    rw [← hpm] at r1
    clear hpm hs
    generalize (parts.map fun p => (p.1, ρ p.2)) = ps at r1 ⊢
    have r1' : Instr.fill (fun x => (F.toList.map fun f => (f.offset, (T f.type).sz)).toArray[x]?) z.cells ps.toList = some vs' := r1
    simp [Instr.build, run_underlying hu, zeroValue, typeInfo, hi, i3, Array.mapM_eq_mapM_toList, h1]
    simp at r1'
    simp [r1']
  exact OpOk.pure hh hf (hs _ hrun) r2 r3
end
end Go.Proofs.Ytcngfjmfgeckmaa
namespace Go.Proofs.Ytcngfjmfgeckmaa
open Go
section
variable {P : Program} {T : TE} {c : Cfg} {h : Heap} {n : Nat} {K : AV → Heap → Nat → Prop}
theorem toList_beq (a b : ByteArray) : (a.toList == b.toList) = decide (a = b) := by
  rw [Bool.eq_iff_iff, decide_eq_true_iff, beq_iff_eq]
  refine ⟨fun h => ?_, fun h => by rw [h]⟩
  rw [ByteArray.toList_eq, ByteArray.toList_eq] at h
  obtain ⟨⟨x⟩⟩ := a
  obtain ⟨⟨y⟩⟩ := b
  simp at h
  rw [h]
theorem beq_dec (a b : Int) : (a == b) = decide (a = b) := by by_cases h : a = b <;> simp [h]
theorem bne_dec (a b : Int) : (a != b) = decide (a ≠ b) := by by_cases h : a = b <;> simp [h]
theorem not_gt {a b : Nat} (h : a + b ≤ maxLen) : ¬ (((a + b : Nat) : Int) > IntKind.i64.max) := by rw [IntKind.max_i64]; unfold maxLen at h; omega
theorem eqC_ok {x y : AV} {vx vy : Value} (hx : VR c x vx) (hy : VR c y vy) {r : Bool} (he : eqC x y = some r) (hT : TEOk P T) {t : TypeId} (ht : scalarFits T t x) (d : Nat) :
    (Op.equalIn (d + 1) t vx vy).run P c.w = .ok r c.w := by
  unfold eqC at he
  split at he
  · cases hx; cases hy
    split at he
    · subst_vars
      obtain rfl := Option.some.inj he
      unfold scalarFits at ht
      split at ht <;> try exact ht.elim
      · rename_i hk _; exact run_equalIn_int c.w d t _ _ _ _ (hT.tint t _ hk)
      · simp_all
      · simp_all
    · cases he
  · cases hx; cases hy
    obtain rfl := Option.some.inj he
    unfold scalarFits at ht
    split at ht <;> try exact ht.elim
    · simp_all
    · rename_i hk _; exact run_equalIn_bool' c.w d t _ _ (hT.tbool t hk)
    · simp_all
  · cases hx; cases hy
    obtain rfl := Option.some.inj he
    unfold scalarFits at ht
    split at ht <;> try exact ht.elim
    · simp_all
    · simp_all
    · rename_i hk _; exact run_equalIn_string c.w d t _ _ (hT.tstr t hk)
  · cases he
theorem eqCells_ok (hT : TEOk P T) (d : Nat) {xs ys : Array Value} : ∀ (F : List Field) (a b : List AV) (k : Nat),
    (∀ (i : Nat) (u : AV) (v : Value), a[i]? = some u → xs[k + i]? = some v → VR c u v) → (∀ (i : Nat) (u : AV) (v : Value), b[i]? = some u → ys[k + i]? = some v → VR c u v) →
    k + a.length = xs.size → k + b.length = ys.size → (∀ f, f ∈ F → f.name ≠ "_") → (∀ (i : Nat) (f : Field), F[i]? = some f → f.offset = k + i) → fitsP T (F.map fun f => (f.offset, f.type)) a →
    ∀ r, eqCells a b = some r → (Op.eqFields (d + 1) xs ys F).run P c.w = .ok r c.w
  | [], a, b, k, _, _, _, _, _, _, hf, r, hr => by
    cases a with
    | nil =>
      cases b with
      | nil => obtain rfl := Option.some.inj hr; simp [Op.eqFields]
      | cons y b => simp [eqCells] at hr
    | cons x a => exact hf.elim
  | f :: F, a, b, k, ha, hb, la, lb, hn, ho, hf, r, hr => by
    cases a with
    | nil => exact hf.elim
    | cons x a =>
      cases b with
      | nil => simp [eqCells] at hr
      | cons y b =>
        simp only [List.length_cons] at la lb
        have hx : xs[k]? = some (xs[k]'(by omega)) := Array.getElem?_eq_getElem (by omega)
        have hy : ys[k]? = some (ys[k]'(by omega)) := Array.getElem?_eq_getElem (by omega)
        have hvx := ha 0 x (xs[k]'(by omega)) rfl hx
        have hvy := hb 0 y (ys[k]'(by omega)) rfl hy
        obtain ⟨hf1, hf2⟩ := hf
        have hoff : f.offset = k := by simpa using ho 0 f rfl
        simp only [eqCells, Option.bind_eq_some_iff] at hr
        obtain ⟨r1, e1, r2, e2, e3⟩ := hr
        obtain rfl := Option.some.inj e3
        have h1 := eqC_ok hvx hvy e1 hT hf1 d
        have h2 := eqCells_ok hT d F a b (k + 1) (fun i u v hi hv => ha (i + 1) u v (by simpa using hi) (by rw [← hv]; congr 1; omega)) (fun i u v hi hv => hb (i + 1) u v (by simpa using hi) (by rw [← hv]; congr 1; omega)) (by omega) (by omega)
          (fun f hf => hn f (List.mem_cons_of_mem _ hf)) (fun i f hi => by have := ho (i + 1) f (by simpa using hi); omega) hf2 r2 e2
        have hagg : (isAgg f.type).run P c.w = .ok false c.w := isAgg_plain hT (fun fs hs => by simp [scalarFits, hs] at hf1) (fun hs => by simp [scalarFits, hs] at hf1) _
        have p1 : (Go.part f.type xs f.offset).run P c.w = .ok (xs[k]'(by omega)) c.w := by rw [hoff]; simp [Go.part, hagg, hx]
        have p2 : (Go.part f.type ys f.offset).run P c.w = .ok (ys[k]'(by omega)) c.w := by rw [hoff]; simp [Go.part, hagg, hy]
        have hname := hn f (by simp)
        simp only [Op.eqFields, if_pos hname, Sem.run_bind, p1, p2, Result.andThen_ok, h1, Sem.run_ite]
        cases r1 <;> simp [h2]
theorem bin_ok (hT : TEOk P T) {op : BinOp} {t : TypeId} {x y : AV} {vx vy : Value} (hx : VR c x vx) (hy : VR c y vy) {R : AV → Prop} (hb : binP T op t x y R) (ox oy : Operand) :
    ∃ r v, (do eqGuard op t ox oy vx vy; binOp op t vx vy : Sem Value).run P c.w = .ok v c.w ∧ VR c r v ∧ R r := by
  unfold binP at hb
  split at hb
  all_goals first | exact hb.elim | skip
  · cases hx; cases hy
    obtain ⟨h0, hR⟩ := hb
    have hn : ¬ _ < (0 : Int) := Int.not_lt.2 h0
    exact ⟨_, _, by simp [eqGuard_shl, binOp_shl, Op.shift, hn] <;> rfl, .int _ _, hR⟩
  · cases hx; cases hy
    obtain ⟨h0, hR⟩ := hb
    have hn : ¬ _ < (0 : Int) := Int.not_lt.2 h0
    exact ⟨_, _, by simp [eqGuard_shr, binOp_shr, Op.shift, hn] <;> rfl, .int _ _, hR⟩
  · cases hx; cases hy
    obtain ⟨rfl, hR⟩ := hb
    exact ⟨_, _, by simp [eqGuard_add, binOp_add, Op.intArith] <;> rfl, .int _ _, hR⟩
  · cases hx; cases hy
    obtain ⟨rfl, hR⟩ := hb
    exact ⟨_, _, by simp [eqGuard_sub, binOp_sub, Op.intArith] <;> rfl, .int _ _, hR⟩
  · cases hx; cases hy
    obtain ⟨rfl, hR⟩ := hb
    exact ⟨_, _, by simp [eqGuard_mul, binOp_mul, Op.intArith] <;> rfl, .int _ _, hR⟩
  · cases hx; cases hy
    obtain ⟨rfl, h0, hR⟩ := hb
    exact ⟨_, _, by simp [eqGuard_quo, binOp_quo, Op.intDiv, h0] <;> rfl, .int _ _, hR⟩
  · cases hx; cases hy
    obtain ⟨rfl, h0, hR⟩ := hb
    exact ⟨_, _, by simp [eqGuard_rem, binOp_rem, Op.intDiv, h0] <;> rfl, .int _ _, hR⟩
  · cases hx; cases hy
    obtain ⟨rfl, hR⟩ := hb
    exact ⟨_, _, by simp only [eqGuard_and, binOp_and, Op.intBits, Sem.run_bind, Sem.run_pure, Result.andThen_ok] <;> rfl, .int _ _, hR⟩
  · cases hx; cases hy
    obtain ⟨rfl, hR⟩ := hb
    exact ⟨_, _, by simp only [eqGuard_or, binOp_or, Op.intBits, Sem.run_bind, Sem.run_pure, Result.andThen_ok] <;> rfl, .int _ _, hR⟩
  · cases hx; cases hy
    obtain ⟨rfl, hR⟩ := hb
    refine ⟨_, .bool _, ?_, .bool _, hR⟩
    simp [eqGuard_at_int, binOp_eql, beq_dec]
  · cases hx; cases hy
    obtain ⟨rfl, hR⟩ := hb
    refine ⟨_, .bool _, ?_, .bool _, hR⟩
    simp [eqGuard_at_int, binOp_neq, bne_dec]
  · cases hx; cases hy
    obtain ⟨rfl, hR⟩ := hb
    exact ⟨_, _, by simp [eqGuard_at_int, binOp_lss] <;> rfl, .bool _, hR⟩
  · cases hx; cases hy
    obtain ⟨rfl, hR⟩ := hb
    exact ⟨_, _, by simp [eqGuard_at_int, binOp_leq] <;> rfl, .bool _, hR⟩
  · cases hx; cases hy
    obtain ⟨rfl, hR⟩ := hb
    exact ⟨_, _, by simp [eqGuard_at_int, binOp_gtr] <;> rfl, .bool _, hR⟩
  · cases hx; cases hy
    obtain ⟨rfl, hR⟩ := hb
    exact ⟨_, _, by simp [eqGuard_at_int, binOp_geq] <;> rfl, .bool _, hR⟩
  · cases hx; cases hy
    obtain ⟨hle, hR⟩ := hb
    have hn := not_gt hle
    exact ⟨_, _, by simp only [eqGuard_at_string, binOp, Op.stringOp, Sem.run_bind, Sem.run_pure, Result.andThen_ok, if_neg hn] <;> rfl, .str _, hR⟩
  · cases hx; cases hy
    refine ⟨_, .bool _, ?_, .bool _, hb⟩
    simp [eqGuard_at_string, binOp, Op.stringOp, toList_beq]
  · cases hx; cases hy
    refine ⟨_, .bool _, ?_, .bool _, hb⟩
    simp [eqGuard_at_string, binOp, Op.stringOp, toList_beq]
  · cases hx; cases hy
    obtain ⟨ht, hR⟩ := hb
    exact ⟨_, _, by simp [eqGuard_at_bool, binOp, Op.equal, Op.maxDepth, run_equalIn_bool' c.w 9999 t _ _ (hT.tbool t ht)] <;> rfl, .bool _, hR⟩
  · cases hx; cases hy
    obtain ⟨ht, hR⟩ := hb
    exact ⟨_, _, by simp [eqGuard_at_bool, binOp, Op.equal, Op.maxDepth, run_equalIn_bool' c.w 9999 t _ _ (hT.tbool t ht)] <;> rfl, .bool _, hR⟩
  · cases hx with
    | agg _ xs hsx hox hvx =>
      cases hy with
      | agg _ ys hsy hoy hvy =>
        obtain ⟨fs, ht, hc, hfit, r, hr, hR⟩ := hb
        obtain ⟨g1, g2, F, hu, hF, hn, ho⟩ := hT.cmp t fs ht hc
        have hPF : P.fieldsOf t = F := by simp [Program.fieldsOf, hu]
        have h1 := run_equalIn_agg c.w 9999 t xs ys (by rw [hPF]; exact hu) g1
        rw [hPF] at h1
        have h2 := eqCells_ok (c := c) hT 9998 F.toList _ _ 0 (fun i u v hi hv => hvx i u v hi (by simpa using hv)) (fun i u v hi hv => hvy i u v hi (by simpa using hv)) (by omega) (by omega) hn
          (fun i f hi => by have := ho i (f.offset, f.type) (by rw [← hF]; simp at hi ⊢; exact ⟨f, hi, rfl, rfl⟩); simpa using this) (by rw [hF]; exact hfit) r hr
        refine ⟨.bool r, .bool r, ?_, .bool _, hR⟩
        have h3 := run_eql_struct (P := P) c.w t xs ys
        rw [h1, h2] at h3
        simp only [Result.andThen_ok] at h3
        simp only [Sem.run_bind, run_eqGuard_agg c.w .eql t ox oy xs ys g2, Result.andThen_ok, h3]
  · cases hx with
    | agg _ xs hsx hox hvx =>
      cases hy with
      | agg _ ys hsy hoy hvy =>
        obtain ⟨fs, ht, hc, hfit, r, hr, hR⟩ := hb
        obtain ⟨g1, g2, F, hu, hF, hn, ho⟩ := hT.cmp t fs ht hc
        have hPF : P.fieldsOf t = F := by simp [Program.fieldsOf, hu]
        have h1 := run_equalIn_agg c.w 9999 t xs ys (by rw [hPF]; exact hu) g1
        rw [hPF] at h1
        have h2 := eqCells_ok (c := c) hT 9998 F.toList _ _ 0 (fun i u v hi hv => hvx i u v hi (by simpa using hv)) (fun i u v hi hv => hvy i u v hi (by simpa using hv)) (by omega) (by omega) hn
          (fun i f hi => by have := ho i (f.offset, f.type) (by rw [← hF]; simp at hi ⊢; exact ⟨f, hi, rfl, rfl⟩); simpa using this) (by rw [hF]; exact hfit) r hr
        refine ⟨.bool (!r), .bool (!r), ?_, .bool _, hR⟩
        have h3 := run_neq_struct (P := P) c.w t xs ys
        rw [h1, h2] at h3
        simp only [Result.andThen_ok] at h3
        simp only [Sem.run_bind, run_eqGuard_agg c.w .neq t ox oy xs ys g2, Result.andThen_ok, h3]
  · cases hx; cases hy
    obtain ⟨⟨e, ht⟩, hR⟩ := hb
    refine ⟨_, .bool _, ?_, .bool _, hR⟩
    simp [eqGuard_at_slice, Lib.run_eql_slice_nil c.w t e _ _ _ _ _ (hT.tslice t e ht)]
  · cases hx; cases hy
    obtain ⟨⟨e, ht⟩, hR⟩ := hb
    refine ⟨_, .bool _, ?_, .bool _, hR⟩
    simp [eqGuard_at_slice, Lib.run_eql_slice_nil c.w t e _ _ _ _ _ (hT.tslice t e ht)]
  · cases hx; cases hy
    obtain ⟨⟨e, ht⟩, hR⟩ := hb
    refine ⟨_, .bool _, ?_, .bool _, hR⟩
    simp [eqGuard_at_slice, Lib.run_eql_slice_nil c.w t e _ _ _ _ _ (hT.tslice t e ht)]
end
end Go.Proofs.Ytcngfjmfgeckmaa
namespace Go.Proofs.Ytcngfjmfgeckmaa
open Go
section
variable {P : Program} {T : TE} {c : Cfg} {h : Heap} {n : Nat} {K : AV → Heap → Nat → Prop}
theorem bnd_run {o : Option AV} {vo : Option Value} (hv : ∀ a, o = some a → ∃ v, vo = some v ∧ VR c a v) (hn : o = none → vo = none) {d k y : Nat} (hb : bnd o d k) (hk : k ≤ y) (code : BoundsCode) (w : World) :
    (vo = none ∧ k = d) ∨ ∃ v, vo = some v ∧ (Instr.sliceBound v y code).run P w = .ok k w := by
  unfold bnd at hb
  split at hb
  · exact .inl ⟨hn rfl, hb⟩
  · obtain ⟨v, rfl, q⟩ := hv _ rfl
    cases q
    obtain ⟨h0, rfl⟩ := hb
    exact .inr ⟨_, rfl, by rw [run_sliceBound _ _ _ _ _ h0 (by omega)]⟩
  · exact hb.elim
theorem bounds_run {lo hi mx : Option AV} {vl vh vm : Option Value} (hl : ∀ a, lo = some a → ∃ v, vl = some v ∧ VR c a v) (hl' : lo = none → vl = none) (hh : ∀ a, hi = some a → ∃ v, vh = some v ∧ VR c a v) (hh' : hi = none → vh = none)
    (hm : ∀ a, mx = some a → ∃ v, vm = some v ∧ VR c a v) (hm' : mx = none → vm = none) {len cap i j m : Nat} (bl : bnd lo 0 i) (bh : bnd hi len j) (bm : mx.isSome = true → bnd mx 0 m) (hij : i ≤ j) (hjm : mx.isSome = true → j ≤ m) (hmc : mx.isSome = true → m ≤ cap) (hjc : j ≤ cap)
    (hmx : mx.isSome = true → hi.isSome = true) (b : Bool) (w : World) :
    (Instr.sliceBounds b len cap vl vh vm).run P w = .ok (i, j, if mx.isSome then m else cap) w := by
  cases hmo : mx with
  | none =>
    obtain rfl := hm' hmo
    rcases bnd_run (P := P) hh hh' bh hjc (if b then .sliceAcap else .sliceAlen) w with ⟨rfl, rfl⟩ | ⟨v, rfl, q⟩
    · rcases bnd_run (P := P) hl hl' bl hij .sliceB w with ⟨rfl, rfl⟩ | ⟨u, rfl, q2⟩
      · simp [Instr.sliceBounds]
      · simp [Instr.sliceBounds, q2]
    · rcases bnd_run (P := P) hl hl' bl hij .sliceB w with ⟨rfl, rfl⟩ | ⟨u, rfl, q2⟩
      · cases b <;> (simp at q; simp [Instr.sliceBounds, q])
      · cases b <;> (simp at q; simp [Instr.sliceBounds, q, q2])
  | some a =>
    have hs : mx.isSome = true := by rw [hmo]; rfl
    obtain ⟨vmm, rfl, hq⟩ := hm a hmo
    have bm' := bm hs
    rcases bnd_run (P := P) hm hm' bm' (hmc hs) (if b then .slice3Acap else .slice3Alen) w with ⟨h0, _⟩ | ⟨v, e, q⟩
    · cases h0
    · obtain rfl := Option.some.inj e
      rcases bnd_run (P := P) hh hh' bh (hjm hs) .slice3B w with ⟨rfl, rfl⟩ | ⟨u, rfl, q2⟩
      · have := hmx hs
        cases hhi : hi with
        | none => rw [hhi] at this; cases this
        | some z => obtain ⟨v', h1, _⟩ := hh z hhi; cases h1
      · rcases bnd_run (P := P) hl hl' bl hij .slice3C w with ⟨rfl, rfl⟩ | ⟨u3, rfl, q3⟩
        · cases b <;> (simp at q; simp [Instr.sliceBounds, q, q2])
        · cases b <;> (simp at q; simp [Instr.sliceBounds, q, q2, q3])
theorem map_opt {ev : Operand → AV} {ρ : Operand → Value} (hρ : ∀ x, VR c (ev x) (ρ x)) (o : Option Operand) : (∀ a, o.map ev = some a → ∃ v, o.map ρ = some v ∧ VR c a v) ∧ (o.map ev = none → o.map ρ = none) := by
  cases o with
  | none => exact ⟨fun a h => (by cases h), fun _ => rfl⟩
  | some x => exact ⟨fun a h => (by obtain rfl := Option.some.inj h; exact ⟨_, rfl, hρ x⟩), fun h => (by cases h)⟩
theorem slice_ok (hT : TEOk P T) {t e : TypeId} (ht : (T t).ty = .slice e) (hpos : 0 < (T e).sz) {ev : Operand → AV} {ρ : Operand → Value} (hρ : ∀ x, VR c (ev x) (ρ x)) {a : AV} {v : Value} (hv : VR c a v) {lo hi mx : Option Operand}
    (hmx : mx.isSome = true → hi.isSome = true) {R : AV → Prop} (hs : sliceP (T e).sz a (lo.map ev) (hi.map ev) (mx.map ev) R) :
    ∃ r u, (Instr.sliceAt t v (lo.map ρ) (hi.map ρ) (mx.map ρ)).run P c.w = .ok u c.w ∧ VR c r u ∧ R r := by
  have hu := hT.tslice t e ht
  have hsz := sizeOf_run (P := P) hT hpos c.w
  obtain ⟨l1, l2⟩ := map_opt hρ lo
  obtain ⟨h1, h2⟩ := map_opt hρ hi
  obtain ⟨m1, m2⟩ := map_opt hρ mx
  have hms : (mx.map ev).isSome = mx.isSome := by simp
  have hhs : (hi.map ev).isSome = hi.isSome := by simp
  have key : ∀ (base : Option Addr) (len cap i j m : Nat), v = .slice base len cap → bnd (lo.map ev) 0 i → bnd (hi.map ev) len j → ((mx.map ev).isSome = true → bnd (mx.map ev) 0 m) → i ≤ j → (mx.isSome = true → j ≤ m) → (mx.isSome = true → m ≤ cap) → j ≤ cap →
      (Instr.sliceAt t v (lo.map ρ) (hi.map ρ) (mx.map ρ)).run P c.w = .ok (.slice (if (if mx.isSome then m else cap) = i then base else base.map (·.add (i * (T e).sz))) (j - i) ((if mx.isSome then m else cap) - i)) c.w := by
    intro base len cap i j m hve b1 b2 b3 hij hjm hmc hjc
    have hb := bounds_run (P := P) l1 l2 h1 h2 m1 m2 b1 b2 b3 hij (by rw [hms]; exact hjm) (by rw [hms]; exact hmc) hjc (by rw [hms, hhs]; exact hmx) true c.w
    rw [hms] at hb
    subst hve
    simp only [Instr.sliceAt, Instr.slice, Sem.run_bind, run_underlying hu, Result.andThen_ok, hb, hsz, Sem.run_pure]
  unfold sliceP at hs
  split at hs
  · cases hv
    obtain ⟨b1, b2, b3, hR⟩ := hs
    refine ⟨.nils, .slice none 0 0, ?_, .nils, hR⟩
    have := key none 0 0 0 0 0 rfl b1 b2 (fun _ => by simpa [bnd] using b3) (Nat.le_refl _) (fun _ => Nat.le_refl _) (fun _ => Nat.le_refl _) (Nat.le_refl _)
    rw [this]
    simp
  · rename_i s ex l
    obtain ⟨rfl, i, j, m, b1, b2, b3, hij, hjm, hml, hR⟩ := hs
    cases hv with
    | ro _ _ _ ad cap f hcap hmax hex hfz hsz' hone hc hcv =>
      have b3' : (mx.map ev).isSome = true → bnd (mx.map ev) 0 m := fun hs => by
        cases hq : mx.map ev with
        | none => rw [hq] at hs; cases hs
        | some z => rw [hq] at b3; cases z <;> first | exact b3 | exact b3.elim
      have hlen : ((l.drop i).take (j - i)).length = j - i := by simp; omega
      have hrun := key (some ad) l.length cap i j m rfl b1 b2 b3' hij (fun _ => hjm) (fun _ => by omega) (by omega)
      obtain ⟨M, hM⟩ : ∃ M, M = (if mx.isSome = true then m else cap) := ⟨_, rfl⟩
      have hMj : j ≤ M := by rw [hM]; split <;> omega
      have hMc : M ≤ cap := by rw [hM]; split <;> omega
      have hMs : mx.isSome = true → M = m := fun hs => by rw [hM, if_pos hs]
      have hMn : mx.isSome = false → M = cap := fun hs => by rw [hM, hs]; rfl
      rw [← hM] at hrun
      have get : ∀ (q : Nat) (x : AV), ((l.drop i).take (j - i))[q]? = some x → l[i + q]? = some x ∧ q < j - i := fun q x hq => by
        rw [List.getElem?_take] at hq
        split at hq
        · rw [List.getElem?_drop] at hq; exact ⟨hq, by assumption⟩
        · cases hq
      refine ⟨_, _, hrun, ?_, hR⟩
      have hval := VR.ro (c := c) (T e).sz (if (mx.map ev).isSome = true then decide (m = j) else (ex && decide (j = l.length))) ((l.drop i).take (j - i)) (if M = i then ad else ad.add (i * (T e).sz)) (M - i) (fun q k => f (i + q) k)
        (by rw [hlen]; omega) (by omega) (fun hx => by
          rw [hlen]
          rw [hms] at hx
          split at hx
          · rename_i hs; have := hMs hs; simp at hx; omega
          · rename_i hs; have := hMn (by simpa using hs); simp at hx; have := hex hx.1; omega)
        (fun hne => by
          have : l ≠ [] := by rintro rfl; simp at hne
          have hq := hfz this
          split
          · exact hq
          · rw [add_block]; exact hq)
        (fun q x hq => hsz' _ _ (get q x hq).1) (fun q x k u hq hk => hone _ _ _ _ (get q x hq).1 hk)
        (fun q x k u hq hk => by
          obtain ⟨g1, g2⟩ := get q x hq
          have hcell := hc _ _ _ _ g1 hk
          rw [if_neg (by omega), add_add, ← hcell]
          congr 2
          rw [Nat.add_mul]; omega)
        (fun q x k u hq hk => hcv _ _ _ _ (get q x hq).1 hk)
      rw [hlen] at hval
      have e1 : (if M = i then some ad else (some ad).map (·.add (i * (T e).sz))) = some (if M = i then ad else ad.add (i * (T e).sz)) := by split <;> rfl
      rw [e1]
      exact hval
  · rename_i s id off len lo' ex
    obtain ⟨rfl, i, j, m, b1, b2, b3, hij, hjm, hml, hR⟩ := hs
    cases hv with
    | sl _ _ _ _ _ _ b base cap hι hlen hlo hex hmax hroom ad had =>
      have b3' : (mx.map ev).isSome = true → bnd (mx.map ev) 0 m := fun hs => by
        cases hq : mx.map ev with
        | none => rw [hq] at hs; cases hs
        | some z => rw [hq] at b3; cases z <;> first | exact b3 | exact b3.elim
      have b3n : mx.isSome = false → m = lo' := fun hs => by
        cases hq : mx with
        | none => rw [hq] at b3; exact b3
        | some z => rw [hq] at hs; cases hs
      have hrun := key (some ad) len cap i j m rfl b1 b2 b3' hij (fun _ => hjm) (fun _ => by omega) (by omega)
      obtain ⟨M, hM⟩ : ∃ M, M = (if mx.isSome = true then m else cap) := ⟨_, rfl⟩
      have hMj : j ≤ M := by rw [hM]; split <;> omega
      have hMc : M ≤ cap := by rw [hM]; split <;> omega
      have hMs : mx.isSome = true → M = m := fun hs => by rw [hM, if_pos hs]
      have hMn : mx.isSome = false → M = cap := fun hs => by rw [hM, hs]; rfl
      rw [← hM] at hrun
      refine ⟨_, _, hrun, ?_, hR⟩
      have e1 : (if M = i then some ad else (some ad).map (·.add (i * (T e).sz))) = some (if M = i then ad else ad.add (i * (T e).sz)) := by split <;> rfl
      rw [e1, hms]
      obtain ⟨arr, E, fr, r1, r2⟩ := hroom
      have hmM : m ≤ M := by
        cases hq : mx.isSome with
        | true => have := hMs hq; omega
        | false => have := hMn hq; have := b3n hq; omega
      refine VR.sl (c := c) (T e).sz id (off + i) (j - i) (m - i) _ b base (M - i) hι (by omega) (by omega) (fun hx => ?_) (by omega) ⟨arr, E, fr, r1, ?_⟩ _ (fun hne => ?_)
      · split at hx
        · rename_i hs; have := hMs hs; omega
        · rename_i hs; have := hMn (by simpa using hs); have := hex hx; have := b3n (by simpa using hs); omega
      · have hle : off + i + (M - i) ≤ off + cap := by omega
        have := Nat.mul_le_mul_right (T e).sz hle
        omega
      · rw [if_neg (by omega), had (by omega), add_off _ _ rfl]
        simp only [Nat.add_mul, Nat.add_assoc]
  · exact hs.elim
theorem strSlice_ok (hT : TEOk P T) {t : TypeId} (ht : (T t).ty = .str) {ev : Operand → AV} {ρ : Operand → Value} (hρ : ∀ x, VR c (ev x) (ρ x)) {s : ByteArray} {lo hi : Option Operand} {R : AV → Prop} (hs : strSliceP s (lo.map ev) (hi.map ev) R) :
    ∃ r u, (Instr.sliceAt t (.string s) (lo.map ρ) (hi.map ρ) none).run P c.w = .ok u c.w ∧ VR c r u ∧ R r := by
  have hu := hT.tstr t ht
  obtain ⟨l1, l2⟩ := map_opt hρ lo
  obtain ⟨h1, h2⟩ := map_opt hρ hi
  obtain ⟨i, j, b1, b2, hij, hj, hR⟩ := hs
  have hb := bounds_run (P := P) (mx := none) (vm := none) l1 l2 h1 h2 (fun a h => by cases h) (fun _ => rfl) b1 b2 (m := 0) (cap := s.size) (fun h => by cases h) hij (fun h => by cases h) (fun h => by cases h) hj (fun h => by cases h) false c.w
  refine ⟨_, .string (s.extract i j), ?_, .str _, hR⟩
  simp only [Instr.sliceAt, Instr.slice, Sem.run_bind, run_underlying hu, Result.andThen_ok, Option.isSome_none, Bool.false_eq_true, if_false, Sem.run_pure, hb]
end
end Go.Proofs.Ytcngfjmfgeckmaa
namespace Go.Proofs.Ytcngfjmfgeckmaa
open Go
section
variable {P : Program} {T : TE} {c : Cfg} {h : Heap} {n : Nat} {K : AV → Heap → Nat → Prop}
theorem HR.sub {h' : Heap} (hh : HR c h) (hs : ∀ id b, h' id = some b → h id = some b) : HR c h' :=
  ⟨fun id b hb => hh.blk id b (hs id b hb), fun i j bi bj x y h1 h2 => hh.inj i j bi bj x y (hs i bi h1) (hs j bj h2), hh.fzlt, hh.pin⟩
theorem Ext.sub {c' : Cfg} {h1 h2 : Heap} {fr : Nat → Prop} (e : Ext c h fr c' h1) (hs : ∀ id b, h2 id = some b → h1 id = some b) : Ext c h fr c' h2 :=
  ⟨e.os, e.tape, e.output, e.size, e.ι, e.dom, e.fz, e.shape, e.frame, fun id b x hb hx => e.own id b x (hs id b hb) hx, e.fzb⟩
theorem Ext.more {c' : Cfg} {h1 : Heap} {fr fr' : Nat → Prop} (e : Ext c h fr c' h1) (hs : ∀ id, fr id → fr' id) : Ext c h fr' c' h1 :=
  ⟨e.os, e.tape, e.output, e.size, e.ι, fun id x hx => (e.dom id x hx).imp (fun q => q) (hs id), e.fz, e.shape, e.frame, e.own, e.fzb⟩
theorem rd_cellsX (hh : HR c h) {a : AV} {v : Value} (hv : VR c a v) {sz : Nat} (hpos : 0 < sz) {l : List AV} (hr : rdSl h sz a = some l) :
    ∃ (news : List Value) (base : Option Addr) (cap : Nat), v = .slice base l.length cap ∧ l.length ≤ cap ∧ cap ≤ maxLen ∧ news.length = l.length * sz ∧ (∀ x ∈ news, x.oneCell' = true) ∧
      (∀ w', (∀ a, w'.cell? a = c.w.cell? a) → (Builtin.firstCells sz l.length v).run P w' = .ok news.toArray w') ∧
      (∀ (i : Nat) (e : AV) (j : Nat) (u : AV), l[i]? = some e → e.cells[j]? = some u → ∃ x, news[i * sz + j]? = some x ∧ VR c u x) ∧
      (∀ (i : Nat) (e : AV), l[i]? = some e → e.cells.length = sz) ∧ (∀ (i : Nat) (e : AV) (j : Nat) (u : AV), l[i]? = some e → e.cells[j]? = some u → u.one = true) ∧
      (∀ k, k ≤ l.length → (Builtin.firstCells sz k v).run P c.w = .ok (news.take (k * sz)).toArray c.w) := by
  rcases rd_slice hh hv hr with ⟨rfl, rfl⟩ | ⟨ad, cap, rfl, h1, h2, h3, h4, h5, _, _⟩
  · exact ⟨[], none, 0, rfl, Nat.le_refl _, Nat.zero_le _, by simp, by simp, fun w' _ => by simp [Builtin.firstCells], by simp, by simp, by simp, fun k hk => by simp [Builtin.firstCells]⟩
  · have split : ∀ k, k < l.length * sz → ∃ (e : AV) (u : AV), l[k / sz]? = some e ∧ e.cells[k % sz]? = some u ∧ k / sz * sz + k % sz = k := fun k hk => by
      have hlt : k / sz < l.length := (Nat.div_lt_iff_lt_mul hpos).2 hk
      have he : l[k / sz]? = some (l[k / sz]'hlt) := List.getElem?_eq_getElem hlt
      have hm := Nat.mod_lt k hpos
      exact ⟨_, _, he, List.getElem?_eq_getElem (by rw [h3 _ _ he]; exact hm), Nat.div_add_mod' k sz⟩
    have hcell : ∀ k, k < l.length * sz → ∃ x, c.w.cell? (ad.add k) = some x ∧ x.oneCell' = true := fun k hk => by
      obtain ⟨e, u, g1, g2, g3⟩ := split k hk
      obtain ⟨x, q1, q2⟩ := h5 _ e _ u g1 g2
      rw [g3] at q1
      exact ⟨x, q1, VR.one q2 (h4 _ _ _ _ g1 g2)⟩
    let news := (List.range (l.length * sz)).map fun k => (c.w.cell? (ad.add k)).getD Go.undef
    have hn : ∀ k x, news[k]? = some x → k < l.length * sz ∧ c.w.cell? (ad.add k) = some x := fun k x hk => by
      have hlt : k < l.length * sz := by have := (List.getElem?_eq_some_iff.1 hk).1; simpa [news] using this
      obtain ⟨y, q1, _⟩ := hcell k hlt
      simp [news, hlt, q1] at hk
      exact ⟨hlt, by rw [q1, hk]⟩
    have hlen : news.length = l.length * sz := by simp [news]
    refine ⟨news, some ad, cap, rfl, h1, h2, hlen, fun x hx => ?_, fun w' hw => ?_, fun i e j u hi hj => ?_, h3, h4, fun k hk => ?_⟩
    · obtain ⟨k, hk, rfl⟩ := List.mem_iff_getElem.1 hx
      obtain ⟨q1, q2⟩ := hn k _ (List.getElem?_eq_getElem hk)
      obtain ⟨y, q3, q4⟩ := hcell k q1
      rw [q3] at q2
      obtain rfl := Option.some.inj q2
      exact q4
    · exact run_firstCells_some w' sz l.length ad l.length cap news hlen (fun j v hj => by rw [hw]; exact (hn j v hj).2)
    · obtain ⟨x, q1, q2⟩ := h5 i e j u hi hj
      refine ⟨x, ?_, q2⟩
      have hil := (List.getElem?_eq_some_iff.1 hi).1
      have hjl := (List.getElem?_eq_some_iff.1 hj).1
      rw [h3 i e hi] at hjl
      have hlt : i * sz + j < l.length * sz := by
        have : (i + 1) * sz ≤ l.length * sz := Nat.mul_le_mul_right _ hil
        rw [Nat.add_mul] at this; omega
      simp [news, hlt, q1]
    · refine run_firstCells_some c.w sz k ad l.length cap (news.take (k * sz)) (by rw [List.length_take, hlen]; exact Nat.min_eq_left (Nat.mul_le_mul_right _ hk)) (fun j v hj => ?_)
      rw [List.getElem?_take] at hj
      split at hj
      · exact (hn j v hj).2
      · cases hj
theorem rd_cells (hh : HR c h) {a : AV} {v : Value} (hv : VR c a v) {sz : Nat} (hpos : 0 < sz) {l : List AV} (hr : rdSl h sz a = some l) :
    ∃ (news : List Value) (base : Option Addr) (cap : Nat), v = .slice base l.length cap ∧ l.length ≤ cap ∧ cap ≤ maxLen ∧ news.length = l.length * sz ∧ (∀ x ∈ news, x.oneCell' = true) ∧
      (∀ w', (∀ a, w'.cell? a = c.w.cell? a) → (Builtin.firstCells sz l.length v).run P w' = .ok news.toArray w') ∧
      (∀ (i : Nat) (e : AV) (j : Nat) (u : AV), l[i]? = some e → e.cells[j]? = some u → ∃ x, news[i * sz + j]? = some x ∧ VR c u x) ∧
      (∀ (i : Nat) (e : AV), l[i]? = some e → e.cells.length = sz) ∧ (∀ (i : Nat) (e : AV) (j : Nat) (u : AV), l[i]? = some e → e.cells[j]? = some u → u.one = true) := by
  obtain ⟨news, base, cap, a1, a2, a3, a4, a5, a6, a7, a8, a9, _⟩ := rd_cellsX (P := P) hh hv hpos hr
  exact ⟨news, base, cap, a1, a2, a3, a4, a5, a6, a7, a8, a9⟩
theorem app_grow (hT : TEOk P T) {t e ty : TypeId} (ht : (T t).ty = .slice e) (hpos : 0 < (T e).sz) {vx vy : Value} {base by_ : Option Addr} {sLen sCap m capy : Nat} (hx : vx = .slice base sLen sCap) (hy : vy = .slice by_ m capy) {olds news : List Value}
    (ho : ∀ w', (∀ a, w'.cell? a = c.w.cell? a) → (Builtin.firstCells (T e).sz sLen vx).run P w' = .ok olds.toArray w') (hn : ∀ w', (∀ a, w'.cell? a = c.w.cell? a) → (Builtin.firstCells (T e).sz m vy).run P w' = .ok news.toArray w')
    (hlt : sCap < sLen + m) (hby : (sLen + m) * (T e).bytes ≤ 140737488355328) (h63 : sLen + m ≤ 140737488355328) :
    ∃ (z : Value) (cap : Nat), (Builtin.append_ #[t, t] ty #[vx, vy]).run P c.w = .ok (.slice (some ⟨c.w.heap.size, 0, none⟩) (sLen + m) cap) (c.w.drew.alloc (.cells (olds.toArray ++ news.toArray ++ Builtin.zeroCells z.cells (cap - (sLen + m))) e)) ∧
      sLen + m ≤ cap ∧ cap ≤ maxLen ∧ z.cells.size = (T e).sz := by
  obtain ⟨i, z, hi, i1, i2, i3, i4, i5, i6⟩ := hT.info e hpos
  have hzs : z.cells.size = (T e).sz := by rw [(VR.cells (i4 c) i6).1, i5]
  have hml : sLen + m ≤ maxLen := by unfold maxLen; omega
  refine ⟨z, grownCap c.w (sLen + m) sCap e, ?_, grownCap_ge _ _ _ _, grownCap_le_maxLen _ _ _ _ hml, hzs⟩
  have hfit := growslice_fits hlt hby
  have hnn : ¬ (sLen + m ≤ sCap) := by omega
  have h63' : ¬ (9223372036854775807 < ((sLen : Int) + (m : Int))) := by omega
  have h48' : ¬ (281474976710656 < Builtin.nextslicecap (sLen + m) sCap * (T e).bytes) := by omega
  have h1 := ho c.w.drew (fun a => by simp)
  have h2 := hn c.w.drew (fun a => by simp)
  subst hx; subst hy
  simp [Builtin.append_, run_underlying (hT.tslice t e ht), sizeOf, typeInfo, zeroValue, hi, i1, i2, i3, Builtin.lenOf, hnn, h63', h48', Question.forced, h1, h2, newRow, grownCap]
  congr 2
  apply Array.ext'
  simp [List.append_assoc]
theorem app_same (hT : TEOk P T) {t e ty : TypeId} (ht : (T t).ty = .slice e) (hpos : 0 < (T e).sz) {vx vy : Value} {base by_ : Option Addr} {sLen sCap capy : Nat} (hx : vx = .slice base sLen sCap) (hy : vy = .slice by_ 0 capy)
    (hn : ∀ w', (∀ a, w'.cell? a = c.w.cell? a) → (Builtin.firstCells (T e).sz 0 vy).run P w' = .ok #[] w') (hle : sLen ≤ sCap) : (Builtin.append_ #[t, t] ty #[vx, vy]).run P c.w = .ok vx c.w := by
  obtain ⟨i, z, hi, i1, i2, i3, _⟩ := hT.info e hpos
  have h2 := hn c.w (fun a => rfl)
  subst hx; subst hy
  cases base <;> simp [Builtin.append_, run_underlying (hT.tslice t e ht), sizeOf, typeInfo, hi, i1, Builtin.lenOf, hle, h2, storeCells]
theorem app_room (hT : TEOk P T) {t e ty : TypeId} (ht : (T t).ty = .slice e) (hpos : 0 < (T e).sz) {vx vy : Value} {by_ : Option Addr} {b o sLen sCap m capy : Nat} (hx : vx = .slice (some ⟨b, o, none⟩) sLen sCap) (hy : vy = .slice by_ m capy) {news : List Value}
    (hn : ∀ w', (∀ a, w'.cell? a = c.w.cell? a) → (Builtin.firstCells (T e).sz m vy).run P w' = .ok news.toArray w') (hnl : news.length = m * (T e).sz) (h1 : ∀ x ∈ news, x.oneCell' = true) {arr : Array Value} {E : TypeId} (hb : c.w.heap[b]? = some (.cells arr E (0, 0)))
    (hle : sLen + m ≤ sCap) (hroom : o + sCap * (T e).sz ≤ arr.size) :
    (Builtin.append_ #[t, t] ty #[vx, vy]).run P c.w = .ok (.slice (some ⟨b, o, none⟩) (sLen + m) sCap) (c.w.setRow b (arr.toList.take (o + sLen * (T e).sz) ++ news ++ arr.toList.drop (o + sLen * (T e).sz + news.length)).toArray) := by
  obtain ⟨i, z, hi, i1, i2, i3, _⟩ := hT.info e hpos
  have h2 := hn c.w (fun a => rfl)
  have hfit : o + sLen * (T e).sz + news.length ≤ arr.size := by
    have := Nat.mul_le_mul_right (T e).sz hle
    rw [Nat.add_mul] at this
    omega
  have hst := run_storeCells_at P b (o + sLen * (T e).sz) E news 0 arr c.w hb (by simpa using hfit) h1
  simp only [Nat.add_zero] at hst
  subst hx; subst hy
  simp [Builtin.append_, run_underlying (hT.tslice t e ht), sizeOf, typeInfo, hi, i1, Builtin.lenOf, hle, h2, Addr.add_lit, hst]
theorem grown_rel {xs ys : List AV} {olds news : List Value} {sz : Nat} (rest : Array Value) (lo : olds.length = xs.length * sz)
    (ro : ∀ (i : Nat) (e : AV) (j : Nat) (u : AV), xs[i]? = some e → e.cells[j]? = some u → ∃ x, olds[i * sz + j]? = some x ∧ VR c u x) (rn : ∀ (i : Nat) (e : AV) (j : Nat) (u : AV), ys[i]? = some e → e.cells[j]? = some u → ∃ x, news[i * sz + j]? = some x ∧ VR c u x) :
    ∀ (i : Nat) (e : AV) (j : Nat) (u : AV), (xs ++ ys)[i]? = some e → e.cells[j]? = some u → ∃ x, (olds.toArray ++ news.toArray ++ rest)[i * sz + j]? = some x ∧ VR c u x := by
  intro i e j u hi hj
  by_cases hlt : i < xs.length
  · rw [List.getElem?_append_left hlt] at hi
    obtain ⟨x, q1, q2⟩ := ro i e j u hi hj
    have hl := (List.getElem?_eq_some_iff.1 q1).1
    refine ⟨x, ?_, q2⟩
    rw [Array.append_assoc, Array.getElem?_append_left (by simpa using hl)]
    simpa using q1
  · rw [List.getElem?_append_right (by omega)] at hi
    obtain ⟨x, q1, q2⟩ := rn _ e j u hi hj
    have hl := (List.getElem?_eq_some_iff.1 q1).1
    refine ⟨x, ?_, q2⟩
    have hge : xs.length ≤ i := by omega
    have e1 : i * sz + j = olds.length + ((i - xs.length) * sz + j) := by
      rw [lo, Nat.sub_mul]
      have := Nat.mul_le_mul_right sz hge
      omega
    rw [e1, Array.getElem?_append_left (by simp; omega), Array.getElem?_append_right (by simp)]
    simpa using q1
theorem two_size {xs ys : List AV} {sz : Nat} (h1 : ∀ (i : Nat) (e : AV), xs[i]? = some e → e.cells.length = sz) (h2 : ∀ (i : Nat) (e : AV), ys[i]? = some e → e.cells.length = sz) : ∀ (i : Nat) (e : AV), (xs ++ ys)[i]? = some e → e.cells.length = sz := by
  intro i e hi
  rcases List.mem_append.1 (List.mem_of_getElem? hi) with hm | hm
  · obtain ⟨k, hk, rfl⟩ := List.mem_iff_getElem.1 hm; exact h1 k _ (List.getElem?_eq_getElem hk)
  · obtain ⟨k, hk, rfl⟩ := List.mem_iff_getElem.1 hm; exact h2 k _ (List.getElem?_eq_getElem hk)
theorem two_one {xs ys : List AV} (h1 : ∀ (i : Nat) (e : AV) (j : Nat) (u : AV), xs[i]? = some e → e.cells[j]? = some u → u.one = true) (h2 : ∀ (i : Nat) (e : AV) (j : Nat) (u : AV), ys[i]? = some e → e.cells[j]? = some u → u.one = true) :
    ∀ (i : Nat) (e : AV) (j : Nat) (u : AV), (xs ++ ys)[i]? = some e → e.cells[j]? = some u → u.one = true := by
  intro i e j u hi hj
  rcases List.mem_append.1 (List.mem_of_getElem? hi) with hm | hm
  · obtain ⟨k, hk, rfl⟩ := List.mem_iff_getElem.1 hm; exact h1 k _ j u (List.getElem?_eq_getElem hk) hj
  · obtain ⟨k, hk, rfl⟩ := List.mem_iff_getElem.1 hm; exact h2 k _ j u (List.getElem?_eq_getElem hk) hj
end
end Go.Proofs.Ytcngfjmfgeckmaa
namespace Go.Proofs.Ytcngfjmfgeckmaa
open Go
section
variable {P : Program} {T : TE} {c : Cfg} {h : Heap} {n : Nat} {K : AV → Heap → Nat → Prop}
structure AppRun (P : Program) (c : Cfg) (sz bytes : Nat) (e : TypeId) (vx : Value) (m : Nat) (news : List Value) (app : Sem Value) : Prop where
  grow : ∀ (base : Option Addr) (sLen sCap : Nat) (olds : List Value), vx = .slice base sLen sCap → (∀ w', (∀ a, w'.cell? a = c.w.cell? a) → (Builtin.firstCells sz sLen vx).run P w' = .ok olds.toArray w') → sCap < sLen + m → (sLen + m) * bytes ≤ 140737488355328 → sLen + m ≤ 140737488355328 →
    ∃ (z : Value) (cap : Nat), app.run P c.w = .ok (.slice (some ⟨c.w.heap.size, 0, none⟩) (sLen + m) cap) (c.w.drew.alloc (.cells (olds.toArray ++ news.toArray ++ Builtin.zeroCells z.cells (cap - (sLen + m))) e)) ∧ sLen + m ≤ cap ∧ cap ≤ maxLen ∧ z.cells.size = sz
  same : ∀ (base : Option Addr) (sLen sCap : Nat), m = 0 → vx = .slice base sLen sCap → sLen ≤ sCap → app.run P c.w = .ok vx c.w
  room : ∀ (b o sLen sCap : Nat) (arr : Array Value) (E : TypeId), vx = .slice (some ⟨b, o, none⟩) sLen sCap → c.w.heap[b]? = some (.cells arr E (0, 0)) → sLen + m ≤ sCap → o + sCap * sz ≤ arr.size → sLen + m ≤ 140737488355328 → (sLen + m) * bytes ≤ 140737488355328 →
    app.run P c.w = .ok (.slice (some ⟨b, o, none⟩) (sLen + m) sCap) (c.w.setRow b (arr.toList.take (o + sLen * sz) ++ news ++ arr.toList.drop (o + sLen * sz + news.length)).toArray)
theorem AppRun.plain (hT : TEOk P T) {t e ty : TypeId} (ht : (T t).ty = .slice e) (hpos : 0 < (T e).sz) {vx vy : Value} {by_ : Option Addr} {m capy : Nat} (hy : vy = .slice by_ m capy) {news : List Value}
    (hn : ∀ w', (∀ a, w'.cell? a = c.w.cell? a) → (Builtin.firstCells (T e).sz m vy).run P w' = .ok news.toArray w') (ln : news.length = m * (T e).sz) (n1 : ∀ x ∈ news, x.oneCell' = true) : AppRun P c (T e).sz (T e).bytes e vx m news (Builtin.append_ #[t, t] ty #[vx, vy]) where
  grow := fun base sLen sCap olds hx ho hlt hby h63 => app_grow (ty := ty) hT ht hpos hx hy ho hn hlt hby h63
  same := fun base sLen sCap hm hx hle => by
    subst hm
    have hnil : news = [] := List.eq_nil_of_length_eq_zero (by simpa using ln)
    subst hnil
    exact app_same hT ht hpos hx hy hn hle
  room := fun b o sLen sCap arr E hx hb hle hroom _ _ => app_room (ty := ty) hT ht hpos hx hy hn ln n1 hb hle hroom
def appTo (T : TE) (e : TypeId) (x : AV) (ys : List AV) (h : Heap) (n : Nat) (K : AV → Heap → Nat → Prop) : Prop :=
  match x with
  | .nils => ys.length * (T e).bytes ≤ 140737488355328 ∧ ys.length ≤ 140737488355328 ∧ (if ys = [] then K .nils h n else K (.sl (T e).sz n 0 ys.length ys.length false) (h.upd n ys) (n + 1))
  | .ro s ex l => s = (T e).sz ∧ (l.length + ys.length) * (T e).bytes ≤ 140737488355328 ∧ l.length + ys.length ≤ 140737488355328 ∧
      (if ys = [] then K x h n else ex = true ∧ K (.sl s n 0 (l.length + ys.length) (l.length + ys.length) false) (h.upd n (l ++ ys)) (n + 1))
  | .sl s id off len lo ex => s = (T e).sz ∧ (len + ys.length) * (T e).bytes ≤ 140737488355328 ∧ len + ys.length ≤ 140737488355328 ∧ ∃ b, h id = some b ∧ off + lo ≤ b.length ∧
      (if len + ys.length ≤ lo then K (.sl s id off (len + ys.length) lo ex) (h.upd id (b.take (off + len) ++ ys ++ b.drop (off + len + ys.length))) n
       else if ex = true then K (.sl s n 0 (len + ys.length) (len + ys.length) false) (h.upd n ((b.drop off).take len ++ ys)) (n + 1)
       else K (.sl s n 0 (len + ys.length) (len + ys.length) false) ((h.del id).upd n ((b.drop off).take len ++ ys)) (n + 1))
  | _ => False
theorem append_new (hh : HR c h) (hf : ∀ id, n ≤ id → c.ι id = none) {e : TypeId} {vx : Value} {base : Option Addr} {sLen sCap : Nat} {xs ys : List AV}
    (hx : vx = .slice base sLen sCap) {olds news : List Value} {sz : Nat} (hsz : sz = (T e).sz) (hxl : xs.length = sLen)
    (ho : ∀ w', (∀ a, w'.cell? a = c.w.cell? a) → (Builtin.firstCells (T e).sz sLen vx).run P w' = .ok olds.toArray w')
    (lo : olds.length = xs.length * sz) (ln : news.length = ys.length * sz)
    (ro : ∀ (i : Nat) (e : AV) (j : Nat) (u : AV), xs[i]? = some e → e.cells[j]? = some u → ∃ x, olds[i * sz + j]? = some x ∧ VR c u x) (rn : ∀ (i : Nat) (e : AV) (j : Nat) (u : AV), ys[i]? = some e → e.cells[j]? = some u → ∃ x, news[i * sz + j]? = some x ∧ VR c u x)
    (sx : ∀ (i : Nat) (e : AV), xs[i]? = some e → e.cells.length = sz) (sy : ∀ (i : Nat) (e : AV), ys[i]? = some e → e.cells.length = sz)
    (ox : ∀ (i : Nat) (e : AV) (j : Nat) (u : AV), xs[i]? = some e → e.cells[j]? = some u → u.one = true) (oy : ∀ (i : Nat) (e : AV) (j : Nat) (u : AV), ys[i]? = some e → e.cells[j]? = some u → u.one = true)
    (hlt : sCap < sLen + ys.length) (hby : (sLen + ys.length) * (T e).bytes ≤ 140737488355328) (h63 : sLen + ys.length ≤ 140737488355328)
    {app : Sem Value} (hA : AppRun P c (T e).sz (T e).bytes e vx ys.length news app) {s : Sem Next} (hs : ∀ v w', app.run P c.w = .ok v w' → s.run P c.w = .ok (.value v) w')
    (hK : K (.sl sz n 0 (sLen + ys.length) (sLen + ys.length) false) (h.upd n (xs ++ ys)) (n + 1)) : OpOk P c h n s K := by
  subst hsz
  obtain ⟨z, cap, hrun, h1, h2, hz⟩ := hA.grow _ _ _ _ hx ho hlt hby h63
  refine row_ok hh hf (w' := c.w.drew.alloc _) (arr := olds.toArray ++ news.toArray ++ Builtin.zeroCells z.cells (cap - (sLen + ys.length))) (E := e) rfl rfl rfl rfl (two_size sx sy) (two_one ox oy) (grown_rel _ lo ro rn)
    (Nat.le_refl _) h1 (fun hq => by cases hq) h2 ?_ (hs _ _ hrun) hK
  simp only [Array.size_append, List.size_toArray, lo, ln, size_zeroCells, hz, hxl]
  rw [← Nat.add_mul, ← Nat.add_mul]
  exact Nat.mul_le_mul_right _ (by omega)
theorem append_okG (hh : HR c h) (hf : ∀ id, n ≤ id → c.ι id = none) {e : TypeId} (hpos : 0 < (T e).sz) {x : AV} {vx : Value} (hx : VR c x vx) {ys : List AV} {news : List Value} (ln : news.length = ys.length * (T e).sz) (n1 : ∀ x ∈ news, x.oneCell' = true)
    (rn : ∀ (i : Nat) (q : AV) (j : Nat) (u : AV), ys[i]? = some q → q.cells[j]? = some u → ∃ x, news[i * (T e).sz + j]? = some x ∧ VR c u x) (sy : ∀ (i : Nat) (q : AV), ys[i]? = some q → q.cells.length = (T e).sz) (oy : ∀ (i : Nat) (e : AV) (j : Nat) (u : AV), ys[i]? = some e → e.cells[j]? = some u → u.one = true)
    {app : Sem Value} (hA : AppRun P c (T e).sz (T e).bytes e vx ys.length news app) (ha : appTo T e x ys h n K) {s : Sem Next} (hs : ∀ v w', app.run P c.w = .ok v w' → s.run P c.w = .ok (.value v) w') : OpOk P c h n s K := by
  have hn0 : ys = [] → app.run P c.w = .ok vx c.w ∨ (∀ base sLen sCap, vx = .slice base sLen sCap → ¬ sLen ≤ sCap) := fun hy0 => by
    by_cases hq : ∃ base sLen sCap, vx = .slice base sLen sCap ∧ sLen ≤ sCap
    · obtain ⟨base, sLen, sCap, e1, e2⟩ := hq
      exact .inl (hA.same _ _ _ (by rw [hy0]; rfl) e1 e2)
    · exact .inr fun base sLen sCap e1 e2 => hq ⟨base, sLen, sCap, e1, e2⟩
  unfold appTo at ha
  split at ha
  · cases hx
    obtain ⟨a1, a2, a3⟩ := ha
    split at a3
    · rename_i hy0
      rcases hn0 hy0 with hr | hr
      · exact OpOk.pure hh hf (hs _ _ hr) .nils a3
      · exact absurd (Nat.le_refl 0) (hr none 0 0 rfl)
    · rename_i hy0
      have hl : 0 < ys.length := by cases ys with | nil => exact absurd rfl hy0 | cons => simp
      exact append_new (xs := []) (olds := []) hh hf rfl rfl rfl (fun w' _ => by simp [Builtin.firstCells]) (by simp) ln (by simp) rn (by simp) sy (by simp) oy (by omega) (by simpa using a1) (by simpa using a2) hA hs (by simpa using a3)
  · rename_i sz ex l
    obtain ⟨rfl, a1, a2, a3⟩ := ha
    obtain ⟨olds, base, cap, rfl, hle, hmax, lo, o1, ho, ro, sx, ox⟩ := rd_cells (P := P) hh hx hpos (l := l) (by simp [rdSl])
    split at a3
    · rename_i hy0
      rcases hn0 hy0 with hr | hr
      · exact OpOk.pure hh hf (hs _ _ hr) hx a3
      · exact absurd hle (hr _ _ _ rfl)
    · rename_i hy0
      have hl : 0 < ys.length := by cases ys with | nil => exact absurd rfl hy0 | cons => simp
      obtain ⟨hex, a3⟩ := a3
      have hcap : cap = l.length := by
        cases hx with
        | ro _ _ _ _ _ _ _ _ hexx => exact hexx hex
      exact append_new hh hf rfl rfl rfl ho lo ln ro rn sx sy ox oy (by omega) a1 a2 hA hs a3
  · rename_i sz id off len lo' ex
    obtain ⟨rfl, a1, a2, b, hb, hbl, a3⟩ := ha
    have hlen : len ≤ lo' := by cases hx; assumption
    have hlx : ((b.drop off).take len).length = len := by simp; omega
    have hrx : rdSl h (T e).sz (.sl (T e).sz id off len lo' ex) = some ((b.drop off).take len) := by simp [rdSl, hb]; omega
    obtain ⟨olds, base, cap, hve, hle, hmax, lo, o1, ho, ro, sx, ox⟩ := rd_cells (P := P) hh hx hpos hrx
    rw [hlx] at hve hle ho lo
    obtain ⟨bb, bs, sz', arr, E, hB⟩ := hh.blk id b hb
    have hx' := hx
    cases hx with
    | sl _ _ _ _ _ _ bb' bs' cap' hι _ hlo hex hmax' hroom ad had =>
      obtain ⟨hbe, _, rfl⟩ : some ad = base ∧ True ∧ cap' = cap := by simpa using hve
      subst hbe
      have hi := hB.ι
      rw [hι] at hi
      obtain ⟨rfl, rfl, rfl⟩ : bb' = bb ∧ bs' = bs ∧ (T e).sz = sz' := by simpa using hi
      obtain ⟨arr0, E0, fr0, r1, r2⟩ := hroom
      rw [hB.heap] at r1
      obtain ⟨rfl, rfl, rfl⟩ := Obj.cells.inj (Option.some.inj r1)
      have spl : ∀ k, ((arr.toList.take (bs' + off * (T e).sz + len * (T e).sz) ++ news ++ arr.toList.drop (bs' + off * (T e).sz + len * (T e).sz + news.length)).toArray)[k]? =
          if len + ys.length ≤ cap' then (if bs' + off * (T e).sz + len * (T e).sz ≤ k ∧ k < bs' + off * (T e).sz + len * (T e).sz + news.length then news[k - (bs' + off * (T e).sz + len * (T e).sz)]? else arr[k]?)
          else ((arr.toList.take (bs' + off * (T e).sz + len * (T e).sz) ++ news ++ arr.toList.drop (bs' + off * (T e).sz + len * (T e).sz + news.length)).toArray)[k]? := fun k => by
        split
        · rename_i hfits
          have hm := Nat.mul_le_mul_right (T e).sz (show off + (len + ys.length) ≤ off + cap' by omega)
          simp only [Nat.add_mul] at hm r2
          rw [List.getElem?_toArray, getElem?_splice _ _ _ _ (by simp; omega)]
          simp
        · rfl
      by_cases hin : len + ys.length ≤ lo'
      · rw [if_pos hin] at a3
        by_cases hy0 : ys = []
        · rcases hn0 hy0 with hr | hr
          · refine OpOk.pure hh hf (hs _ _ hr) hx' ?_
            subst hy0
            have : h.upd id (b.take (off + len) ++ [] ++ b.drop (off + len + ([] : List AV).length)) = h := by
              funext q
              unfold Heap.upd
              split
              · rename_i hq; subst hq; simp [hb]
              · rfl
            rw [this] at a3
            exact a3
          · exact absurd hle (hr _ _ _ rfl)
        · have hl : 0 < ys.length := by cases ys with | nil => exact absurd rfl hy0 | cons => simp
          have hcap0 : cap' ≠ 0 := by omega
          have hrun := hA.room bb' (bs' + off * (T e).sz) len cap' _ _ (by rw [had hcap0]) hB.heap (by omega : len + ys.length ≤ cap') (by simp only [Nat.add_mul] at r2 ⊢; omega) a2 a1
          rw [← had hcap0] at hrun
          have hfits : len + ys.length ≤ cap' := by omega
          obtain ⟨q1, q2⟩ := write_ok hh hb hB (w' := c.w.setRow bb' _) (setRow_heap_eq hB.heap) rfl rfl rfl (arr' := (arr.toList.take (bs' + off * (T e).sz + len * (T e).sz) ++ news ++ arr.toList.drop (bs' + off * (T e).sz + len * (T e).sz + news.length)).toArray) (by
              have hm := Nat.mul_le_mul_right (T e).sz (show off + (len + ys.length) ≤ off + cap' by omega)
              simp only [Nat.add_mul] at hm r2
              simp; omega) (b.take (off + len) ++ ys ++ b.drop (off + len + ys.length))
            (fun i x hi => by
              rw [getElem?_splice _ _ _ _ (by omega)] at hi
              split at hi
              · exact sy _ _ hi
              · exact hB.size _ _ hi)
            (fun i x j u hi hj => by
              rw [getElem?_splice _ _ _ _ (by omega)] at hi
              split at hi
              · exact oy _ _ _ _ hi hj
              · exact hB.one _ _ _ _ hi hj)
            (fun i x j u hi hj => by
              rw [spl, if_pos hfits]
              rw [getElem?_splice _ _ _ _ (by omega)] at hi
              split at hi
              · rename_i hir
                have hjl : j < (T e).sz := by have := (List.getElem?_eq_some_iff.1 hj).1; rw [sy _ _ hi] at this; exact this
                obtain ⟨v, g1, g2⟩ := rn _ _ _ _ hi hj
                have e1 : i * (T e).sz = off * (T e).sz + len * (T e).sz + (i - (off + len)) * (T e).sz := by rw [← Nat.add_mul, ← Nat.add_mul]; congr 1; omega
                have e2 : (i - (off + len)) * (T e).sz + (T e).sz ≤ news.length := by
                  rw [ln]
                  have := Nat.mul_le_mul_right (T e).sz (show (i - (off + len)) + 1 ≤ ys.length by omega)
                  rw [Nat.add_mul] at this; omega
                rw [if_pos (by omega)]
                refine ⟨v, ?_, g2⟩
                rw [← g1]; congr 1; omega
              · rename_i hir
                have hjl : j < (T e).sz := by have := (List.getElem?_eq_some_iff.1 hj).1; rw [hB.size _ _ hi] at this; exact this
                rw [if_neg (by
                  rintro ⟨g1, g2⟩
                  apply hir
                  rw [ln] at g2
                  refine ⟨?_, ?_⟩
                  · rcases Nat.lt_or_ge i (off + len) with hlt | hge
                    · have := Nat.mul_le_mul_right (T e).sz (show i + 1 ≤ off + len from hlt)
                      simp only [Nat.add_mul] at this
                      omega
                    · exact hge
                  · rcases Nat.lt_or_ge i (off + len + ys.length) with hlt | hge
                    · exact hlt
                    · have := Nat.mul_le_mul_right (T e).sz hge
                      simp only [Nat.add_mul] at this
                      omega)]
                exact hB.cell _ _ _ _ hi hj)
          have hval : VR c (.sl (T e).sz id off (len + ys.length) lo' ex) (.slice (some ad) (len + ys.length) cap') := .sl _ _ _ _ _ _ bb' bs' cap' hι hin hlo hex hmax' ⟨arr, E, (0, 0), hB.heap, r2⟩ ad had
          exact ⟨_, ⟨c.ι, c.Fz, _⟩, _, _, n, _, hs _ _ hrun, .inl rfl, q1.more (fun _ hq => hq.elim), q2, hf, hval.mono q1 hh, Nat.le_refl _, a3⟩
      · rw [if_neg hin] at a3
        have hl : 0 < ys.length := by omega
        by_cases hexx : ex = true
        · rw [if_pos hexx] at a3
          have hcap := hex hexx
          exact append_new hh hf rfl rfl hlx ho (by rw [lo, hlx]) ln ro rn sx sy ox oy (by omega) a1 a2 hA hs a3
        · rw [if_neg hexx] at a3
          by_cases hfits : len + ys.length ≤ cap'
          · have hcap0 : cap' ≠ 0 := by omega
            have hrun := hA.room bb' (bs' + off * (T e).sz) len cap' _ _ (by rw [had hcap0]) hB.heap hfits (by simp only [Nat.add_mul] at r2 ⊢; omega) a2 a1
            rw [← had hcap0] at hrun
            obtain ⟨q1, q2⟩ := turn_ok hh hf hb hB (w' := c.w.setRow bb' _) (setRow_heap_eq hB.heap) rfl rfl rfl (arr' := (arr.toList.take (bs' + off * (T e).sz + len * (T e).sz) ++ news ++ arr.toList.drop (bs' + off * (T e).sz + len * (T e).sz + news.length)).toArray) (by
                have hm := Nat.mul_le_mul_right (T e).sz (show off + (len + ys.length) ≤ off + cap' by omega)
                simp only [Nat.add_mul] at hm r2
                simp; omega) (bs' + off * (T e).sz) ((b.drop off).take len ++ ys) (two_size sx sy) (two_one ox oy)
              (fun i x j u hi hj => by
                rw [spl, if_pos hfits]
                by_cases hlt : i < len
                · rw [List.getElem?_append_left (by omega), List.getElem?_take, if_pos hlt, List.getElem?_drop] at hi
                  have hjl : j < (T e).sz := by have := (List.getElem?_eq_some_iff.1 hj).1; rw [hB.size _ _ hi] at this; exact this
                  have hm := Nat.mul_le_mul_right (T e).sz (show i + 1 ≤ len from hlt)
                  rw [Nat.add_mul] at hm
                  rw [if_neg (by omega)]
                  obtain ⟨v, g1, g2⟩ := hB.cell _ _ _ _ hi hj
                  refine ⟨v, ?_, g2⟩
                  rw [← g1]; congr 1; rw [Nat.add_mul]; omega
                · rw [List.getElem?_append_right (by omega), hlx] at hi
                  have hjl : j < (T e).sz := by have := (List.getElem?_eq_some_iff.1 hj).1; rw [sy _ _ hi] at this; exact this
                  obtain ⟨v, g1, g2⟩ := rn _ _ _ _ hi hj
                  have hil := (List.getElem?_eq_some_iff.1 hi).1
                  have e1 : i * (T e).sz = len * (T e).sz + (i - len) * (T e).sz := by rw [← Nat.add_mul]; congr 1; omega
                  have e2 : (i - len) * (T e).sz + (T e).sz ≤ news.length := by
                    rw [ln]
                    have := Nat.mul_le_mul_right (T e).sz (show (i - len) + 1 ≤ ys.length by omega)
                    rw [Nat.add_mul] at this; omega
                  rw [if_pos (by omega)]
                  refine ⟨v, ?_, g2⟩
                  rw [← g1]; congr 1; omega)
            have hsh : ∃ arr', (c.w.setRow bb' ((arr.toList.take (bs' + off * (T e).sz + len * (T e).sz) ++ news ++ arr.toList.drop (bs' + off * (T e).sz + len * (T e).sz + news.length)).toArray)).heap[bb']? = some (.cells arr' E (0, 0)) ∧ arr'.size = arr.size := q1.shape _ _ _ _ hB.heap
            obtain ⟨arr', s1, s2⟩ := hsh
            have hval : VR (c.wr n (bb', bs' + off * (T e).sz, (T e).sz) (c.w.setRow bb' ((arr.toList.take (bs' + off * (T e).sz + len * (T e).sz) ++ news ++ arr.toList.drop (bs' + off * (T e).sz + len * (T e).sz + news.length)).toArray))) (.sl (T e).sz n 0 (len + ys.length) (len + ys.length) false) (.slice (some ad) (len + ys.length) cap') :=
              .sl _ _ _ _ _ _ bb' (bs' + off * (T e).sz) cap' (if_pos rfl) (Nat.le_refl _) hfits (fun hq => by cases hq) hmax' ⟨arr', E, (0, 0), s1, by rw [s2]; simp only [Nat.add_mul] at r2 ⊢; omega⟩ ad (fun _ => by rw [had hcap0]; simp)
            exact ⟨_, c.wr n _ _, _, _, n + 1, _, hs _ _ hrun, .inl rfl, q1, q2, turn_fresh hf, hval, by omega, a3⟩
          · refine append_new (K := fun r h' n' => K r ((h.del id).upd n ((b.drop off).take len ++ ys)) n' ∧ h' = h.upd n ((b.drop off).take len ++ ys)) hh hf rfl rfl hlx ho (by rw [lo, hlx]) ln ro rn sx sy ox oy (by omega) a1 a2 hA hs ⟨a3, rfl⟩ |> fun hq => ?_
            obtain ⟨nx, c', r, h', n', v, z1, z2, z3, z4, z5, z6, z7, z8, rfl⟩ := hq
            have sub : ∀ q bq, ((h.del id).upd n ((b.drop off).take len ++ ys)) q = some bq → (h.upd n ((b.drop off).take len ++ ys)) q = some bq := fun q bq hq => by
              unfold Heap.upd Heap.del at hq
              unfold Heap.upd
              split at hq
              · rw [if_pos (by assumption)]; exact hq
              · rw [if_neg (by assumption)]
                split at hq
                · cases hq
                · exact hq
            exact ⟨nx, c', r, _, n', v, z1, z2, z3.sub sub, z4.sub sub, z5, z6, z7, z8⟩
  · exact ha.elim
theorem append_ok (hT : TEOk P T) (hh : HR c h) (hf : ∀ id, n ≤ id → c.ι id = none) {t e ty : TypeId} (ht : (T t).ty = .slice e) {x y : AV} {vx vy : Value} (hx : VR c x vx) (hy : VR c y vy) (ha : appendP T e x y h n K)
    {s : Sem Next} (hs : ∀ v w', (Builtin.append_ #[t, t] ty #[vx, vy]).run P c.w = .ok v w' → s.run P c.w = .ok (.value v) w') : OpOk P c h n s K := by
  obtain ⟨ys, hry, hpos, ha⟩ := ha
  obtain ⟨news, by_, capy, rfl, _, _, ln, n1, hn, rn, sy, oy⟩ := rd_cells (P := P) hh hy hpos hry
  exact append_okG hh hf hpos hx ln n1 rn sy oy (AppRun.plain (ty := ty) hT ht hpos rfl hn ln n1) ha hs
end
end Go.Proofs.Ytcngfjmfgeckmaa
