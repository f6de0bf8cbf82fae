/- Row 6: the disk's types. Printed by r15gen.py. Own work. -/
import Derived.Test.YtplkjfnjdekgpaaLtAid
import Derived.Test.YtplkjfnjdekgpaaR4
namespace Go.Proofs.Ytplkjfnjdekgpaa
open Go

def U8 (a : Int) : Prop := 0 ≤ a ∧ a ≤ 255
def ByteR (e : AV) (a : Int) : Prop := e = .int .u8 a ∧ U8 a
theorem tyByte_5 : TyR T 5 ByteR := tyR_int rfl rfl rfl
def wtInt (_ : Int) : Nat := 1
def wtByte (_ : Int) : Nat := 1

theorem sizL_mem {α : Type} {f : α → Nat} {l : List α} {a : α} (ha : a ∈ l) : f a ≤ sizL f l := by
  have : f a ≤ (l.map f).sum := by
    induction l with
    | nil => cases ha
    | cons b l ih =>
      simp only [List.map_cons, List.sum_cons]
      rcases List.mem_cons.1 ha with rfl | ha
      · omega
      · have := ih ha; omega
  unfold sizL; omega

def ByteSR : AV → List Int → Prop := SlR 1 ByteR
theorem tyByteS_113 : TyR T 113 ByteSR := tyR_slice (e := 5) rfl rfl rfl
def sizByteS (l : List Int) : Nat := l.length
def wtByteS (l : List Int) : Nat := (l.map wtByte).sum

def ByteSSR : AV → List (List Int) → Prop := SlR 1 ByteSR
theorem tyByteSS_55 : TyR T 55 ByteSSR := tyR_slice (e := 113) rfl rfl rfl
def sizByteSS (l : List (List Int)) : Nat := sizL sizByteS l
def wtByteSS (l : List (List Int)) : Nat := (l.map wtByteS).sum

structure LooseD where
  page : Int
  part : Int
  data : List Int
  deriving DecidableEq

def LooseR (e : AV) (a : LooseD) : Prop := ∃ x2, e = .agg [.int .i64 a.page, .int .i64 a.part, x2] ∧ I64 a.page ∧ I64 a.part ∧ ByteSR x2 a.data
theorem tyLoose_116 : TyR T 116 LooseR where
  pos := by decide
  cell := rfl
  zlen := rfl
  part e a h := by obtain ⟨_, rfl, _, _, _⟩ := h; rfl
  len e a h := by obtain ⟨_, rfl, _, _, _⟩ := h; rfl
  good e a h := by obtain ⟨_, rfl, _, _, _⟩ := h; rfl
  lt e a n h := by
    obtain ⟨x2, rfl, h0, h1, h2⟩ := h
    rw [lt_agg]; intro u hu
    simp only [List.mem_cons, List.not_mem_nil, or_false] at hu
    rcases hu with rfl | rfl | rfl
    · exact .int _ _
    · exact .int _ _
    · exact SlR.ltn h2 n
  setz e a h := by obtain ⟨_, rfl, _, _, _⟩ := h; rfl
theorem tyLoose_117 : TyR T 117 LooseR where
  pos := by decide
  cell := rfl
  zlen := rfl
  part e a h := by obtain ⟨_, rfl, _, _, _⟩ := h; rfl
  len e a h := by obtain ⟨_, rfl, _, _, _⟩ := h; rfl
  good e a h := by obtain ⟨_, rfl, _, _, _⟩ := h; rfl
  lt e a n h := by
    obtain ⟨x2, rfl, h0, h1, h2⟩ := h
    rw [lt_agg]; intro u hu
    simp only [List.mem_cons, List.not_mem_nil, or_false] at hu
    rcases hu with rfl | rfl | rfl
    · exact .int _ _
    · exact .int _ _
    · exact SlR.ltn h2 n
  setz e a h := by obtain ⟨_, rfl, _, _, _⟩ := h; rfl
theorem toLoose_117 : TyO T 117 LooseR := TyO.struct rfl rfl (fun _ _ => rfl) (fun r b h => by obtain ⟨_, rfl, _, _, _⟩ := h; exact ⟨_, rfl, rfl⟩)
def sizLoose (a : LooseD) : Nat := sizByteS a.data
def wtLoose (a : LooseD) : Nat := 2 + wtByteS a.data
def wsLoose (a : LooseD) : Nat := wtByteS a.data

def LooseSR : AV → List LooseD → Prop := SlR 3 LooseR
theorem tyLooseS_56 : TyR T 56 LooseSR := tyR_slice (e := 116) rfl rfl rfl
theorem tyLooseS_63 : TyR T 63 LooseSR := tyR_slice (e := 117) rfl rfl rfl
def sizLooseS (l : List LooseD) : Nat := sizL sizLoose l
def wtLooseS (l : List LooseD) : Nat := (l.map wtLoose).sum

structure DiskD where
  pages : List (List Int)
  loose : List LooseD
  deriving DecidableEq

def DiskR (e : AV) (a : DiskD) : Prop := ∃ x0 x1, e = .agg [x0, x1] ∧ ByteSSR x0 a.pages ∧ LooseSR x1 a.loose
theorem tyDisk_58 : TyR T 58 DiskR where
  pos := by decide
  cell := rfl
  zlen := rfl
  part e a h := by obtain ⟨_, _, rfl, _, _⟩ := h; rfl
  len e a h := by obtain ⟨_, _, rfl, _, _⟩ := h; rfl
  good e a h := by obtain ⟨_, _, rfl, _, _⟩ := h; rfl
  lt e a n h := by
    obtain ⟨x0, x1, rfl, h0, h1⟩ := h
    rw [lt_agg]; intro u hu
    simp only [List.mem_cons, List.not_mem_nil, or_false] at hu
    rcases hu with rfl | rfl
    · exact SlR.ltn h0 n
    · exact SlR.ltn h1 n
  setz e a h := by obtain ⟨_, _, rfl, _, _⟩ := h; rfl
theorem tyDisk_65 : TyR T 65 DiskR where
  pos := by decide
  cell := rfl
  zlen := rfl
  part e a h := by obtain ⟨_, _, rfl, _, _⟩ := h; rfl
  len e a h := by obtain ⟨_, _, rfl, _, _⟩ := h; rfl
  good e a h := by obtain ⟨_, _, rfl, _, _⟩ := h; rfl
  lt e a n h := by
    obtain ⟨x0, x1, rfl, h0, h1⟩ := h
    rw [lt_agg]; intro u hu
    simp only [List.mem_cons, List.not_mem_nil, or_false] at hu
    rcases hu with rfl | rfl
    · exact SlR.ltn h0 n
    · exact SlR.ltn h1 n
  setz e a h := by obtain ⟨_, _, rfl, _, _⟩ := h; rfl
theorem toDisk_65 : TyO T 65 DiskR := TyO.struct rfl rfl (fun _ _ => rfl) (fun r b h => by obtain ⟨_, _, rfl, _, _⟩ := h; exact ⟨_, rfl, rfl⟩)
def sizDisk (a : DiskD) : Nat := sizByteSS a.pages + sizLooseS a.loose
def wtDisk (a : DiskD) : Nat := 0 + wtByteSS a.pages + wtLooseS a.loose
def wsDisk (a : DiskD) : Nat := wtByteSS a.pages + wtLooseS a.loose

structure PartsResultD where
  code : Int
  parts : List (List Int)
  deriving DecidableEq

def PartsResultR (e : AV) (a : PartsResultD) : Prop := ∃ x1, e = .agg [.int .i64 a.code, x1] ∧ I64 a.code ∧ ByteSSR x1 a.parts
theorem tyPartsResult_61 : TyR T 61 PartsResultR where
  pos := by decide
  cell := rfl
  zlen := rfl
  part e a h := by obtain ⟨_, rfl, _, _⟩ := h; rfl
  len e a h := by obtain ⟨_, rfl, _, _⟩ := h; rfl
  good e a h := by obtain ⟨_, rfl, _, _⟩ := h; rfl
  lt e a n h := by
    obtain ⟨x1, rfl, h0, h1⟩ := h
    rw [lt_agg]; intro u hu
    simp only [List.mem_cons, List.not_mem_nil, or_false] at hu
    rcases hu with rfl | rfl
    · exact .int _ _
    · exact SlR.ltn h1 n
  setz e a h := by obtain ⟨_, rfl, _, _⟩ := h; rfl
theorem toPartsResult_61 : TyO T 61 PartsResultR := TyO.struct rfl rfl (fun _ _ => rfl) (fun r b h => by obtain ⟨_, rfl, _, _⟩ := h; exact ⟨_, rfl, rfl⟩)
def sizPartsResult (a : PartsResultD) : Nat := sizByteSS a.parts
def wtPartsResult (a : PartsResultD) : Nat := 1 + wtByteSS a.parts
def wsPartsResult (a : PartsResultD) : Nat := wtByteSS a.parts

section
variable {h : Heap} {n : Nat} {K : AV → Heap → Nat → Prop}

theorem c85 {x : AV} {l : List Int} (hx : ByteSR x l) {k : Int} (h0 : 0 ≤ k) (h1 : k ≤ 4611686018427387904) (hk : K (.int .i64 (left (sizByteS l) k)) h n) : CA Try.prog 85 [x, .int .i64 k] h n K :=
  szS0_gen hT Try.call85 Try.func85 rfl rfl rfl rfl (sz := 1) rfl hx h0 h1 (by rw [siz_zero]; exact hk)

theorem c87o {x : AV} {l : List Int} (hx : ByteSR x l) (hl : sizByteS l ≤ 1048576) (hk : ∀ r h' n', OwnRes ByteSR h n r l h' n' → K r h' n') : CA Try.prog 87 [x] h n K :=

  toS0_own_gen hT Try.call87 Try.func87 rfl rfl rfl rfl tyByte_5 (fun e a h => by obtain ⟨rfl, _⟩ := h; exact .int _ _) (by decide) hx hl hk

theorem c87 {x : AV} {l : List Int} (hx : ByteSR x l) (hl : sizByteS l ≤ 1048576) (hk : ∀ r, ByteSR r l → K r h n) : CA Try.prog 87 [x] h n K := CA.ofOwn Try.call87 (fun _ hk => c87o hx hl hk) hk

theorem c92 {x y : AV} {l l2 : List Int} (hx : ByteSR x l) (hy : ByteSR y l2) (hk : K (.bool (decide (l = l2))) h n) : CA Try.prog 92 [x, y] h n K :=

  eqS0_gen hT hM Try.call92 Try.func92 rfl rfl rfl rfl tyByte_5 tyByte_5 hx hy (fun e e' a b K hR hR' hk => by obtain ⟨rfl, _⟩ := hR; obtain ⟨rfl, _⟩ := hR'; rw [b_neq]; exact hk) hk

theorem c65 {x : AV} {l : List (List Int)} (hx : ByteSSR x l) {k : Int} (h0 : 0 ≤ k) (h1 : k ≤ 4611686018427387904) (hk : K (.int .i64 (left (sizByteSS l) k)) h n) : CA Try.prog 65 [x, .int .i64 k] h n K :=
  szS_gen hT Try.call65 Try.func65 rfl rfl rfl rfl tyByteS_113 hx (fun _ _ _ _ _ _ hR h0 h1 hk => c85 hR h0 h1 hk) h0 h1 hk

theorem c70o {x : AV} {l : List (List Int)} (hx : ByteSSR x l) (hl : sizByteSS l ≤ 1048576) (hk : ∀ r h' n', OwnRes ByteSSR h n r l h' n' → K r h' n') : CA Try.prog 70 [x] h n K :=

  toS_own_gen (φ := id) hT Try.call70 Try.func70 rfl rfl rfl rfl rfl tyByteS_113 (TyO.slice (e := 5) rfl rfl rfl pt_113) (by decide) rfl tyByteS_113.lt (by decide) hx (by unfold sizByteSS sizL at hl; omega) (fun h n K e a ha hR hk => c87o hR (by have := sizL_mem (f := sizByteS) ha; unfold sizByteSS at hl; omega) hk) (by rw [List.map_id]; exact hk)

theorem c70 {x : AV} {l : List (List Int)} (hx : ByteSSR x l) (hl : sizByteSS l ≤ 1048576) (hk : ∀ r, ByteSSR r l → K r h n) : CA Try.prog 70 [x] h n K := CA.ofOwn Try.call70 (fun _ hk => c70o hx hl hk) hk

theorem c75 {x y : AV} {l l2 : List (List Int)} (hx : ByteSSR x l) (hy : ByteSSR y l2) (hk : K (.bool (decide (l = l2))) h n) : CA Try.prog 75 [x, y] h n K :=

  eqS_gen hT hM Try.call75 Try.func75 rfl rfl rfl rfl tyByteS_113 tyByteS_113 hx hy (fun _ _ _ _ _ _ _ hR hR' hk => c92 hR hR' hk) hk

theorem c86 {x : AV} {a : LooseD} (hx : LooseR x a) {k : Int} (q0 : 0 ≤ k) (q1 : k ≤ 4611686018427387904) (hk : K (.int .i64 (left (sizLoose a) k)) h n) : CA Try.prog 86 [x, .int .i64 k] h n K := by
  obtain ⟨x2, rfl, h0, h1, h2⟩ := hx
  have z2 := one_cells h2.isOne
  unfold sizLoose at hk
  refine CA.conv (CA.enter (N := 12) (rs := [.tmp 4]) hT Try.call86 Try.func86 rfl rfl (by simp) rfl fun hlt => ?_)
  refine WP.seq_k fun K1 hK1 => WP.region hT rfl ?_
  simp only [↓opsA, ↓stepA, ↓callA, ev, Env.get_envOf, ↓e_assign, ↓e_box, ofVal, ↓thenA, Nat.pos_of_neZero, good_agg, AV.cells_agg, Nat.reduceAdd, true_and, List.getElem?_cons_zero, Option.getD_some, List.length_cons, List.length_nil, Nat.zero_add, T_116]
  refine hK1 _ _ _ ?_
  clear hK1 K1
  refine WP.seq_k fun K1 hK1 => WP.region hT rfl ?_
  simp only [↓opsA, ↓stepA, ↓callA, List.map_cons, List.map_nil, ev, Env.get_put_some, Env.get_envOf, ↓e_move, ↓e_assign, ↓e_load, ↓e_fieldAddr, rdSl_sl, ↓thenA, Heap.upd_get, AV.cells_agg, reduceIte, Nat.reduceEqDiff, true_and, List.getElem?_cons_zero, List.getElem?_cons_succ, Option.getD_some, List.length_cons, List.length_nil, Nat.zero_add, List.drop_zero, List.take_succ_cons, List.take_zero, List.append_nil, Nat.lt_add_one, ↓reduceIte, Nat.le_refl, T_113, T_116, pt_113, cellOk]
  refine c85 h2 (by omega) (by omega) (hK1 _ _ _ ?_)
  clear hK1 K1
  refine WP.seq_k fun K3 hK3 => ?_
  refine WP.seq_k fun K1 hK1 => WP.region hT rfl ?_
  simp only [↓opsA, ↓stepA, ↓callA, ev, Env.get_put_some, ↓e_move, ↓e_binOp, b_lss, ofVal, ↓thenA, reduceIte, ↓reduceIte]
  refine hK1 _ _ _ ?_
  clear hK1 K1
  refine WP.cond (by simp only [ev, Env.get_put_some, ↓reduceIte]; rfl) (fun hc => ?_) (fun hc => ?_)
  · refine WP.seq_k fun K1 hK1 => WP.region hT rfl ?_
    simp only [↓opsA, ↓stepA, ↓callA, ev, ↓e_assign, ofVal, ↓thenA]
    refine hK1 _ _ _ ?_
    clear hK1 K1
    refine WP.ret ?_
    simp only [Env.get_put_some, ↓thenA, reduceIte, Option.map_some, ↓reduceIte, retA, resA]
    refine ⟨_, rfl, ret_p (Left.upd (Nat.le_refl _) (Left.refl hlt)) (.int _ _) ?_⟩
    have hm : left (sizByteS a.data) k = -1 := by unfold left at hc ⊢; simp at hc; split at hc <;> (rw [if_neg (by omega)])
    rw [hm] at hk; exact hk
  refine WP.skip (hK3 _ _ _ ?_)
  clear hK3 K3
  obtain ⟨b0, e0⟩ := left_nonneg (by omega) (of_decide_eq_false hc)
  rw [e0]
  clear hc
  refine WP.seq_k fun K1 hK1 => WP.region hT rfl ?_
  simp only [↓opsA, ↓stepA, ↓callA, ev, Env.get_put_some, ↓e_move, ↓e_assign, ↓thenA, reduceIte, Nat.reduceEqDiff, ↓reduceIte]
  refine hK1 _ _ _ ?_
  clear hK1 K1
  refine WP.ret ?_
  simp only [Env.get_put_some, reduceIte, Option.map_some, ↓reduceIte, retA, resA]
  refine ⟨_, rfl, ret_p (Left.upd (Nat.le_refl _) (Left.refl hlt)) (.int _ _) ?_⟩
  have hm : left (sizByteS a.data) k = k - (sizByteS a.data : Nat) := by unfold left; rw [if_pos (by omega)]
  rw [hm] at hk; exact hk

theorem c88o {x : AV} {a : LooseD} (hx : LooseR x a) (hl : sizLoose a ≤ 1048576) (hk : ∀ r h' n', OwnRes LooseR h n r a h' n' → K r h' n') : CA Try.prog 88 [x] h n K := by
  obtain ⟨x2, rfl, h0, h1, h2⟩ := hx
  have z2 := one_cells h2.isOne
  unfold sizLoose at hl
  refine CA.conv (CA.enter (N := 15) (rs := [.cell 2 117]) hT Try.call88 Try.func88 rfl rfl (by simp) rfl fun hlt => ?_)
  refine WP.seq_k fun K1 hK1 => WP.region hT rfl ?_
  simp only [↓opsA, ↓stepA, ↓callA, ev, Env.get_envOf, ↓e_alloc, ↓e_box, ↓thenA, Nat.pos_of_neZero, good_agg, AV.cells_agg, Nat.reduceAdd, Nat.add_assoc, true_and, List.getElem?_cons_zero, Option.getD_some, List.length_cons, List.length_nil, Nat.zero_add, T_116, T_117]
  refine hK1 _ _ _ ?_
  clear hK1 K1
  refine WP.seq_k fun K1 hK1 => WP.region hT rfl ?_
  simp only [↓opsA, ↓stepA, ↓callA, ↓e_alloc, ↓thenA, Nat.pos_of_neZero, Nat.reduceAdd, Nat.add_assoc, true_and, T_117]
  refine hK1 _ _ _ ?_
  clear hK1 K1
  refine WP.seq_k fun K1 hK1 => WP.region hT rfl ?_
  simp only [↓opsA, ↓stepA, ↓callA, ev, Env.get_put_some, Env.put_none, ↓e_load, ↓e_store, ↓e_fieldAddr, rdSl_sl, setPart_agg, ↓thenA, Heap.upd_get, Heap.upd_upd, good_int, AV.cells_int, AV.cells_agg, reduceIte, Nat.reduceEqDiff, Nat.reduceLeDiff, Nat.reduceAdd, true_and, List.getElem?_cons_zero, List.length_cons, List.length_nil, List.set_cons_zero, Nat.zero_add, Nat.add_zero, List.drop_zero, List.take_succ_cons, List.take_zero, List.drop_succ_cons, List.cons_append, List.nil_append, Nat.left_eq_add, Nat.one_ne_zero, Nat.lt_add_one, ↓reduceIte, Nat.le_refl, T_2, T_116, T_117, pt_2, cellOk]
  refine hK1 _ _ _ ?_
  clear hK1 K1
  refine WP.seq_k fun K1 hK1 => WP.region hT rfl ?_
  simp only [↓opsA, ↓stepA, ↓callA, ev, Env.get_put_some, Env.put_none, ↓e_load, ↓e_store, ↓e_fieldAddr, rdSl_sl, setPart_agg, ↓thenA, Heap.upd_get, Heap.upd_upd, good_int, AV.cells_int, AV.cells_agg, reduceIte, Nat.reduceEqDiff, Nat.reduceLeDiff, Nat.reduceAdd, true_and, List.getElem?_cons_zero, List.getElem?_cons_succ, List.length_cons, List.length_nil, List.set_cons_zero, Nat.zero_add, Nat.add_zero, List.drop_zero, List.take_succ_cons, List.take_zero, List.drop_succ_cons, List.cons_append, List.nil_append, Nat.left_eq_add, Nat.one_ne_zero, Nat.lt_add_one, ↓reduceIte, Nat.le_refl, T_2, T_116, T_117, pt_2, cellOk]
  refine hK1 _ _ _ ?_
  clear hK1 K1
  refine WP.seq_k fun K1 hK1 => WP.region hT rfl ?_
  simp only [↓opsA_cons, isCallV, List.getElem?_cons_succ, reduceCtorEq, ↓stepA, ↓callA, List.map_cons, List.map_nil, ev, Env.get_put_some, ↓e_load, ↓e_fieldAddr, rdSl_sl, ↓thenA, Heap.upd_get, AV.cells_agg, reduceIte, Nat.reduceEqDiff, true_and, List.getElem?_cons_zero, List.getElem?_cons_succ, List.length_cons, List.length_nil, Nat.zero_add, List.drop_zero, List.take_succ_cons, List.take_zero, List.append_nil, Nat.left_eq_add, Nat.one_ne_zero, Nat.lt_add_one, ↓reduceIte, Nat.le_refl, T_113, T_116, pt_113, cellOk]
  refine c87o h2 (by omega) fun y2 g2 m2 o2 => ?_
  have l2 := o2.le
  have s2 : g2 n = some [.agg [.int .i64 a.page, .int .i64 a.part, x2]] := by rw [o2.below n (by omega)]; simp [Heap.upd_get]
  have d2 : g2 (n + 1) = some [.agg [.int .i64 0, .int .i64 0, .nils]] := by rw [o2.below (n + 1) (by omega)]; simp [Heap.upd_get]
  have t2 : g2 (n + 2) = some [.agg [.int .i64 a.page, .int .i64 a.part, .nils]] := by rw [o2.below (n + 2) (by omega)]; simp []
  have b2 : ∀ id, id < n → g2 id = h id := fun id hid => by rw [o2.below id (by omega)]; simp only [Heap.upd_get]; rw [if_neg (by omega), if_neg (by omega), if_neg (by omega)]
  obtain ⟨w2, I2, q2, u2, i2⟩ := o2.frz0
  have v2 := q2.slOne u2
  have vg2 := q2.slGood u2
  unfold opsW
  simp only [↓opsA_nil, ↓opsA_cons, isCallV, List.getElem?_cons_succ, ↓stepA, ↓callA, ev, Env.get_put_some, Env.put_none, ↓e_store, ↓e_fieldAddr, setPart_agg, AV.cells_agg, reduceIte, Nat.reduceEqDiff, Nat.reduceAdd, true_and, List.getElem?_cons_zero, List.getElem?_cons_succ, List.length_cons, List.length_nil, List.set_cons_zero, Nat.zero_add, Nat.add_zero, List.take_succ_cons, List.take_zero, List.drop_succ_cons, List.drop_nil, List.cons_append, List.nil_append, List.append_nil, Nat.lt_add_one, ↓reduceIte, Nat.le_refl, T_113, T_117, t2, v2, vg2]
  refine hK1 _ _ _ ?_
  clear hK1 K1
  refine WP.seq_k fun K1 hK1 => WP.region hT rfl ?_
  simp only [↓opsA, ↓stepA, ↓callA, ev, Env.get_put_some, Env.put_none, ↓e_load, ↓e_store, rdSl_sl, setPart_agg, ↓thenA, Heap.upd_get, Heap.upd_sort, Nat.pos_of_neZero, good_agg, AV.cells_agg, reduceIte, Nat.reduceEqDiff, Nat.reduceAdd, true_and, List.getElem?_cons_zero, List.length_cons, List.length_nil, List.set_cons_zero, Nat.zero_add, Nat.add_zero, List.drop_zero, List.take_succ_cons, List.take_zero, List.drop_succ_cons, List.drop_nil, List.nil_append, List.append_nil, decide_true, Nat.lt_add_one, ↓reduceIte, Nat.le_refl, Nat.add_left_cancel_iff, T_117, pt_117, cellOk, d2]
  refine hK1 _ _ _ ?_
  refine WP.ret ?_
  refine ret_cell (sz := 3) (id := n + 1) (v := .agg [.int .i64 a.page, .int .i64 a.part, y2]) rfl (by simp [Heap.upd_get]) rfl rfl ?_
  refine own_done hlt (.agg _ _ _ (TreeL.cons _ _ _ _ [] _ (Tree.ofPlain1 rfl) (TreeL.cons _ _ _ _ [] _ (Tree.ofPlain1 rfl) (TreeL.cons _ _ _ _ I2 _ (q2.keep fun i hi => by have := i2 i hi; simp only [Heap.upd_get]; rw [if_neg (by omega), if_neg (by omega)]) TreeL.nil (fun i hi hm => by have a1 := i2 i hi; simp only [List.not_mem_nil] at hm)) (fun i hi => by cases hi)) (fun i hi => by cases hi))) ⟨w2, rfl, h0, h1, u2⟩ (fun i hi => ?_) (fun id hid => ?_) (by omega) hk
  · simp only [List.nil_append, List.append_nil] at hi
    first | (have := i2 i hi; omega)
  · simp only [Heap.upd_get]; rw [if_neg (by omega)]; try rw [if_neg (by omega)]
    exact b2 id hid

theorem c88 {x : AV} {a : LooseD} (hx : LooseR x a) (hl : sizLoose a ≤ 1048576) (hk : ∀ r, LooseR r a → K r h n) : CA Try.prog 88 [x] h n K := CA.ofOwn Try.call88 (fun _ hk => c88o hx hl hk) hk

theorem c93 {x y : AV} {a b : LooseD} (hx : LooseR x a) (hy : LooseR y b) (hk : K (.bool (decide (a = b))) h n) : CA Try.prog 93 [x, y] h n K := by
  obtain ⟨x2, rfl, h0, h1, h2⟩ := hx
  obtain ⟨y2, rfl, j0, j1, j2⟩ := hy
  have z2 := one_cells h2.isOne
  have zy2 := one_cells j2.isOne
  have hd : decide (a = b) = (decide (a.page = b.page) && (decide (a.part = b.part) && decide (a.data = b.data))) := by cases a; cases b; simp [LooseD.mk.injEq]
  rw [hd] at hk
  refine CA.conv (CA.enter (N := 21) (rs := [.tmp 4]) hT Try.call93 Try.func93 rfl rfl (by simp) rfl fun hlt => ?_)
  refine WP.seq_k fun K1 hK1 => WP.region hT rfl ?_
  simp only [↓opsA, ↓stepA, ↓callA, ev, Env.get_put_some, Env.get_envOf, ↓e_assign, ↓e_box, ofVal, ↓thenA, Nat.pos_of_neZero, good_agg, AV.cells_agg, reduceIte, Nat.reduceEqDiff, Nat.reduceAdd, Nat.add_assoc, true_and, List.getElem?_cons_zero, List.getElem?_cons_succ, Option.getD_some, List.length_cons, List.length_nil, Nat.zero_add, ↓reduceIte, T_117]
  refine hK1 _ _ _ ?_
  clear hK1 K1
  refine WP.seq_k fun K3 hK3 => ?_
  refine WP.seq_k fun K1 hK1 => WP.region hT rfl ?_
  simp only [↓opsA, ↓stepA, ↓callA, ev, Env.get_put_some, ↓e_binOp, ↓e_load, ↓e_fieldAddr, b_neq, rdSl_sl, ↓thenA, Heap.upd_get, AV.cells_agg, reduceIte, Nat.reduceEqDiff, true_and, List.getElem?_cons_zero, List.length_cons, List.length_nil, Nat.zero_add, Nat.add_zero, List.drop_zero, List.take_succ_cons, List.take_zero, Nat.left_eq_add, Nat.one_ne_zero, Nat.lt_add_one, ↓reduceIte, Nat.le_refl, T_2, T_117, pt_2, cellOk]
  refine hK1 _ _ _ ?_
  clear hK1 K1
  refine WP.cond (by simp only [ev, Env.get_put_some, ↓reduceIte]; rfl) (fun hc => ?_) (fun hc => ?_)
  · refine WP.seq_k fun K1 hK1 => WP.region hT rfl ?_
    simp only [↓opsA, ↓stepA, ↓callA, ev, ↓e_assign, ofVal, ↓thenA]
    refine hK1 _ _ _ ?_
    clear hK1 K1
    refine WP.ret ?_
    simp only [Env.get_put_some, ↓thenA, reduceIte, Option.map_some, ↓reduceIte, retA, resA]
    refine ⟨_, rfl, ret_p (Left.upd (by omega) (Left.upd (Nat.le_refl _) (Left.refl hlt))) (.bool _) ?_⟩
    have hne : a.page ≠ b.page := by simpa using hc
    simpa [resV, hne] using hk
  have he0 : a.page = b.page := by simpa using hc
  refine WP.skip (hK3 _ _ _ ?_)
  clear hK3 K3 hc
  refine WP.seq_k fun K3 hK3 => ?_
  refine WP.seq_k fun K1 hK1 => WP.region hT rfl ?_
  simp only [↓opsA, ↓stepA, ↓callA, ev, Env.get_put_some, ↓e_binOp, ↓e_load, ↓e_fieldAddr, b_neq, rdSl_sl, ↓thenA, Heap.upd_get, AV.cells_agg, reduceIte, Nat.reduceEqDiff, true_and, List.getElem?_cons_zero, List.getElem?_cons_succ, List.length_cons, List.length_nil, Nat.zero_add, List.drop_zero, List.take_succ_cons, List.take_zero, Nat.left_eq_add, Nat.one_ne_zero, Nat.lt_add_one, ↓reduceIte, Nat.le_refl, T_2, T_117, pt_2, cellOk]
  refine hK1 _ _ _ ?_
  clear hK1 K1
  refine WP.cond (by simp only [ev, Env.get_put_some, ↓reduceIte]; rfl) (fun hc => ?_) (fun hc => ?_)
  · refine WP.seq_k fun K1 hK1 => WP.region hT rfl ?_
    simp only [↓opsA, ↓stepA, ↓callA, ev, ↓e_assign, ofVal, ↓thenA]
    refine hK1 _ _ _ ?_
    clear hK1 K1
    refine WP.ret ?_
    simp only [Env.get_put_some, ↓thenA, reduceIte, Option.map_some, ↓reduceIte, retA, resA]
    refine ⟨_, rfl, ret_p (Left.upd (by omega) (Left.upd (Nat.le_refl _) (Left.refl hlt))) (.bool _) ?_⟩
    have hne : a.part ≠ b.part := by simpa using hc
    simpa [resV, hne] using hk
  have he1 : a.part = b.part := by simpa using hc
  refine WP.skip (hK3 _ _ _ ?_)
  clear hK3 K3 hc
  refine WP.seq_k fun K3 hK3 => ?_
  refine WP.seq_k fun K1 hK1 => WP.region hT rfl ?_
  simp only [↓opsA, ↓stepA, ↓callA, List.map_cons, List.map_nil, ev, Env.get_put_some, ↓e_unOp, ↓e_load, ↓e_fieldAddr, rdSl_sl, ↓thenA, Heap.upd_get, AV.cells_agg, reduceIte, Nat.reduceEqDiff, true_and, List.getElem?_cons_zero, List.getElem?_cons_succ, List.length_cons, List.length_nil, Nat.zero_add, List.drop_zero, List.take_succ_cons, List.take_zero, List.append_nil, Nat.left_eq_add, Nat.one_ne_zero, Nat.lt_add_one, ↓reduceIte, Nat.le_refl, T_113, T_117, pt_113, cellOk]
  refine c92 h2 j2 ?_
  refine hK1 _ _ _ ?_
  clear hK1 K1
  refine WP.cond (by simp only [ev, Env.get_put_some, ↓reduceIte]; rfl) (fun hc => ?_) (fun hc => ?_)
  · refine WP.seq_k fun K1 hK1 => WP.region hT rfl ?_
    simp only [↓opsA, ↓stepA, ↓callA, ev, ↓e_assign, ofVal, ↓thenA]
    refine hK1 _ _ _ ?_
    clear hK1 K1
    refine WP.ret ?_
    simp only [Env.get_put_some, ↓thenA, reduceIte, Option.map_some, ↓reduceIte, retA, resA]
    refine ⟨_, rfl, ret_p (Left.upd (by omega) (Left.upd (Nat.le_refl _) (Left.refl hlt))) (.bool _) ?_⟩
    have hne : a.data ≠ b.data := by simpa using hc
    simpa [resV, hne] using hk
  have he2 : a.data = b.data := by simpa using hc
  refine WP.skip (hK3 _ _ _ ?_)
  clear hK3 K3 hc
  refine WP.seq_k fun K1 hK1 => WP.region hT rfl ?_
  simp only [↓opsA, ↓stepA, ↓callA, ev, ↓e_assign, ofVal, ↓thenA]
  refine hK1 _ _ _ ?_
  clear hK1 K1
  refine WP.ret ?_
  simp only [Env.get_put_some, reduceIte, Option.map_some, ↓reduceIte, retA, resA]
  refine ⟨_, rfl, ret_p (Left.upd (by omega) (Left.upd (Nat.le_refl _) (Left.refl hlt))) (.bool _) ?_⟩
  simpa [resV, he0, he1, he2] using hk

theorem c66 {x : AV} {l : List LooseD} (hx : LooseSR x l) {k : Int} (h0 : 0 ≤ k) (h1 : k ≤ 4611686018427387904) (hk : K (.int .i64 (left (sizLooseS l) k)) h n) : CA Try.prog 66 [x, .int .i64 k] h n K :=
  szS_gen hT Try.call66 Try.func66 rfl rfl rfl rfl tyLoose_116 hx (fun _ _ _ _ _ _ hR h0 h1 hk => c86 hR h0 h1 hk) h0 h1 hk

theorem c71o {x : AV} {l : List LooseD} (hx : LooseSR x l) (hl : sizLooseS l ≤ 1048576) (hk : ∀ r h' n', OwnRes LooseSR h n r l h' n' → K r h' n') : CA Try.prog 71 [x] h n K :=

  toS_own_gen (φ := id) hT Try.call71 Try.func71 rfl rfl rfl rfl rfl tyLoose_116 toLoose_117 (by decide) rfl tyLoose_117.lt (by decide) hx (by unfold sizLooseS sizL at hl; omega) (fun h n K e a ha hR hk => c88o hR (by have := sizL_mem (f := sizLoose) ha; unfold sizLooseS at hl; omega) hk) (by rw [List.map_id]; exact hk)

theorem c71 {x : AV} {l : List LooseD} (hx : LooseSR x l) (hl : sizLooseS l ≤ 1048576) (hk : ∀ r, LooseSR r l → K r h n) : CA Try.prog 71 [x] h n K := CA.ofOwn Try.call71 (fun _ hk => c71o hx hl hk) hk

theorem c76 {x y : AV} {l l2 : List LooseD} (hx : LooseSR x l) (hy : LooseSR y l2) (hk : K (.bool (decide (l = l2))) h n) : CA Try.prog 76 [x, y] h n K :=

  eqS_gen hT hM Try.call76 Try.func76 rfl rfl rfl rfl tyLoose_117 tyLoose_117 hx hy (fun _ _ _ _ _ _ _ hR hR' hk => c93 hR hR' hk) hk

theorem c35 {x : AV} {a : DiskD} (hx : DiskR x a) {k : Int} (q0 : 0 ≤ k) (q1 : k ≤ 4611686018427387904) (hk : K (.int .i64 (left (sizDisk a) k)) h n) : CA Try.prog 35 [x, .int .i64 k] h n K := by
  obtain ⟨x0, x1, rfl, h0, h1⟩ := hx
  have z0 := one_cells h0.isOne
  have z1 := one_cells h1.isOne
  unfold sizDisk at hk
  refine CA.conv (CA.enter (N := 18) (rs := [.tmp 4]) hT Try.call35 Try.func35 rfl rfl (by simp) rfl fun hlt => ?_)
  refine WP.seq_k fun K1 hK1 => WP.region hT rfl ?_
  simp only [↓opsA, ↓stepA, ↓callA, ev, Env.get_envOf, ↓e_assign, ↓e_box, ofVal, ↓thenA, Nat.pos_of_neZero, good_agg, AV.cells_agg, Nat.reduceAdd, true_and, List.getElem?_cons_zero, Option.getD_some, List.length_cons, List.length_nil, Nat.zero_add, T_58]
  refine hK1 _ _ _ ?_
  clear hK1 K1
  refine WP.seq_k fun K1 hK1 => WP.region hT rfl ?_
  simp only [↓opsA, ↓stepA, ↓callA, List.map_cons, List.map_nil, ev, Env.get_put_some, Env.get_envOf, ↓e_move, ↓e_assign, ↓e_load, ↓e_fieldAddr, rdSl_sl, ↓thenA, Heap.upd_get, AV.cells_agg, reduceIte, Nat.reduceEqDiff, true_and, List.getElem?_cons_zero, List.getElem?_cons_succ, Option.getD_some, List.length_cons, List.length_nil, Nat.zero_add, Nat.add_zero, List.drop_zero, List.take_succ_cons, List.take_zero, List.append_nil, Nat.lt_add_one, ↓reduceIte, Nat.le_refl, T_55, T_58, pt_55, cellOk]
  refine c65 h0 (by omega) (by omega) (hK1 _ _ _ ?_)
  clear hK1 K1
  refine WP.seq_k fun K3 hK3 => ?_
  refine WP.seq_k fun K1 hK1 => WP.region hT rfl ?_
  simp only [↓opsA, ↓stepA, ↓callA, ev, Env.get_put_some, ↓e_move, ↓e_binOp, b_lss, ofVal, ↓thenA, reduceIte, ↓reduceIte]
  refine hK1 _ _ _ ?_
  clear hK1 K1
  refine WP.cond (by simp only [ev, Env.get_put_some, ↓reduceIte]; rfl) (fun hc => ?_) (fun hc => ?_)
  · refine WP.seq_k fun K1 hK1 => WP.region hT rfl ?_
    simp only [↓opsA, ↓stepA, ↓callA, ev, ↓e_assign, ofVal, ↓thenA]
    refine hK1 _ _ _ ?_
    clear hK1 K1
    refine WP.ret ?_
    simp only [Env.get_put_some, ↓thenA, reduceIte, Option.map_some, ↓reduceIte, retA, resA]
    refine ⟨_, rfl, ret_p (Left.upd (Nat.le_refl _) (Left.refl hlt)) (.int _ _) ?_⟩
    have hm : left (sizByteSS a.pages + sizLooseS a.loose) k = -1 := by unfold left at hc ⊢; simp at hc; split at hc <;> (rw [if_neg (by omega)])
    rw [hm] at hk; exact hk
  refine WP.skip (hK3 _ _ _ ?_)
  clear hK3 K3
  obtain ⟨b0, e0⟩ := left_nonneg (by omega) (of_decide_eq_false hc)
  rw [e0]
  clear hc
  refine WP.seq_k fun K1 hK1 => WP.region hT rfl ?_
  simp only [↓opsA, ↓stepA, ↓callA, List.map_cons, List.map_nil, ev, Env.get_put_some, ↓e_move, ↓e_assign, ↓e_load, ↓e_fieldAddr, rdSl_sl, ↓thenA, Heap.upd_get, AV.cells_agg, reduceIte, Nat.reduceEqDiff, true_and, List.getElem?_cons_zero, List.getElem?_cons_succ, List.length_cons, List.length_nil, Nat.zero_add, List.drop_zero, List.take_succ_cons, List.take_zero, List.append_nil, Nat.lt_add_one, ↓reduceIte, Nat.le_refl, T_56, T_58, pt_56, cellOk]
  refine c66 h1 (by omega) (by omega) (hK1 _ _ _ ?_)
  clear hK1 K1
  refine WP.seq_k fun K3 hK3 => ?_
  refine WP.seq_k fun K1 hK1 => WP.region hT rfl ?_
  simp only [↓opsA, ↓stepA, ↓callA, ev, Env.get_put_some, ↓e_move, ↓e_binOp, b_lss, ofVal, ↓thenA, reduceIte, ↓reduceIte]
  refine hK1 _ _ _ ?_
  clear hK1 K1
  refine WP.cond (by simp only [ev, Env.get_put_some, ↓reduceIte]; rfl) (fun hc => ?_) (fun hc => ?_)
  · refine WP.seq_k fun K1 hK1 => WP.region hT rfl ?_
    simp only [↓opsA, ↓stepA, ↓callA, ev, ↓e_assign, ofVal, ↓thenA]
    refine hK1 _ _ _ ?_
    clear hK1 K1
    refine WP.ret ?_
    simp only [Env.get_put_some, ↓thenA, reduceIte, Option.map_some, ↓reduceIte, retA, resA]
    refine ⟨_, rfl, ret_p (Left.upd (Nat.le_refl _) (Left.refl hlt)) (.int _ _) ?_⟩
    have hm : left (sizByteSS a.pages + sizLooseS a.loose) k = -1 := by unfold left at hc ⊢; simp at hc; split at hc <;> (rw [if_neg (by omega)])
    rw [hm] at hk; exact hk
  refine WP.skip (hK3 _ _ _ ?_)
  clear hK3 K3
  obtain ⟨b1, e1⟩ := left_nonneg (by omega) (of_decide_eq_false hc)
  rw [e1]
  clear hc
  refine WP.seq_k fun K1 hK1 => WP.region hT rfl ?_
  simp only [↓opsA, ↓stepA, ↓callA, ev, Env.get_put_some, ↓e_move, ↓e_assign, ↓thenA, reduceIte, Nat.reduceEqDiff, ↓reduceIte]
  refine hK1 _ _ _ ?_
  clear hK1 K1
  refine WP.ret ?_
  simp only [Env.get_put_some, reduceIte, Option.map_some, ↓reduceIte, retA, resA]
  refine ⟨_, rfl, ret_p (Left.upd (Nat.le_refl _) (Left.refl hlt)) (.int _ _) ?_⟩
  have hm : left (sizByteSS a.pages + sizLooseS a.loose) k = k - (sizByteSS a.pages : Nat) - (sizLooseS a.loose : Nat) := by unfold left; rw [if_pos (by omega)]; omega
  rw [hm] at hk; exact hk

theorem c37o {x : AV} {a : DiskD} (hx : DiskR x a) (hl : sizDisk a ≤ 1048576) (hk : ∀ r h' n', OwnRes DiskR h n r a h' n' → K r h' n') : CA Try.prog 37 [x] h n K := by
  obtain ⟨x0, x1, rfl, h0, h1⟩ := hx
  have z0 := one_cells h0.isOne
  have z1 := one_cells h1.isOne
  unfold sizDisk at hl
  refine CA.conv (CA.enter (N := 13) (rs := [.cell 2 65]) hT Try.call37 Try.func37 rfl rfl (by simp) rfl fun hlt => ?_)
  refine WP.seq_k fun K1 hK1 => WP.region hT rfl ?_
  simp only [↓opsA, ↓stepA, ↓callA, ev, Env.get_envOf, ↓e_alloc, ↓e_box, ↓thenA, Nat.pos_of_neZero, good_agg, AV.cells_agg, Nat.reduceAdd, Nat.add_assoc, true_and, List.getElem?_cons_zero, Option.getD_some, List.length_cons, List.length_nil, Nat.zero_add, T_58, T_65]
  refine hK1 _ _ _ ?_
  clear hK1 K1
  refine WP.seq_k fun K1 hK1 => WP.region hT rfl ?_
  simp only [↓opsA, ↓stepA, ↓callA, ↓e_alloc, ↓thenA, Nat.pos_of_neZero, Nat.reduceAdd, Nat.add_assoc, true_and, T_65]
  refine hK1 _ _ _ ?_
  clear hK1 K1
  refine WP.seq_k fun K1 hK1 => WP.region hT rfl ?_
  simp only [↓opsA_cons, isCallV, reduceCtorEq, ↓stepA, ↓callA, List.map_cons, List.map_nil, ev, Env.get_put_some, ↓e_load, ↓e_fieldAddr, rdSl_sl, ↓thenA, Heap.upd_get, AV.cells_agg, reduceIte, Nat.reduceEqDiff, true_and, List.getElem?_cons_zero, List.length_cons, List.length_nil, Nat.zero_add, Nat.add_zero, List.drop_zero, List.take_succ_cons, List.take_zero, List.append_nil, Nat.left_eq_add, Nat.one_ne_zero, Nat.lt_add_one, ↓reduceIte, Nat.le_refl, T_55, T_58, pt_55, cellOk]
  refine c70o h0 (by omega) fun y0 g0 m0 o0 => ?_
  have l0 := o0.le
  have s0 : g0 n = some [.agg [x0, x1]] := by rw [o0.below n (by omega)]; simp [Heap.upd_get]
  have d0 : g0 (n + 1) = some [.agg [.nils, .nils]] := by rw [o0.below (n + 1) (by omega)]; simp [Heap.upd_get]
  have t0 : g0 (n + 2) = some [.agg [.nils, .nils]] := by rw [o0.below (n + 2) (by omega)]; simp []
  have b0 : ∀ id, id < n → g0 id = h id := fun id hid => by rw [o0.below id (by omega)]; simp only [Heap.upd_get]; rw [if_neg (by omega), if_neg (by omega), if_neg (by omega)]
  obtain ⟨w0, I0, q0, u0, i0⟩ := o0.frz0
  have v0 := q0.slOne u0
  have vg0 := q0.slGood u0
  unfold opsW
  simp only [↓opsA_nil, ↓opsA_cons, isCallV, ↓stepA, ↓callA, ev, Env.get_put_some, Env.put_none, ↓e_store, ↓e_fieldAddr, setPart_agg, AV.cells_agg, reduceIte, Nat.reduceEqDiff, Nat.reduceLeDiff, Nat.reduceAdd, true_and, List.getElem?_cons_zero, List.length_cons, List.length_nil, List.set_cons_zero, Nat.zero_add, Nat.add_zero, List.drop_zero, List.take_zero, List.drop_succ_cons, List.cons_append, List.nil_append, Nat.lt_add_one, ↓reduceIte, T_55, T_65, t0, v0, vg0]
  refine hK1 _ _ _ ?_
  clear hK1 K1
  refine WP.seq_k fun K1 hK1 => WP.region hT rfl ?_
  simp only [↓opsA_cons, isCallV, List.getElem?_cons_succ, reduceCtorEq, ↓stepA, ↓callA, List.map_cons, List.map_nil, ev, Env.get_put_some, ↓e_load, ↓e_fieldAddr, rdSl_sl, ↓thenA, Heap.upd_get, AV.cells_agg, reduceIte, Nat.reduceEqDiff, true_and, List.getElem?_cons_zero, List.getElem?_cons_succ, List.length_cons, List.length_nil, Nat.zero_add, List.drop_zero, List.take_succ_cons, List.take_zero, List.append_nil, Nat.left_eq_add, Nat.lt_add_one, ↓reduceIte, Nat.le_refl, T_56, T_58, pt_56, cellOk, s0]
  refine c71o h1 (by omega) fun y1 g1 m1 o1 => ?_
  have l1 := o1.le
  have s1 : g1 n = some [.agg [x0, x1]] := by rw [o1.below n (by omega), Heap.upd_ne _ _ (by omega)]; exact s0
  have d1 : g1 (n + 1) = some [.agg [.nils, .nils]] := by rw [o1.below (n + 1) (by omega), Heap.upd_ne _ _ (by omega)]; exact d0
  have t1 : g1 (n + 2) = some [.agg [y0, .nils]] := by rw [o1.below (n + 2) (by omega), Heap.upd_same]
  have b1 : ∀ id, id < n → g1 id = h id := fun id hid => by rw [o1.below id (by omega), Heap.upd_ne _ _ (by omega)]; exact b0 id hid
  obtain ⟨w1, I1, q1, u1, i1⟩ := o1.frz0
  have v1 := q1.slOne u1
  have vg1 := q1.slGood u1
  have q0 : Tree g1 y0 w0 I0 := q0.keep fun i hi => by have := i0 i hi; rw [o1.below i (by omega), Heap.upd_ne _ _ (by omega)]
  unfold opsW
  simp only [↓opsA_nil, ↓opsA_cons, isCallV, List.getElem?_cons_succ, ↓stepA, ↓callA, ev, Env.get_put_some, Env.put_none, ↓e_store, ↓e_fieldAddr, setPart_agg, AV.cells_agg, reduceIte, Nat.reduceEqDiff, Nat.reduceAdd, true_and, List.getElem?_cons_zero, List.getElem?_cons_succ, List.length_cons, List.length_nil, List.set_cons_zero, Nat.zero_add, Nat.add_zero, List.take_succ_cons, List.take_zero, List.drop_succ_cons, List.drop_nil, List.cons_append, List.nil_append, List.append_nil, Nat.lt_add_one, ↓reduceIte, Nat.le_refl, T_63, T_65, t1, v1, vg1]
  refine hK1 _ _ _ ?_
  clear hK1 K1
  refine WP.seq_k fun K1 hK1 => WP.region hT rfl ?_
  simp only [↓opsA, ↓stepA, ↓callA, ev, Env.get_put_some, Env.put_none, ↓e_load, ↓e_store, rdSl_sl, setPart_agg, ↓thenA, Heap.upd_get, Heap.upd_sort, Nat.pos_of_neZero, good_agg, AV.cells_agg, reduceIte, Nat.reduceEqDiff, Nat.reduceAdd, true_and, List.getElem?_cons_zero, List.length_cons, List.length_nil, List.set_cons_zero, Nat.zero_add, Nat.add_zero, List.drop_zero, List.take_succ_cons, List.take_zero, List.drop_succ_cons, List.drop_nil, List.nil_append, List.append_nil, decide_true, Nat.lt_add_one, ↓reduceIte, Nat.le_refl, Nat.add_left_cancel_iff, T_65, pt_65, cellOk, d1]
  refine hK1 _ _ _ ?_
  refine WP.ret ?_
  refine ret_cell (sz := 2) (id := n + 1) (v := .agg [y0, y1]) rfl (by simp [Heap.upd_get]) rfl rfl ?_
  refine own_done hlt (.agg _ _ _ (TreeL.cons _ _ _ _ I0 _ (q0.keep fun i hi => by have := i0 i hi; simp only [Heap.upd_get]; rw [if_neg (by omega), if_neg (by omega)]) (TreeL.cons _ _ _ _ I1 _ (q1.keep fun i hi => by have := i1 i hi; simp only [Heap.upd_get]; rw [if_neg (by omega), if_neg (by omega)]) TreeL.nil (fun i hi hm => by have a1 := i1 i hi; simp only [List.not_mem_nil] at hm)) (fun i hi hm => by have a1 := i0 i hi; simp only [List.append_nil] at hm; first | (have := i1 i hm; omega)))) ⟨w0, w1, rfl, u0, u1⟩ (fun i hi => ?_) (fun id hid => ?_) (by omega) hk
  · simp only [List.mem_append, List.append_nil] at hi
    rcases hi with hi | hi <;> first | (have := i0 i hi; omega) | (have := i1 i hi; omega)
  · simp only [Heap.upd_get]; rw [if_neg (by omega)]; try rw [if_neg (by omega)]
    exact b1 id hid

theorem c37 {x : AV} {a : DiskD} (hx : DiskR x a) (hl : sizDisk a ≤ 1048576) (hk : ∀ r, DiskR r a → K r h n) : CA Try.prog 37 [x] h n K := CA.ofOwn Try.call37 (fun _ hk => c37o hx hl hk) hk

theorem c40 {x y : AV} {a b : DiskD} (hx : DiskR x a) (hy : DiskR y b) (hk : K (.bool (decide (a = b))) h n) : CA Try.prog 40 [x, y] h n K := by
  obtain ⟨x0, x1, rfl, h0, h1⟩ := hx
  obtain ⟨y0, y1, rfl, j0, j1⟩ := hy
  have z0 := one_cells h0.isOne
  have zy0 := one_cells j0.isOne
  have z1 := one_cells h1.isOne
  have zy1 := one_cells j1.isOne
  have hd : decide (a = b) = (decide (a.pages = b.pages) && decide (a.loose = b.loose)) := by cases a; cases b; simp [DiskD.mk.injEq]
  rw [hd] at hk
  refine CA.conv (CA.enter (N := 17) (rs := [.tmp 4]) hT Try.call40 Try.func40 rfl rfl (by simp) rfl fun hlt => ?_)
  refine WP.seq_k fun K1 hK1 => WP.region hT rfl ?_
  simp only [↓opsA, ↓stepA, ↓callA, ev, Env.get_put_some, Env.get_envOf, ↓e_assign, ↓e_box, ofVal, ↓thenA, Nat.pos_of_neZero, good_agg, AV.cells_agg, reduceIte, Nat.reduceEqDiff, Nat.reduceAdd, Nat.add_assoc, true_and, List.getElem?_cons_zero, List.getElem?_cons_succ, Option.getD_some, List.length_cons, List.length_nil, Nat.zero_add, ↓reduceIte, T_65]
  refine hK1 _ _ _ ?_
  clear hK1 K1
  refine WP.seq_k fun K3 hK3 => ?_
  refine WP.seq_k fun K1 hK1 => WP.region hT rfl ?_
  simp only [↓opsA, ↓stepA, ↓callA, List.map_cons, List.map_nil, ev, Env.get_put_some, ↓e_unOp, ↓e_load, ↓e_fieldAddr, rdSl_sl, ↓thenA, Heap.upd_get, AV.cells_agg, reduceIte, Nat.reduceEqDiff, true_and, List.getElem?_cons_zero, List.length_cons, List.length_nil, Nat.zero_add, Nat.add_zero, List.drop_zero, List.take_succ_cons, List.take_zero, List.append_nil, Nat.left_eq_add, Nat.one_ne_zero, Nat.lt_add_one, ↓reduceIte, Nat.le_refl, T_55, T_65, pt_55, cellOk]
  refine c75 h0 j0 ?_
  refine hK1 _ _ _ ?_
  clear hK1 K1
  refine WP.cond (by simp only [ev, Env.get_put_some, ↓reduceIte]; rfl) (fun hc => ?_) (fun hc => ?_)
  · refine WP.seq_k fun K1 hK1 => WP.region hT rfl ?_
    simp only [↓opsA, ↓stepA, ↓callA, ev, ↓e_assign, ofVal, ↓thenA]
    refine hK1 _ _ _ ?_
    clear hK1 K1
    refine WP.ret ?_
    simp only [Env.get_put_some, ↓thenA, reduceIte, Option.map_some, ↓reduceIte, retA, resA]
    refine ⟨_, rfl, ret_p (Left.upd (by omega) (Left.upd (Nat.le_refl _) (Left.refl hlt))) (.bool _) ?_⟩
    have hne : a.pages ≠ b.pages := by simpa using hc
    simpa [resV, hne] using hk
  have he0 : a.pages = b.pages := by simpa using hc
  refine WP.skip (hK3 _ _ _ ?_)
  clear hK3 K3 hc
  refine WP.seq_k fun K3 hK3 => ?_
  refine WP.seq_k fun K1 hK1 => WP.region hT rfl ?_
  simp only [↓opsA, ↓stepA, ↓callA, List.map_cons, List.map_nil, ev, Env.get_put_some, ↓e_unOp, ↓e_load, ↓e_fieldAddr, rdSl_sl, ↓thenA, Heap.upd_get, AV.cells_agg, reduceIte, Nat.reduceEqDiff, true_and, List.getElem?_cons_zero, List.getElem?_cons_succ, List.length_cons, List.length_nil, Nat.zero_add, List.drop_zero, List.take_succ_cons, List.take_zero, List.append_nil, Nat.left_eq_add, Nat.one_ne_zero, Nat.lt_add_one, ↓reduceIte, Nat.le_refl, T_63, T_65, pt_63, cellOk]
  refine c76 h1 j1 ?_
  refine hK1 _ _ _ ?_
  clear hK1 K1
  refine WP.cond (by simp only [ev, Env.get_put_some, ↓reduceIte]; rfl) (fun hc => ?_) (fun hc => ?_)
  · refine WP.seq_k fun K1 hK1 => WP.region hT rfl ?_
    simp only [↓opsA, ↓stepA, ↓callA, ev, ↓e_assign, ofVal, ↓thenA]
    refine hK1 _ _ _ ?_
    clear hK1 K1
    refine WP.ret ?_
    simp only [Env.get_put_some, ↓thenA, reduceIte, Option.map_some, ↓reduceIte, retA, resA]
    refine ⟨_, rfl, ret_p (Left.upd (by omega) (Left.upd (Nat.le_refl _) (Left.refl hlt))) (.bool _) ?_⟩
    have hne : a.loose ≠ b.loose := by simpa using hc
    simpa [resV, hne] using hk
  have he1 : a.loose = b.loose := by simpa using hc
  refine WP.skip (hK3 _ _ _ ?_)
  clear hK3 K3 hc
  refine WP.seq_k fun K1 hK1 => WP.region hT rfl ?_
  simp only [↓opsA, ↓stepA, ↓callA, ev, ↓e_assign, ofVal, ↓thenA]
  refine hK1 _ _ _ ?_
  clear hK1 K1
  refine WP.ret ?_
  simp only [Env.get_put_some, reduceIte, Option.map_some, ↓reduceIte, retA, resA]
  refine ⟨_, rfl, ret_p (Left.upd (by omega) (Left.upd (Nat.le_refl _) (Left.refl hlt))) (.bool _) ?_⟩
  simpa [resV, he0, he1] using hk

theorem c39 {x y : AV} {a b : PartsResultD} (hx : PartsResultR x a) (hy : PartsResultR y b) (hk : K (.bool (decide (a = b))) h n) : CA Try.prog 39 [x, y] h n K := by
  obtain ⟨x1, rfl, h0, h1⟩ := hx
  obtain ⟨y1, rfl, j0, j1⟩ := hy
  have z1 := one_cells h1.isOne
  have zy1 := one_cells j1.isOne
  have hd : decide (a = b) = (decide (a.code = b.code) && decide (a.parts = b.parts)) := by cases a; cases b; simp [PartsResultD.mk.injEq]
  rw [hd] at hk
  refine CA.conv (CA.enter (N := 16) (rs := [.tmp 4]) hT Try.call39 Try.func39 rfl rfl (by simp) rfl fun hlt => ?_)
  refine WP.seq_k fun K1 hK1 => WP.region hT rfl ?_
  simp only [↓opsA, ↓stepA, ↓callA, ev, Env.get_put_some, Env.get_envOf, ↓e_assign, ↓e_box, ofVal, ↓thenA, Nat.pos_of_neZero, good_agg, AV.cells_agg, reduceIte, Nat.reduceEqDiff, Nat.reduceAdd, Nat.add_assoc, true_and, List.getElem?_cons_zero, List.getElem?_cons_succ, Option.getD_some, List.length_cons, List.length_nil, Nat.zero_add, ↓reduceIte, T_61]
  refine hK1 _ _ _ ?_
  clear hK1 K1
  refine WP.seq_k fun K3 hK3 => ?_
  refine WP.seq_k fun K1 hK1 => WP.region hT rfl ?_
  simp only [↓opsA, ↓stepA, ↓callA, ev, Env.get_put_some, ↓e_binOp, ↓e_load, ↓e_fieldAddr, b_neq, rdSl_sl, ↓thenA, Heap.upd_get, AV.cells_agg, reduceIte, Nat.reduceEqDiff, true_and, List.getElem?_cons_zero, List.length_cons, List.length_nil, Nat.zero_add, Nat.add_zero, List.drop_zero, List.take_succ_cons, List.take_zero, Nat.left_eq_add, Nat.one_ne_zero, Nat.lt_add_one, ↓reduceIte, Nat.le_refl, T_2, T_61, pt_2, cellOk]
  refine hK1 _ _ _ ?_
  clear hK1 K1
  refine WP.cond (by simp only [ev, Env.get_put_some, ↓reduceIte]; rfl) (fun hc => ?_) (fun hc => ?_)
  · refine WP.seq_k fun K1 hK1 => WP.region hT rfl ?_
    simp only [↓opsA, ↓stepA, ↓callA, ev, ↓e_assign, ofVal, ↓thenA]
    refine hK1 _ _ _ ?_
    clear hK1 K1
    refine WP.ret ?_
    simp only [Env.get_put_some, ↓thenA, reduceIte, Option.map_some, ↓reduceIte, retA, resA]
    refine ⟨_, rfl, ret_p (Left.upd (by omega) (Left.upd (Nat.le_refl _) (Left.refl hlt))) (.bool _) ?_⟩
    have hne : a.code ≠ b.code := by simpa using hc
    simpa [resV, hne] using hk
  have he0 : a.code = b.code := by simpa using hc
  refine WP.skip (hK3 _ _ _ ?_)
  clear hK3 K3 hc
  refine WP.seq_k fun K3 hK3 => ?_
  refine WP.seq_k fun K1 hK1 => WP.region hT rfl ?_
  simp only [↓opsA, ↓stepA, ↓callA, List.map_cons, List.map_nil, ev, Env.get_put_some, ↓e_unOp, ↓e_load, ↓e_fieldAddr, rdSl_sl, ↓thenA, Heap.upd_get, AV.cells_agg, reduceIte, Nat.reduceEqDiff, true_and, List.getElem?_cons_zero, List.getElem?_cons_succ, List.length_cons, List.length_nil, Nat.zero_add, List.drop_zero, List.take_succ_cons, List.take_zero, List.append_nil, Nat.left_eq_add, Nat.one_ne_zero, Nat.lt_add_one, ↓reduceIte, Nat.le_refl, T_55, T_61, pt_55, cellOk]
  refine c75 h1 j1 ?_
  refine hK1 _ _ _ ?_
  clear hK1 K1
  refine WP.cond (by simp only [ev, Env.get_put_some, ↓reduceIte]; rfl) (fun hc => ?_) (fun hc => ?_)
  · refine WP.seq_k fun K1 hK1 => WP.region hT rfl ?_
    simp only [↓opsA, ↓stepA, ↓callA, ev, ↓e_assign, ofVal, ↓thenA]
    refine hK1 _ _ _ ?_
    clear hK1 K1
    refine WP.ret ?_
    simp only [Env.get_put_some, ↓thenA, reduceIte, Option.map_some, ↓reduceIte, retA, resA]
    refine ⟨_, rfl, ret_p (Left.upd (by omega) (Left.upd (Nat.le_refl _) (Left.refl hlt))) (.bool _) ?_⟩
    have hne : a.parts ≠ b.parts := by simpa using hc
    simpa [resV, hne] using hk
  have he1 : a.parts = b.parts := by simpa using hc
  refine WP.skip (hK3 _ _ _ ?_)
  clear hK3 K3 hc
  refine WP.seq_k fun K1 hK1 => WP.region hT rfl ?_
  simp only [↓opsA, ↓stepA, ↓callA, ev, ↓e_assign, ofVal, ↓thenA]
  refine hK1 _ _ _ ?_
  clear hK1 K1
  refine WP.ret ?_
  simp only [Env.get_put_some, reduceIte, Option.map_some, ↓reduceIte, retA, resA]
  refine ⟨_, rfl, ret_p (Left.upd (by omega) (Left.upd (Nat.le_refl _) (Left.refl hlt))) (.bool _) ?_⟩
  simpa [resV, he0, he1] using hk

def HdByteS (y : AV) (w : Nat) (k : Int) : Prop := ∃ ws, w = ws.sum ∧ ws.length ≤ 9223372036854775807 ∧ HdS 1 HeByte ws y 0 k
theorem HdByteS.ltn {y : AV} {w : Nat} {k : Int} (h : HdByteS y w k) (n : Nat) : y.Lt n := by obtain ⟨_, _, _, _, _, _, h, _⟩ := h; exact h n
theorem HdByteS.isOne {y : AV} {w : Nat} {k : Int} (h : HdByteS y w k) : y.one = true := by obtain ⟨_, _, _, _, _, h, _, _⟩ := h; exact h

def HdByteSS (y : AV) (w : Nat) (k : Int) : Prop := ∃ ws, w = ws.sum ∧ ws.length ≤ 9223372036854775807 ∧ HdS 1 HdByteS ws y 0 k
theorem HdByteSS.ltn {y : AV} {w : Nat} {k : Int} (h : HdByteSS y w k) (n : Nat) : y.Lt n := by obtain ⟨_, _, _, _, _, _, h, _⟩ := h; exact h n
theorem HdByteSS.isOne {y : AV} {w : Nat} {k : Int} (h : HdByteSS y w k) : y.one = true := by obtain ⟨_, _, _, _, _, h, _, _⟩ := h; exact h

def HeLoose (e : AV) (w : Nat) (k : Int) : Prop := ∃ (y2 : AV) (w2 : Nat), w = 2 + w2 ∧ e = .agg [.int .i64 (k), .int .i64 (k + 1), y2] ∧ HdByteS y2 w2 (k + 1 + 1)
theorem HeLoose.ltn {e : AV} {w : Nat} {k : Int} (h : HeLoose e w k) (m : Nat) : e.Lt m := by
  obtain ⟨_, _, _, rfl, h2⟩ := h
  rw [lt_agg]; intro u hu
  simp only [List.mem_cons, List.not_mem_nil, or_false] at hu
  rcases hu with rfl | rfl | rfl
  · exact .int _ _
  · exact .int _ _
  · exact h2.ltn m

def HdLooseS (y : AV) (w : Nat) (k : Int) : Prop := ∃ ws, w = ws.sum ∧ ws.length ≤ 9223372036854775807 ∧ HdS 3 HeLoose ws y 0 k
theorem HdLooseS.ltn {y : AV} {w : Nat} {k : Int} (h : HdLooseS y w k) (n : Nat) : y.Lt n := by obtain ⟨_, _, _, _, _, _, h, _⟩ := h; exact h n
theorem HdLooseS.isOne {y : AV} {w : Nat} {k : Int} (h : HdLooseS y w k) : y.one = true := by obtain ⟨_, _, _, _, _, h, _, _⟩ := h; exact h

def HeDisk (e : AV) (w : Nat) (k : Int) : Prop := ∃ (y0 y1 : AV) (w0 w1 : Nat), w = 0 + w0 + w1 ∧ e = .agg [y0, y1] ∧ HdByteSS y0 w0 (k) ∧ HdLooseS y1 w1 (k + (w0 : Nat))
theorem HeDisk.ltn {e : AV} {w : Nat} {k : Int} (h : HeDisk e w k) (m : Nat) : e.Lt m := by
  obtain ⟨_, _, _, _, _, rfl, h0, h1⟩ := h
  rw [lt_agg]; intro u hu
  simp only [List.mem_cons, List.not_mem_nil, or_false] at hu
  rcases hu with rfl | rfl
  · exact h0.ltn m
  · exact h1.ltn m

def HePartsResult (e : AV) (w : Nat) (k : Int) : Prop := ∃ (y1 : AV) (w1 : Nat), w = 1 + w1 ∧ e = .agg [.int .i64 (k), y1] ∧ HdByteSS y1 w1 (k + 1)
theorem HePartsResult.ltn {e : AV} {w : Nat} {k : Int} (h : HePartsResult e w k) (m : Nat) : e.Lt m := by
  obtain ⟨_, _, _, rfl, h1⟩ := h
  rw [lt_agg]; intro u hu
  simp only [List.mem_cons, List.not_mem_nil, or_false] at hu
  rcases hu with rfl | rfl
  · exact .int _ _
  · exact h1.ltn m

theorem m94 {x' : AV} {l : List Int} (hx : ByteSR x' l) : MarkC Try.prog 94 HdByteS x' (wtByteS l) := by
  obtain ⟨es, hes, hal, hml, _, _⟩ := id hx
  have hel := all2_length hal
  unfold maxLen at hml
  have hm : MarkC Try.prog 94 (HdS 1 HeByte (l.map wtByte)) x' (wtByteS l) := by
    refine markS_gen (ts := 113) (t := 5) (z := 6) (r := 19) (N := 20) (T := T) (U := ByteR) (w := wtByte) hT Try.call94 Try.func94 rfl rfl (by decide) (by decide) rfl rfl (fun e w k he m => by obtain ⟨_, rfl⟩ := he; exact .int _ _) hx (fun e' a _ hU => ?_)
    exact markByte_body (ts := 113) (t := 5) hT (by decide) rfl rfl rfl rfl rfl hU.1
  exact hm.mono fun e k he => ⟨_, rfl, by rw [List.length_map]; omega, he⟩

theorem h95 {x : AV} {w : Nat} {k : Int} (hk0 : 0 ≤ k) (hkw : k + w ≤ 4611686018427387904) (hx : HdByteS x w k) : HeldBy Try.prog 95 x w k := by
  obtain ⟨ws, rfl, hlen, hx⟩ := hx
  refine heldS_gen (ts := 113) (t := 5) (z := 7) (r := 21) (N := 22) (T := T) hT Try.call95 Try.func95 rfl rfl (by decide) (by decide) rfl rfl ?_ hk0 hkw hlen hx
  exact heldByte_body (ts := 113) (t := 5) hT (by decide) rfl rfl rfl rfl rfl (fun _ => rfl)

theorem m77 {x' : AV} {l : List (List Int)} (hx : ByteSSR x' l) : MarkC Try.prog 77 HdByteSS x' (wtByteSS l) := by
  obtain ⟨es, hes, hal, hml, _, _⟩ := id hx
  have hel := all2_length hal
  unfold maxLen at hml
  have hm : MarkC Try.prog 77 (HdS 1 HdByteS (l.map wtByteS)) x' (wtByteSS l) := by
    refine markS_gen (ts := 55) (t := 113) (z := 5) (r := 18) (N := 19) (T := T) (U := ByteSR) (w := wtByteS) hT Try.call77 Try.func77 rfl rfl (by decide) (by decide) rfl rfl (fun e w k he m => he.ltn m) hx (fun e' a _ hU => ?_)
    exact markCall_body (ts := 55) (t := 113) (g := 94) hT (by decide) rfl rfl rfl (fun h e J ht => by rw [pt_113, ht.slOne hU]; rfl) (m94 hU)
  exact hm.mono fun e k he => ⟨_, rfl, by rw [List.length_map]; omega, he⟩

theorem h79 {x : AV} {w : Nat} {k : Int} (hk0 : 0 ≤ k) (hkw : k + w ≤ 4611686018427387904) (hx : HdByteSS x w k) : HeldBy Try.prog 79 x w k := by
  obtain ⟨ws, rfl, hlen, hx⟩ := hx
  refine heldS_gen (ts := 55) (t := 113) (z := 7) (r := 20) (N := 21) (T := T) hT Try.call79 Try.func79 rfl rfl (by decide) (by decide) rfl rfl ?_ hk0 hkw hlen hx
  exact heldCall_body (ts := 55) (t := 113) (g := 95) hT (by decide) rfl rfl rfl (fun e w k q0 q1 he => ⟨by rw [pt_113, one_cells he.isOne]; rfl, h95 q0 q1 he⟩)

theorem m78 {x' : AV} {l : List LooseD} (hx : LooseSR x' l) : MarkC Try.prog 78 HdLooseS x' (wtLooseS l) := by
  obtain ⟨es, hes, hal, hml, _, _⟩ := id hx
  have hel := all2_length hal
  unfold maxLen at hml
  have hm : MarkC Try.prog 78 (HdS 3 HeLoose (l.map wtLoose)) x' (wtLooseS l) := by
    refine markS_gen (ts := 63) (t := 117) (z := 9) (r := 33) (N := 34) (T := T) (U := LooseR) (w := wtLoose) hT Try.call78 Try.func78 rfl rfl (by decide) (by decide) rfl rfl (fun e w k he m => he.ltn m) hx (fun e' a _ hU => ?_)
    intro Q E h n id ex b i e J k hte hid hrow hbi hib hbl h0 h1 h5 hk hkw hK
    obtain ⟨x2, rfl, c0, c1, c2⟩ := hU
    obtain ⟨cs, rfl, hl⟩ := hte.aggE
    cases hl with
    | cons u0 _ _ _ I0 J0 t0 hl0 d0 =>
    obtain ⟨rfl, rfl⟩ := t0.int
    cases hl0 with
    | cons u1 _ _ _ I1 J1 t1 hl1 d1 =>
    obtain ⟨rfl, rfl⟩ := t1.int
    cases hl1 with
    | cons u2 _ _ _ I2 J2 t2 hl2 d2 =>
    cases hl2 with
    | nil =>
    unfold wtLoose at hkw
    have z2 := t2.slOne c2
    have hid2 : id ∉ I2 := fun hm => hid (by simp [hm])
    have hl : List.take b.length b = b := by simp
    have hb0 : (0 : Int) ≤ i := by omega
    have hb1 : (i : Int) < b.length := by omega
    have hgs : ∀ e, (b.set i e)[i]? = some e := fun e => List.getElem?_set_self hib
    have hts : ∀ e, List.take b.length (b.set i e) = b.set i e := fun e => List.take_of_length_le (by simp)
    have wr0 : IntKind.i64.wrap (k + 1) = k + 1 := wrap_in (by omega) (by omega)
    refine WP.seq_k fun K1 hK1 => WP.region hT rfl ?_
    simp only [↓opsA, ↓stepA, ↓callA, Int.toNat_natCast, ev, Env.get_put_some, Env.put_none, ↓e_move, ↓e_store, ↓e_fieldAddr, ↓e_indexAddr, rdSl_sl, setPart_agg, ↓thenA, Nat.pos_of_neZero, good_int, AV.cells_int, AV.cells_agg, reduceIte, Nat.reduceEqDiff, Nat.reduceLeDiff, Nat.reduceAdd, true_and, List.getElem?_cons_zero, List.length_cons, List.length_nil, Nat.zero_add, Nat.add_zero, List.drop_zero, List.take_zero, List.drop_succ_cons, List.cons_append, List.nil_append, Nat.lt_add_one, ↓reduceIte, Nat.le_refl, T_2, T_117, T_63, h0, h1, h5, hrow, hbi, hl]
    refine ⟨hb0, hb1, hK1 _ _ _ ?_⟩
    clear hK1 K1
    refine WP.seq_k fun K1 hK1 => WP.region hT rfl ?_
    simp only [↓opsA, ↓stepA, ↓callA, ev, Env.get_put_some, ↓e_move, ↓e_assign, ↓e_binOp, b_add, ofVal, ↓thenA, reduceIte, Nat.reduceEqDiff, ↓reduceIte, h1, wr0]
    refine hK1 _ _ _ ?_
    clear hK1 K1
    have wr1 : IntKind.i64.wrap (k + 1 + 1) = k + 1 + 1 := wrap_in (by omega) (by omega)
    refine WP.seq_k fun K1 hK1 => WP.region hT rfl ?_
    simp only [↓opsA, ↓stepA, ↓callA, Int.toNat_natCast, ev, Env.get_put_some, Env.put_none, ↓e_move, ↓e_store, ↓e_fieldAddr, ↓e_indexAddr, rdSl_sl, setPart_agg, ↓thenA, Heap.upd_get, Heap.upd_upd, Nat.pos_of_neZero, good_int, AV.cells_int, AV.cells_agg, reduceIte, Nat.reduceEqDiff, Nat.reduceLeDiff, Nat.reduceAdd, true_and, List.getElem?_cons_zero, List.getElem?_cons_succ, List.length_cons, List.length_nil, Nat.zero_add, List.drop_zero, List.take_succ_cons, List.take_zero, List.drop_succ_cons, List.cons_append, List.nil_append, Nat.one_ne_zero, Nat.lt_add_one, ↓reduceIte, Nat.le_refl, T_2, T_117, T_63, h0, h5, hgs, hts, List.length_set, List.set_set]
    refine ⟨hb0, hb1, hK1 _ _ _ ?_⟩
    clear hK1 K1
    refine WP.seq_k fun K1 hK1 => WP.region hT rfl ?_
    simp only [↓opsA, ↓stepA, ↓callA, ev, Env.get_put_some, ↓e_move, ↓e_assign, ↓e_binOp, b_add, ofVal, ↓thenA, reduceIte, Nat.reduceEqDiff, ↓reduceIte, wr1]
    refine hK1 _ _ _ ?_
    clear hK1 K1
    refine WP.region hT rfl ?_
    simp only [↓opsA, ↓stepA, ↓callA, Int.toNat_natCast, List.map_cons, List.map_nil, ev, Env.get_put_some, ↓e_move, ↓e_assign, ↓e_load, ↓e_fieldAddr, ↓e_indexAddr, rdSl_sl, Heap.upd_get, Nat.pos_of_neZero, AV.cells_agg, reduceIte, Nat.reduceEqDiff, true_and, List.getElem?_cons_zero, List.getElem?_cons_succ, Nat.zero_add, List.drop_zero, List.append_nil, Nat.one_ne_zero, Nat.lt_add_one, ↓reduceIte, Nat.le_refl, T_113, T_117, T_63, h0, h5, hgs, hts, List.length_set, pt_113, cellOk]
    refine ⟨hb0, hb1, m94 c2 _ _ _ u2 I2 _ (t2.keep fun j hj => by have e0 : j ≠ id := fun hq => hid2 (hq ▸ hj); first | rfl | (rw [Heap.upd_ne _ _ e0])) (by omega) (by omega) fun y2 g2 n2 hn2 ty2 fr2 hH2 => ?_⟩
    have row2 : g2 id = some (b.set i (.agg [.int .i64 (k), .int .i64 (k + 1), u2])) := by rw [fr2 id hid2, Heap.upd_same]
    refine hK _ _ _ (.agg [.int .i64 (k), .int .i64 (k + 1), u2]) _ (by omega) (.agg _ _ _ (TreeL.cons _ _ _ _ _ _ (Tree.ofPlain1 rfl) (TreeL.cons _ _ _ _ _ _ (Tree.ofPlain1 rfl) (TreeL.cons _ _ _ _ _ _ ty2 TreeL.nil d2) d1) d0)) ⟨y2, _, rfl, rfl, hH2⟩ (row2) (fun j hj hnj => by rw [fr2 j (fun hm => hnj (by simp [hm])), Heap.upd_ne _ _ hj]) ?_ ?_ ?_
    · simp [Env.get, Env.put]
    · have he : k + 1 + 1 + (wtByteS a.data : Nat) = k + ((wtLoose a : Nat) : Int) := by unfold wtLoose; omega
      simp only [Env.get_put_some, ↓reduceIte]
      rw [← he]
    · simpa [Env.get, Env.put] using h5
  exact hm.mono fun e k he => ⟨_, rfl, by rw [List.length_map]; omega, he⟩

def HsDisk (e : AV) (w : Nat) (k : Int) : Prop := ∃ (y0 y1 : AV) (w0 w1 : Nat), e = .agg [y0, y1] ∧ w = w0 + w1 ∧ HdByteSS y0 w0 (k) ∧ HdLooseS y1 w1 (k + (w0 : Nat))

theorem m41 {x' : AV} {a : DiskD} (hx : DiskR x' a) : MarkC Try.prog 41 HsDisk x' (wsDisk a) := by
  obtain ⟨x0, x1, rfl, c0, c1⟩ := hx
  intro h n K x I k ht hk hkw hK
  obtain ⟨cs, rfl, hl⟩ := ht.aggE
  cases hl with
  | cons u0 _ _ _ I0 J0 t0 hl0 d0 =>
  cases hl0 with
  | cons u1 _ _ _ I1 J1 t1 hl1 d1 =>
  cases hl1 with
  | nil =>
  unfold wsDisk at hkw
  refine CA.conv (CA.enter (N := 14) (rs := [.tmp 4]) hT Try.call41 Try.func41 rfl rfl (by simp) rfl fun hlt => ?_)
  have z0 := t0.slOne c0
  have il0 : ∀ i, i ∈ I0 → i < n := fun i hi => by obtain ⟨b, hb⟩ := t0.some i hi; exact hlt i b hb
  have nn0 : n ∉ I0 := fun hm => by have := il0 n hm; omega
  have z1 := t1.slOne c1
  have il1 : ∀ i, i ∈ I1 → i < n := fun i hi => by obtain ⟨b, hb⟩ := t1.some i hi; exact hlt i b hb
  have nn1 : n ∉ I1 := fun hm => by have := il1 n hm; omega
  refine WP.seq_k fun K1 hK1 => WP.region hT rfl ?_
  simp only [↓opsA, ↓stepA, ↓callA, ev, Env.get_envOf, ↓e_assign, ↓e_box, ofVal, ↓thenA, Nat.pos_of_neZero, good_agg, AV.cells_agg, Nat.reduceAdd, true_and, List.getElem?_cons_zero, Option.getD_some, List.length_cons, List.length_nil, Nat.zero_add, T_65]
  refine hK1 _ _ _ ?_
  clear hK1 K1
  refine WP.seq_k fun K1 hK1 => WP.region hT rfl ?_
  simp only [↓opsA, ↓stepA, ↓callA, List.map_cons, List.map_nil, ev, Env.get_put_some, Env.get_envOf, ↓e_move, ↓e_assign, ↓e_load, ↓e_fieldAddr, rdSl_sl, ↓thenA, Heap.upd_get, AV.cells_agg, reduceIte, Nat.reduceEqDiff, true_and, List.getElem?_cons_zero, List.getElem?_cons_succ, Option.getD_some, List.length_cons, List.length_nil, Nat.zero_add, Nat.add_zero, List.drop_zero, List.take_succ_cons, List.take_zero, List.append_nil, Nat.lt_add_one, ↓reduceIte, Nat.le_refl, T_55, T_65, pt_55, cellOk]
  refine m77 c0 _ _ _ u0 I0 _ (t0.keep fun i hi => by rw [Heap.upd_ne _ _ (by have := il0 i hi; omega)]) (by omega) (by omega) fun y0 g0 n0 hn0 ty0 fr0 hH0 => ?_
  refine hK1 _ _ _ ?_
  clear hK1 K1
  have box0 : g0 n = some [.agg [u0, u1]] := by rw [fr0 n nn0, Heap.upd_same]
  refine WP.seq_k fun K1 hK1 => WP.region hT rfl ?_
  simp only [↓opsA, ↓stepA, ↓callA, List.map_cons, List.map_nil, ev, Env.get_put_some, ↓e_move, ↓e_assign, ↓e_load, ↓e_fieldAddr, rdSl_sl, ↓thenA, AV.cells_agg, reduceIte, Nat.reduceEqDiff, true_and, List.getElem?_cons_zero, List.getElem?_cons_succ, List.length_cons, List.length_nil, Nat.zero_add, List.drop_zero, List.take_succ_cons, List.take_zero, List.append_nil, Nat.lt_add_one, ↓reduceIte, Nat.le_refl, T_63, T_65, pt_63, cellOk, box0]
  refine m78 c1 _ _ _ u1 I1 _ (t1.keep fun i hi => by rw [fr0 i (fun hm => d0 i hm (by simp [hi])), Heap.upd_ne _ _ (by have := il1 i hi; omega)]) (by omega) (by omega) fun y1 g1 n1 hn1 ty1 fr1 hH1 => ?_
  refine hK1 _ _ _ ?_
  clear hK1 K1
  have box1 : g1 n = some [.agg [u0, u1]] := by rw [fr1 n nn1]; exact box0
  have ty0 : Tree g1 u0 y0 I0 := ty0.keep fun i hi => fr1 i (fun hm => d0 i hi (by simp [hm]))
  refine WP.seq_k fun K1 hK1 => WP.region hT rfl ?_
  simp only [↓opsA, ↓stepA, ↓callA, ev, Env.get_put_some, ↓e_move, ↓e_assign, ↓thenA, reduceIte, ↓reduceIte]
  refine hK1 _ _ _ ?_
  clear hK1 K1
  refine WP.ret ?_
  simp only [Env.get_put_some, reduceIte, Option.map_some, ↓reduceIte, retA, resA]
  let g : Heap := fun id => if id = n then none else g1 id
  have g0 : ∀ id, id ≠ n → g id = g1 id := fun id hid => by simp only [g]; rw [if_neg hid]
  refine ⟨_, rfl, _, g, n1, .keep _ _ _ _ (fun id x hx => ?_), ?_⟩
  · simp only [g] at hx
    split at hx
    · cases hx
    · exact hx
  have hfin := hK (.agg [y0, y1]) g n1 (by omega) (.agg _ _ _ (TreeL.cons _ _ _ _ _ _ (ty0.keep fun i hi => g0 i (by have := il0 i hi; omega)) (TreeL.cons _ _ _ _ _ _ (ty1.keep fun i hi => g0 i (by have := il1 i hi; omega)) TreeL.nil d1) d0)) (fun id hid => ?_) ⟨y0, y1, _, _, rfl, rfl, hH0, hH1⟩
  · have he : k + (wtByteSS a.pages : Nat) + (wtLooseS a.loose : Nat) = k + ((wsDisk a : Nat) : Int) := by unfold wsDisk; omega
    simp only [resV]
    rw [he]; exact hfin
  · by_cases hn : id = n
    · subst hn
      simp only [g, if_true]
      exact (Heap.below.none hlt (Nat.le_refl _)).symm
    · rw [g0 id hn, fr1 id (fun hm => hid (by simp [hm])), fr0 id (fun hm => hid (by simp [hm])), Heap.upd_ne _ _ hn]

def HsPartsResult (e : AV) (w : Nat) (k : Int) : Prop := ∃ (y0 y1 : AV) (w1 : Nat), e = .agg [y0, y1] ∧ w = w1 ∧ HdByteSS y1 w1 (k)

theorem m42 {x' : AV} {a : PartsResultD} (hx : PartsResultR x' a) : MarkC Try.prog 42 HsPartsResult x' (wsPartsResult a) := by
  obtain ⟨x1, rfl, c0, c1⟩ := hx
  intro h n K x I k ht hk hkw hK
  obtain ⟨cs, rfl, hl⟩ := ht.aggE
  cases hl with
  | cons u0 _ _ _ I0 J0 t0 hl0 d0 =>
  obtain ⟨rfl, rfl⟩ := t0.int
  cases hl0 with
  | cons u1 _ _ _ I1 J1 t1 hl1 d1 =>
  cases hl1 with
  | nil =>
  unfold wsPartsResult at hkw
  refine CA.conv (CA.enter (N := 10) (rs := [.tmp 4]) hT Try.call42 Try.func42 rfl rfl (by simp) rfl fun hlt => ?_)
  have z1 := t1.slOne c1
  have il1 : ∀ i, i ∈ I1 → i < n := fun i hi => by obtain ⟨b, hb⟩ := t1.some i hi; exact hlt i b hb
  have nn1 : n ∉ I1 := fun hm => by have := il1 n hm; omega
  refine WP.seq_k fun K1 hK1 => WP.region hT rfl ?_
  simp only [↓opsA, ↓stepA, ↓callA, ev, Env.get_envOf, ↓e_assign, ↓e_box, ofVal, ↓thenA, Nat.pos_of_neZero, good_agg, AV.cells_agg, Nat.reduceAdd, true_and, List.getElem?_cons_zero, Option.getD_some, List.length_cons, List.length_nil, Nat.zero_add, T_61]
  refine hK1 _ _ _ ?_
  clear hK1 K1
  refine WP.seq_k fun K1 hK1 => WP.region hT rfl ?_
  simp only [↓opsA, ↓stepA, ↓callA, List.map_cons, List.map_nil, ev, Env.get_put_some, Env.get_envOf, ↓e_move, ↓e_assign, ↓e_load, ↓e_fieldAddr, rdSl_sl, ↓thenA, Heap.upd_get, AV.cells_agg, reduceIte, Nat.reduceEqDiff, true_and, List.getElem?_cons_zero, List.getElem?_cons_succ, Option.getD_some, List.length_cons, List.length_nil, Nat.zero_add, List.drop_zero, List.take_succ_cons, List.take_zero, List.append_nil, Nat.lt_add_one, ↓reduceIte, Nat.le_refl, T_55, T_61, pt_55, cellOk]
  refine m77 c1 _ _ _ u1 I1 _ (t1.keep fun i hi => by rw [Heap.upd_ne _ _ (by have := il1 i hi; omega)]) (by omega) (by omega) fun y1 g1 n1 hn1 ty1 fr1 hH1 => ?_
  refine hK1 _ _ _ ?_
  clear hK1 K1
  have box1 : g1 n = some [.agg [.int .i64 a.code, u1]] := by rw [fr1 n nn1, Heap.upd_same]
  refine WP.seq_k fun K1 hK1 => WP.region hT rfl ?_
  simp only [↓opsA, ↓stepA, ↓callA, ev, Env.get_put_some, ↓e_move, ↓e_assign, ↓thenA, reduceIte, ↓reduceIte]
  refine hK1 _ _ _ ?_
  clear hK1 K1
  refine WP.ret ?_
  simp only [Env.get_put_some, reduceIte, Option.map_some, ↓reduceIte, retA, resA]
  let g : Heap := fun id => if id = n then none else g1 id
  have g0 : ∀ id, id ≠ n → g id = g1 id := fun id hid => by simp only [g]; rw [if_neg hid]
  refine ⟨_, rfl, _, g, n1, .keep _ _ _ _ (fun id x hx => ?_), ?_⟩
  · simp only [g] at hx
    split at hx
    · cases hx
    · exact hx
  have hfin := hK (.agg [.int .i64 a.code, y1]) g n1 (by omega) (.agg _ _ _ (TreeL.cons _ _ _ _ _ _ (Tree.ofPlain1 rfl) (TreeL.cons _ _ _ _ _ _ (ty1.keep fun i hi => g0 i (by have := il1 i hi; omega)) TreeL.nil d1) d0)) (fun id hid => ?_) ⟨.int .i64 a.code, y1, _, rfl, rfl, hH1⟩
  · have he : k + (wtByteSS a.parts : Nat) = k + ((wsPartsResult a : Nat) : Int) := by unfold wsPartsResult; omega
    simp only [resV]
    rw [he]; exact hfin
  · by_cases hn : id = n
    · subst hn
      simp only [g, if_true]
      exact (Heap.below.none hlt (Nat.le_refl _)).symm
    · rw [g0 id hn, fr1 id (fun hm => hid (by simp [hm])), Heap.upd_ne _ _ hn]

theorem h43 {x : AV} {w : Nat} {k : Int} (hk0 : 0 ≤ k) (hkw : k + w ≤ 4611686018427387904) (hx : HsPartsResult x w k) : HeldBy Try.prog 43 x w k := by
  obtain ⟨y0, y1, w1, rfl, hw, c1⟩ := hx
  rw [hw] at hkw ⊢
  intro h n K hK
  have z1 := one_cells c1.isOne
  refine CA.conv (CA.enter (N := 12) (rs := [.tmp 4]) hT Try.call43 Try.func43 rfl rfl (by simp) rfl fun hlt => ?_)
  refine WP.seq_k fun K1 hK1 => WP.region hT rfl ?_
  simp only [↓opsA, ↓stepA, ↓callA, ev, Env.get_envOf, ↓e_assign, ↓e_box, ofVal, ↓thenA, Nat.pos_of_neZero, good_agg, AV.cells_agg, Nat.reduceAdd, true_and, List.getElem?_cons_zero, Option.getD_some, List.length_cons, List.length_nil, Nat.zero_add, T_61]
  refine hK1 _ _ _ ?_
  clear hK1 K1
  refine WP.seq_k fun K1 hK1 => WP.region hT rfl ?_
  simp only [↓opsA, ↓stepA, ↓callA, List.map_cons, List.map_nil, ev, Env.get_put_some, Env.get_envOf, ↓e_move, ↓e_assign, ↓e_load, ↓e_fieldAddr, rdSl_sl, ↓thenA, Heap.upd_get, AV.cells_agg, reduceIte, Nat.reduceEqDiff, true_and, List.getElem?_cons_zero, List.getElem?_cons_succ, Option.getD_some, List.length_cons, List.length_nil, Nat.zero_add, List.drop_zero, List.take_succ_cons, List.take_zero, List.append_nil, Nat.lt_add_one, ↓reduceIte, Nat.le_refl, T_55, T_61, pt_55, cellOk]
  refine h79 (by omega) (by omega) c1 _ _ _ (hK1 _ _ _ ?_)
  clear hK1 K1
  refine WP.seq_k fun K3 hK3 => ?_
  refine WP.seq_k fun K1 hK1 => WP.region hT rfl ?_
  simp only [↓opsA, ↓stepA, ↓callA, ev, Env.get_put_some, ↓e_move, ↓e_binOp, b_lss, ofVal, ↓thenA, reduceIte, ↓reduceIte]
  refine hK1 _ _ _ ?_
  clear hK1 K1
  refine WP.cond (by simp only [ev, Env.get_put_some, ↓reduceIte]; rfl) (fun hc => ?_) (fun hc => ?_)
  · simp at hc; omega
  refine WP.skip (hK3 _ _ _ ?_)
  clear hK3 K3 hc
  refine WP.seq_k fun K1 hK1 => WP.region hT rfl ?_
  simp only [↓opsA, ↓stepA, ↓callA, ev, Env.get_put_some, ↓e_move, ↓e_assign, ↓thenA, reduceIte, Nat.reduceEqDiff, ↓reduceIte]
  refine hK1 _ _ _ ?_
  clear hK1 K1
  refine WP.ret ?_
  simp only [Env.get_put_some, reduceIte, Option.map_some, ↓reduceIte, retA, resA]
  refine ⟨_, rfl, ret_p (Left.upd (Nat.le_refl _) (Left.refl hlt)) (.int _ _) ?_⟩
  have he : k + (w1 : Nat) = k + ((w1 : Nat) : Int) := by omega
  simp only [resV]
  rw [he]
  exact hK

end
end Go.Proofs.Ytplkjfnjdekgpaa
