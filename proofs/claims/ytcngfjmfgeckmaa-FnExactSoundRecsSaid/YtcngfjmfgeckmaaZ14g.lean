import Derived.Test.YtcngfjmfgeckmaaZ14f
set_option linter.unusedSimpArgs false
set_option linter.unusedVariables false
set_option linter.unusedSectionVars false
section
namespace Go.Proofs.Ytcngfjmfgeckmaa
open Go
set_option linter.unusedSimpArgs false
set_option linter.unusedVariables false
set_option maxRecDepth 20000
attribute [local irreducible] IntKind.wrap bitA
section
variable {h : Heap} {n : Nat} {K : AV → Heap → Nat → Prop}
theorem op_slice_sl {T : TE} {e : Operand → AV} {t el : TypeId} {x : Operand} {lo hi mx : Option Operand} {sz id off len lo' : Nat} {ex : Bool} (i j m : Nat) (hx : e x = .sl sz id off len lo' ex) (ht : (T t).ty = .slice el) (hsz : sz = (T el).sz) (hp : 0 < sz)
    (hmx : mx.isSome = true → hi.isSome = true) (h1 : bnd (lo.map e) 0 i) (h2 : bnd (hi.map e) len j) (h3 : bnd (mx.map e) lo' m) (hij : i ≤ j) (hjm : j ≤ m) (hm : m ≤ lo') (hk : K (.sl sz id (off + i) (j - i) (m - i) (if mx.isSome then true else ex)) h n) :
    opP T (.slice t x lo hi mx) e h n K := by
  unfold opP
  simp only [hx]
  exact ⟨el, ht, hsz ▸ hp, hmx, hsz, i, j, m, h1, h2, h3, hij, hjm, hm, by simpa using hk⟩
theorem op_slice_nils {T : TE} {e : Operand → AV} {t el : TypeId} {x : Operand} {lo hi mx : Option Operand} (hx : e x = .nils) (ht : (T t).ty = .slice el) (hp : 0 < (T el).sz)
    (hmx : mx.isSome = true → hi.isSome = true) (h1 : bnd (lo.map e) 0 0) (h2 : bnd (hi.map e) 0 0) (h3 : bnd (mx.map e) 0 0) (hk : K .nils h n) :
    opP T (.slice t x lo hi mx) e h n K := by
  unfold opP
  simp only [hx]
  exact ⟨el, ht, hp, hmx, h1, h2, h3, hk⟩
theorem rdSl_part {h : Heap} {sz sz' id off len lo : Nat} {ex : Bool} {b r : List AV} (hs : sz = sz') (hb : h id = some b) (hle : off + len ≤ b.length) (hr : (b.drop off).take len = r) : rdSl h sz (.sl sz' id off len lo ex) = some r := by
  subst hs
  rw [rdSl_sl, hb, ← hr]
  exact if_pos hle
theorem c110 {id len i j : Nat} {ex : Bool} {es : List AV} (hid : id < n) (hb : h id = some es) (hlen : es.length = len) (hij : i ≤ j) (hj : j ≤ len) (hm : len * 16 ≤ 140737488355328)
    (hk : K (.sl 2 id 0 (i + (len - j)) (i + (len - j)) false) (h.upd id (es.take i ++ es.drop j)) n) : CA Try.prog 110 [.sl 2 id 0 len len ex, .int .i64 i, .int .i64 j] h n K := by
  refine CA.trim (CA.conv (CA.enter (N := 33) (rs := [.tmp 6]) hT Try.call110 Try.func110 rfl rfl (by simp) rfl fun hlt => ?_))
  have htl : List.take len es = es := List.take_of_length_le (Nat.le_of_eq hlen)
  refine WP.seq_k fun K0 hK0 => ?_
  refine WP.region hT rfl ?_
  simp only [go_sem, ↓reduceIte, reduceCtorEq, Nat.reduceEqDiff, Nat.reduceLT, Nat.reduceLeDiff, Nat.reduceAdd, Nat.reduceMul, Int.reduceLE]
  refine hK0 _ _ _ ?_
  clear hK0 K0
  refine WP.seq_k fun K1 hK1 => ?_
  refine WP.region hT rfl ?_
  simp only [go_sem, ↓reduceIte, reduceCtorEq, Nat.reduceEqDiff, Nat.reduceLT, Nat.reduceLeDiff, Nat.reduceAdd, Nat.reduceMul, Int.reduceLE, hb, htl, hlen]
  refine op_slice_sl i j len rfl rfl rfl (by decide) (fun _ => rfl) ⟨Int.natCast_nonneg _, rfl⟩ ⟨Int.natCast_nonneg _, rfl⟩ ⟨Int.natCast_nonneg _, rfl⟩ hij hj (Nat.le_refl _) ?_
  unfold sealK
  simp only [go_sem, ↓reduceIte, reduceCtorEq, Nat.reduceEqDiff, Nat.reduceLT, Nat.reduceLeDiff, Nat.reduceAdd, Nat.reduceMul, Int.reduceLE]
  refine hK1 _ _ _ ?_
  clear hK1 K1
  refine WP.seq_k fun K2 hK2 => ?_
  refine WP.seq_k fun K3 hK3 => ?_
  refine WP.region hT rfl ?_
  simp only [go_sem, ↓reduceIte, reduceCtorEq, Nat.reduceEqDiff, Nat.reduceLT, Nat.reduceLeDiff, Nat.reduceAdd, Nat.reduceMul, Int.reduceLE]
  refine hK3 _ _ _ ?_
  clear hK3 K3
  refine WP.cond (t := decide ((i : Int) = j)) (by kernel_rfl) (fun hc0 => ?_) (fun hc0 => ?_)
  · have hij2 : i = j := Int.ofNat.inj (of_decide_eq_true hc0)
    subst hij2
    refine WP.seq_k fun K4 hK4 => ?_
    refine WP.region hT rfl ?_
    simp only [go_sem, ↓reduceIte, reduceCtorEq, Nat.reduceEqDiff, Nat.reduceLT, Nat.reduceLeDiff, Nat.reduceAdd, Nat.reduceMul, Int.reduceLE]
    refine hK4 _ _ _ ?_
    clear hK4 K4
    refine WP.ret ?_
    refine ⟨_, rfl, _, _, _, .keep _ _ _ _ (fun _ _ h => h), 2, id, len, len, ex, es, rfl, hb, Nat.le_of_eq hlen.symm, ?_⟩
    have e1 : i + (len - i) = len := by omega
    rw [e1, List.take_append_drop] at hk
    rw [List.take_of_length_le (Nat.le_of_eq hlen)]
    exact hk
  have hne : i ≠ j := fun hq => of_decide_eq_false hc0 (congrArg Int.ofNat hq)
  refine WP.skip ?_
  simp only [go_sem, ↓reduceIte, reduceCtorEq, Nat.reduceEqDiff, Nat.reduceLT, Nat.reduceLeDiff, Nat.reduceAdd, Nat.reduceMul, Int.reduceLE]
  refine hK2 _ _ _ ?_
  clear hK2 K2
  refine WP.seq_k fun K5 hK5 => ?_
  refine WP.region hT rfl ?_
  simp only [go_sem, ↓reduceIte, reduceCtorEq, Nat.reduceEqDiff, Nat.reduceLT, Nat.reduceLeDiff, Nat.reduceAdd, Nat.reduceMul, Int.reduceLE, hb, htl, hlen]
  refine hK5 _ _ _ ?_
  clear hK5 K5
  refine WP.seq_k fun K6 hK6 => ?_
  refine WP.drawL hT hM [(0, 0), (1, 0), (2, 0), (3, 0), (4, 0), (5, 0), (6, 2), (7, 0)] [6] Heap.emp (by kernel_rfl) rfl (Heap.Sub.emp _) fun _ => ?_
  simp only [go_sem, ↓reduceIte, reduceCtorEq, Nat.reduceEqDiff, Nat.reduceLT, Nat.reduceLeDiff, Nat.reduceAdd, Nat.reduceMul, Int.reduceLE]
  refine op_slice_sl 0 i len rfl rfl rfl (by decide) (fun hq => by cases hq) rfl ⟨Int.natCast_nonneg _, rfl⟩ rfl (Nat.zero_le _) (Nat.le_trans hij hj) (Nat.le_refl _) ?_
  unfold sealK
  simp only [go_sem, ↓reduceIte, reduceCtorEq, Nat.reduceEqDiff, Nat.reduceLT, Nat.reduceLeDiff, Nat.reduceAdd, Nat.reduceMul, Int.reduceLE]
  refine op_slice_sl j len len rfl rfl rfl (by decide) (fun hq => by cases hq) ⟨Int.natCast_nonneg _, rfl⟩ rfl rfl hj (Nat.le_refl _) (Nat.le_refl _) ?_
  unfold sealK
  simp only [go_sem, ↓reduceIte, reduceCtorEq, Nat.reduceEqDiff, Nat.reduceLT, Nat.reduceLeDiff, Nat.reduceAdd, Nat.reduceMul, Int.reduceLE]
  have hd : List.take (len - j) (es.drop j) = es.drop j := List.take_of_length_le (by rw [List.length_drop, hlen]; exact Nat.le_refl _)
  have hdl : (es.drop j).length = len - j := by rw [List.length_drop, hlen]
  refine ⟨123, rfl, es.drop j, rdSl_part rfl hb (by omega) hd, by decide, rfl, ?_, ?_, es, hb, ?_, ?_⟩
  · rw [hdl]; show (i - 0 + (len - j)) * 16 ≤ _; omega
  · rw [hdl]; omega
  · omega
  rw [if_pos (by rw [hdl]; omega), hdl]
  unfold sealK
  simp only [go_sem, ↓reduceIte, reduceCtorEq, Nat.reduceEqDiff, Nat.reduceLT, Nat.reduceLeDiff, Nat.reduceAdd, Nat.reduceMul, Int.reduceLE, Nat.sub_zero, Nat.zero_add]
  refine hK6 _ _ _ ?_
  clear hK6 K6
  obtain ⟨k, hk0⟩ : ∃ k, k = i + (len - j) := ⟨_, rfl⟩
  obtain ⟨B, hB0⟩ : ∃ B, B = es.take i ++ es.drop j ++ es.drop (i + (len - j)) := ⟨_, rfl⟩
  rw [← hB0, ← hk0]
  have hBl : B.length = len := by rw [hB0]; simp only [List.length_append, List.length_take, List.length_drop, hlen]; omega
  have hkl : k ≤ len := by omega
  have hb2 : (h.upd id B) id = some B := Heap.upd_same _ _ _
  have hBk : (B.take k).length = k := by rw [List.length_take, hBl]; omega
  refine WP.seq_k fun K7 hK7 => ?_
  refine WP.region hT rfl ?_
  simp only [go_sem, ↓reduceIte, reduceCtorEq, Nat.reduceEqDiff, Nat.reduceLT, Nat.reduceLeDiff, Nat.reduceAdd, Nat.reduceMul, Int.reduceLE, rdSl_part rfl hb2 (show 0 + k ≤ B.length from by omega) (show List.take k (List.drop 0 B) = List.take k B from rfl), hBk]
  refine op_slice_sl k len len rfl rfl rfl (by decide) (fun hq => by cases hq) ⟨Int.natCast_nonneg _, rfl⟩ ⟨Int.natCast_nonneg _, rfl⟩ rfl hkl (Nat.le_refl _) (Nat.le_refl _) ?_
  unfold sealK
  simp only [go_sem, ↓reduceIte, reduceCtorEq, Nat.reduceEqDiff, Nat.reduceLT, Nat.reduceLeDiff, Nat.reduceAdd, Nat.reduceMul, Int.reduceLE]
  refine ⟨123, rfl, by decide, rfl, B, hb2, by omega, ?_⟩
  unfold sealK
  simp only [go_sem, ↓reduceIte, reduceCtorEq, Nat.reduceEqDiff, Nat.reduceLT, Nat.reduceLeDiff, Nat.reduceAdd, Nat.reduceMul, Int.reduceLE]
  refine hK7 _ _ _ ?_
  clear hK7 K7
  refine WP.seq_k fun K8 hK8 => ?_
  refine WP.region hT rfl ?_
  simp only [go_sem, ↓reduceIte, reduceCtorEq, Nat.reduceEqDiff, Nat.reduceLT, Nat.reduceLeDiff, Nat.reduceAdd, Nat.reduceMul, Int.reduceLE]
  refine hK8 _ _ _ ?_
  clear hK8 K8
  refine WP.ret ?_
  have hfin : ∀ z : AV, List.take k (List.take k B ++ List.replicate (len - k) z ++ List.drop (k + (len - k)) B) = es.take i ++ es.drop j := fun z => by
    rw [List.append_assoc, List.take_left' hBk, hB0, List.take_left' (by simp only [List.length_append, List.length_take, List.length_drop, hlen]; omega)]
  refine ⟨_, rfl, _, _, _, .keep _ _ _ _ (fun _ _ h => h), 2, id, k, len, _, _, rfl, Heap.upd_same _ _ _, ?_, ?_⟩
  · simp only [List.length_append, hBk]; omega
  rw [hfin, Heap.upd_upd, Heap.upd_upd, hk0]
  exact hk
def insA (es : List AV) (i : Nat) (v : AV) : List AV := es.take i ++ [v] ++ es.drop i
theorem delUpd_sub {h : Heap} {id n : Nat} (b : List AV) : ∀ j c, ((h.del id).upd n b) j = some c → (h.upd n b) j = some c := fun j c hq => by
  unfold Heap.upd at hq ⊢
  split
  · rename_i hj; rw [if_pos hj] at hq; exact hq
  · rename_i hj
    rw [if_neg hj] at hq
    unfold Heap.del at hq
    split at hq
    · cases hq
    · exact hq
theorem del_upd_same {h : Heap} {id : Nat} (b : List AV) : (h.upd id b).del id = h.del id := by
  funext x
  unfold Heap.del Heap.upd
  split
  · rfl
  · rename_i hx; rfl
theorem c109i {id id2 len cap i : Nat} {es : List AV} {v : AV} {ex2 : Bool} (hid : id < n) (hid2 : id2 < n) (hne : id2 ≠ id) (hb : h id = some es) (hl : es.length = len) (hlen : len ≤ cap) (hcm : cap ≤ maxLen) (hb2 : h id2 = some [v]) (hlt2 : i < len) (hm : (len + 1) * 16 ≤ 140737488355328)
    (hkI : K (.sl 2 id 0 (len + 1) (len + 1) false) (h.upd id (insA es i v)) n) (hkG : K (.sl 2 n 0 (len + 1) (len + 1) false) ((h.del id).upd n (insA es i v)) (n + 1)) :
    CA Try.prog 109 [.sl 2 id 0 len cap true, .int .i64 i, .sl 2 id2 0 1 1 ex2] h n K := by
  have hi : i ≤ len := Nat.le_of_lt hlt2
  have hw1 : IntKind.i64.wrap ((len : Int) + ((1 : Nat) : Int)) = ((len + 1 : Nat) : Int) := wrap_in (by omega) (by omega)
  refine CA.trim (CA.conv (CA.enter (N := 95) (rs := [.tmp 6]) hT Try.call109 Try.func109 rfl rfl (by simp) rfl fun hlt => ?_))
  refine WP.seq_k fun K0 hK0 => ?_
  refine WP.region hT rfl ?_
  simp only [go_sem, ↓reduceIte, reduceCtorEq, Nat.reduceEqDiff, Nat.reduceLT, Nat.reduceLeDiff, Nat.reduceAdd, Nat.reduceMul, Int.reduceLE]
  refine hK0 _ _ _ ?_
  clear hK0 K0
  refine WP.seq_k fun K1 hK1 => ?_
  refine WP.region hT rfl ?_
  simp only [go_sem, ↓reduceIte, reduceCtorEq, Nat.reduceEqDiff, Nat.reduceLT, Nat.reduceLeDiff, Nat.reduceAdd, Nat.reduceMul, Int.reduceLE]
  refine op_slice_sl i len cap rfl rfl rfl (by decide) (fun hq => by cases hq) ⟨Int.natCast_nonneg _, rfl⟩ rfl rfl hi hlen (Nat.le_refl _) ?_
  unfold sealK
  simp only [go_sem, ↓reduceIte, reduceCtorEq, Nat.reduceEqDiff, Nat.reduceLT, Nat.reduceLeDiff, Nat.reduceAdd, Nat.reduceMul, Int.reduceLE]
  refine hK1 _ _ _ ?_
  clear hK1 K1
  have hr0 : rdSl h 2 (.sl 2 id 0 len cap true) = some es := rdSl_part rfl hb (by omega) (List.take_of_length_le (Nat.le_of_eq hl))
  have hr2 : rdSl h 2 (.sl 2 id2 0 1 1 ex2) = some [v] := rdSl_part rfl hb2 (Nat.le_refl 1) rfl
  refine WP.seq_k fun K2 hK2 => ?_
  refine WP.region hT rfl ?_
  simp only [go_sem, ↓reduceIte, reduceCtorEq, Nat.reduceEqDiff, Nat.reduceLT, Nat.reduceLeDiff, Nat.reduceAdd, Nat.reduceMul, Int.reduceLE, hr2]
  refine hK2 _ _ _ ?_
  clear hK2 K2
  refine WP.seq_k fun K3 hK3 => ?_
  refine WP.seq_k fun K4 hK4 => ?_
  refine WP.region hT rfl ?_
  simp only [go_sem, ↓reduceIte, reduceCtorEq, Nat.reduceEqDiff, Nat.reduceLT, Nat.reduceLeDiff, Nat.reduceAdd, Nat.reduceMul, Int.reduceLE]
  refine hK4 _ _ _ ?_
  clear hK4 K4
  refine WP.cond (t := false) (by kernel_rfl) (fun hc0 => nomatch hc0) (fun hc0 => ?_)
  refine WP.skip ?_
  simp only [go_sem, ↓reduceIte, reduceCtorEq, Nat.reduceEqDiff, Nat.reduceLT, Nat.reduceLeDiff, Nat.reduceAdd, Nat.reduceMul, Int.reduceLE]
  refine hK3 _ _ _ ?_
  clear hK3 K3
  refine WP.seq_k fun K6 hK6 => ?_
  refine WP.region hT rfl ?_
  simp only [go_sem, ↓reduceIte, reduceCtorEq, Nat.reduceEqDiff, Nat.reduceLT, Nat.reduceLeDiff, Nat.reduceAdd, Nat.reduceMul, Int.reduceLE, hr0, hl]
  refine hK6 _ _ _ ?_
  clear hK6 K6
  refine WP.seq_k fun K7 hK7 => ?_
  refine WP.seq_k fun K8 hK8 => ?_
  refine WP.region hT rfl ?_
  simp only [go_sem, ↓reduceIte, reduceCtorEq, Nat.reduceEqDiff, Nat.reduceLT, Nat.reduceLeDiff, Nat.reduceAdd, Nat.reduceMul, Int.reduceLE]
  refine hK8 _ _ _ ?_
  clear hK8 K8
  refine WP.cond (t := decide ((i : Int) = len)) (by kernel_rfl) (fun hc1 => absurd (Int.ofNat.inj (of_decide_eq_true hc1)) (Nat.ne_of_lt hlt2)) (fun hc1 => ?_)
  refine WP.skip ?_
  simp only [go_sem, ↓reduceIte, reduceCtorEq, Nat.reduceEqDiff, Nat.reduceLT, Nat.reduceLeDiff, Nat.reduceAdd, Nat.reduceMul, Int.reduceLE]
  refine hK7 _ _ _ ?_
  clear hK7 K7
  refine WP.seq_k fun K10 hK10 => ?_
  refine WP.seq_k fun K11 hK11 => ?_
  refine WP.region hT rfl ?_
  simp only [go_sem, ↓reduceIte, reduceCtorEq, Nat.reduceEqDiff, Nat.reduceLT, Nat.reduceLeDiff, Nat.reduceAdd, Nat.reduceMul, Int.reduceLE, hw1]
  refine ⟨123, rfl, rfl, ?_⟩
  unfold sealK
  simp only [go_sem, ↓reduceIte, reduceCtorEq, Nat.reduceEqDiff, Nat.reduceLT, Nat.reduceLeDiff, Nat.reduceAdd, Nat.reduceMul, Int.reduceLE, hw1]
  refine hK11 _ _ _ ?_
  clear hK11 K11
  refine WP.cond (t := decide ((cap : Int) < ((len + 1 : Nat) : Int))) (by kernel_rfl) (fun hc2 => ?_) (fun hc2 => ?_)
  · have hcl : cap < len + 1 := Int.ofNat_lt.1 (of_decide_eq_true hc2)
    have hw2 : IntKind.i64.wrap (((len + 1 : Nat) : Int) - i) = ((len + 1 - i : Nat) : Int) := by rw [wrap_in (by omega) (by omega)]; omega
    refine WP.seq_k fun K12 hK12 => ?_
    refine WP.hatchK hT 8 rfl rfl rfl (opx_growZ hT rfl) ?_
    simp only [go_sem, ↓reduceIte, reduceCtorEq, Nat.reduceEqDiff, Nat.reduceLT, Nat.reduceLeDiff, Nat.reduceAdd, Nat.reduceMul, Int.reduceLE, hw1]
    refine op_slice_sl 0 i cap rfl rfl rfl (by decide) (fun hq => by cases hq) rfl ⟨Int.natCast_nonneg _, rfl⟩ rfl (Nat.zero_le _) (by omega) (Nat.le_refl _) ?_
    unfold sealK
    simp only [go_sem, ↓reduceIte, reduceCtorEq, Nat.reduceEqDiff, Nat.reduceLT, Nat.reduceLeDiff, Nat.reduceAdd, Nat.reduceMul, Int.reduceLE, hw1, hw2, Nat.sub_zero]
    unfold hatchX
    have hti : (es.take i).length = i := by rw [List.length_take, hl]; omega
    refine ⟨.i64, len + 1 - i, rfl, ?_⟩
    unfold growZ
    refine ⟨123, es.take i, cap, rfl, ⟨.i64, rfl⟩, by decide, rdSl_part rfl hb (by omega) rfl, rfl, ?_, ?_, ?_, fun cap2 hge hle => ?_⟩
    · rw [hti]; omega
    · rw [hti]; show (i + (len + 1 - i)) * 16 ≤ _; omega
    · rw [hti]; omega
    rw [hti] at hge ⊢
    rw [show i + (len + 1 - i) = len + 1 from by omega] at hge ⊢
    obtain ⟨B, hB0⟩ : ∃ B, B = es.take i ++ List.replicate (len + 1 - i) (AV.agg [.int .i64 0, .int .i64 0]) ++ List.replicate (cap2 - (len + 1)) (AV.agg [.int .i64 0, .int .i64 0]) := ⟨_, rfl⟩
    have hBl : B.length = cap2 := by rw [hB0]; simp only [List.length_append, hti, List.length_replicate]; omega
    have hBi : B.take i = es.take i := by rw [hB0, List.append_assoc, List.take_left' hti]
    unfold hatchY
    simp only [go_sem, ↓reduceIte, reduceCtorEq, Nat.reduceEqDiff, Nat.reduceLT, Nat.reduceLeDiff, Nat.reduceAdd, Nat.reduceMul, Int.reduceLE, ← hB0]
    refine hK12 _ _ _ ?_
    clear hK12 K12
    have hbn : (h.upd n B) n = some B := Heap.upd_same _ _ _
    refine WP.seq_k fun K13 hK13 => ?_
    refine WP.region hT rfl ?_
    simp only [go_sem, ↓reduceIte, reduceCtorEq, Nat.reduceEqDiff, Nat.reduceLT, Nat.reduceLeDiff, Nat.reduceAdd, Nat.reduceMul, Int.reduceLE]
    have hv : List.take (len + 1 - i) [v] = [v] := List.take_of_length_le (show 1 ≤ len + 1 - i from by omega)
    have hb2n : ∀ C, (h.upd n C) id2 = some [v] := fun C => (Heap.upd_lt h C hid2).trans hb2
    have hbC : ∀ C, (h.upd n C) id = some es := fun C => (Heap.upd_lt h C hid).trans hb
    refine op_slice_sl i (len + 1) cap2 rfl rfl rfl (by decide) (fun hq => by cases hq) ⟨Int.natCast_nonneg _, rfl⟩ rfl rfl (by omega) hge (Nat.le_refl _) ?_
    unfold sealK
    simp only [go_sem, ↓reduceIte, reduceCtorEq, Nat.reduceEqDiff, Nat.reduceLT, Nat.reduceLeDiff, Nat.reduceAdd, Nat.reduceMul, Int.reduceLE]
    refine .inl ⟨123, rfl, [v], rdSl_part rfl (hb2n B) (Nat.le_refl 1) rfl, by decide, rfl, B, hbn, by omega, ?_⟩
    obtain ⟨B1, hB1⟩ : ∃ B1, B1 = List.take i B ++ [v] ++ List.drop (i + 1) B := ⟨_, rfl⟩
    have hBi1 : (B.take i).length = i := by rw [hBi, hti]
    have hB1l : B1.length = cap2 := by rw [hB1]; simp only [List.length_append, hBi1, List.length_cons, List.length_nil, List.length_drop]; omega
    have hB1i : B1.take (i + 1) = es.take i ++ [v] := by rw [hB1, List.take_left' (by simp only [List.length_append, hBi1, List.length_cons, List.length_nil]), hBi]
    unfold sealK
    simp only [go_sem, ↓reduceIte, reduceCtorEq, Nat.reduceEqDiff, Nat.reduceLT, Nat.reduceLeDiff, Nat.reduceAdd, Nat.reduceMul, Int.reduceLE, hv, ← hB1, Heap.upd_upd]
    refine hK13 _ _ _ ?_
    clear hK13 K13
    refine WP.seq_k fun K14 hK14 => ?_
    refine WP.drawL hT hM [(0, 0), (1, 0), (2, 0), (3, 0), (4, 0), (5, 0), (6, 0), (7, 0), (8, 2)] [8] Heap.emp (by kernel_rfl) rfl (Heap.Sub.emp _) fun _ => ?_
    have hw3 : IntKind.i64.wrap ((i : Int) + ((1 : Nat) : Int)) = ((i + 1 : Nat) : Int) := wrap_in (by omega) (by omega)
    simp only [go_sem, ↓reduceIte, reduceCtorEq, Nat.reduceEqDiff, Nat.reduceLT, Nat.reduceLeDiff, Nat.reduceAdd, Nat.reduceMul, Int.reduceLE, hw3]
    refine op_slice_sl (i + 1) (len + 1) cap2 rfl rfl rfl (by decide) (fun hq => by cases hq) ⟨Int.natCast_nonneg _, rfl⟩ rfl rfl (by omega) hge (Nat.le_refl _) ?_
    unfold sealK
    simp only [go_sem, ↓reduceIte, reduceCtorEq, Nat.reduceEqDiff, Nat.reduceLT, Nat.reduceLeDiff, Nat.reduceAdd, Nat.reduceMul, Int.reduceLE]
    refine op_slice_sl i len cap rfl rfl rfl (by decide) (fun hq => by cases hq) ⟨Int.natCast_nonneg _, rfl⟩ rfl rfl (by omega) hlen (Nat.le_refl _) ?_
    unfold sealK
    simp only [go_sem, ↓reduceIte, reduceCtorEq, Nat.reduceEqDiff, Nat.reduceLT, Nat.reduceLeDiff, Nat.reduceAdd, Nat.reduceMul, Int.reduceLE]
    refine .inl ⟨123, rfl, es.drop i, rdSl_part rfl (hbC B1) (by omega) (List.take_of_length_le (by rw [List.length_drop, hl]; exact Nat.le_refl _)), by decide, rfl, B1, Heap.upd_same _ _ _, by omega, ?_⟩
    unfold sealK
    simp only [go_sem, ↓reduceIte, reduceCtorEq, Nat.reduceEqDiff, Nat.reduceLT, Nat.reduceLeDiff, Nat.reduceAdd, Nat.reduceMul, Int.reduceLE, Heap.upd_upd]
    refine hK14 _ _ _ ?_
    clear hK14 K14
    refine WP.seq_k fun K15 hK15 => ?_
    refine WP.region hT rfl ?_
    simp only [go_sem, ↓reduceIte, reduceCtorEq, Nat.reduceEqDiff, Nat.reduceLT, Nat.reduceLeDiff, Nat.reduceAdd, Nat.reduceMul, Int.reduceLE]
    refine hK15 _ _ _ ?_
    clear hK15 K15
    refine WP.ret ?_
    have hdl : List.take (len + 1 - (i + 1)) (es.drop i) = es.drop i := List.take_of_length_le (by rw [List.length_drop, hl]; omega)
    refine ⟨_, rfl, _, (h.del id).upd n _, _, .keep _ _ _ _ (delUpd_sub _), 2, n, len + 1, cap2, true, _, rfl, Heap.upd_same _ _ _, ?_, ?_⟩
    · simp only [List.length_append, List.length_take, List.length_drop, hB1l, hl]; omega
    rw [Heap.upd_upd, hB1i, hdl, List.take_left' (by simp only [List.length_append, hti, List.length_cons, List.length_nil, List.length_drop, hl]; omega)]
    exact hkG
  have hcl : len + 1 ≤ cap := by
    have : ¬ (cap : Int) < ((len + 1 : Nat) : Int) := of_decide_eq_false hc2
    omega
  refine WP.skip ?_
  simp only [go_sem, ↓reduceIte, reduceCtorEq, Nat.reduceEqDiff, Nat.reduceLT, Nat.reduceLeDiff, Nat.reduceAdd, Nat.reduceMul, Int.reduceLE]
  refine hK10 _ _ _ ?_
  clear hK10 K10
  refine WP.seq_k fun K16 hK16 => ?_
  refine WP.region hT rfl ?_
  simp only [go_sem, ↓reduceIte, reduceCtorEq, Nat.reduceEqDiff, Nat.reduceLT, Nat.reduceLeDiff, Nat.reduceAdd, Nat.reduceMul, Int.reduceLE, hw1]
  refine op_slice_sl 0 (len + 1) cap rfl rfl rfl (by decide) (fun hq => by cases hq) rfl ⟨Int.natCast_nonneg _, rfl⟩ rfl (Nat.zero_le _) hcl (Nat.le_refl _) ?_
  unfold sealK
  simp only [go_sem, ↓reduceIte, reduceCtorEq, Nat.reduceEqDiff, Nat.reduceLT, Nat.reduceLeDiff, Nat.reduceAdd, Nat.reduceMul, Int.reduceLE, Nat.sub_zero]
  refine hK16 _ _ _ ?_
  clear hK16 K16
  have hw3 : IntKind.i64.wrap ((i : Int) + ((1 : Nat) : Int)) = ((i + 1 : Nat) : Int) := wrap_in (by omega) (by omega)
  refine WP.seq_k fun K17 hK17 => ?_
  refine WP.seq_k fun K18 hK18 => ?_
  refine WP.hatchK hT 6 rfl rfl rfl (opx_overlaps hT rfl rfl rfl Try.func137 rfl rfl rfl rfl rfl (by decide)) ?_
  simp only [go_sem, ↓reduceIte, reduceCtorEq, Nat.reduceEqDiff, Nat.reduceLT, Nat.reduceLeDiff, Nat.reduceAdd, Nat.reduceMul, Int.reduceLE, hw3]
  refine op_slice_sl (i + 1) (len + 1) cap rfl rfl rfl (by decide) (fun hq => by cases hq) ⟨Int.natCast_nonneg _, rfl⟩ rfl rfl (by omega) hcl (Nat.le_refl _) ?_
  unfold sealK
  simp only [go_sem, ↓reduceIte, reduceCtorEq, Nat.reduceEqDiff, Nat.reduceLT, Nat.reduceLeDiff, Nat.reduceAdd, Nat.reduceMul, Int.reduceLE]
  unfold hatchX
  refine ⟨2, id2, 0, 1, 1, ex2, 2, id, i + 1, len + 1 - (i + 1), cap - (i + 1), true, [v], es, rfl, ?_, hb2, hb, hne, by decide, by omega, by decide, ?_⟩
  · kernel_rfl
  unfold hatchY
  simp only [go_sem, ↓reduceIte, reduceCtorEq, Nat.reduceEqDiff, Nat.reduceLT, Nat.reduceLeDiff, Nat.reduceAdd, Nat.reduceMul, Int.reduceLE]
  refine hK18 _ _ _ ?_
  clear hK18 K18
  refine WP.cond (t := true) (by kernel_rfl) (fun hc3 => ?_) (fun hc3 => nomatch hc3)
  refine WP.seq_k fun K19 hK19 => ?_
  refine WP.drawL hT hM [(0, 0), (1, 0), (2, 0), (3, 0), (4, 0), (5, 0), (6, 0), (7, 0), (8, 2)] [8] Heap.emp (by kernel_rfl) rfl (Heap.Sub.emp _) fun _ => ?_
  simp only [go_sem, ↓reduceIte, reduceCtorEq, Nat.reduceEqDiff, Nat.reduceLT, Nat.reduceLeDiff, Nat.reduceAdd, Nat.reduceMul, Int.reduceLE, hw3]
  refine op_slice_sl (i + 1) (len + 1) cap rfl rfl rfl (by decide) (fun hq => by cases hq) ⟨Int.natCast_nonneg _, rfl⟩ rfl rfl (by omega) hcl (Nat.le_refl _) ?_
  unfold sealK
  simp only [go_sem, ↓reduceIte, reduceCtorEq, Nat.reduceEqDiff, Nat.reduceLT, Nat.reduceLeDiff, Nat.reduceAdd, Nat.reduceMul, Int.reduceLE]
  refine op_slice_sl i (len + 1) cap rfl rfl rfl (by decide) (fun hq => by cases hq) ⟨Int.natCast_nonneg _, rfl⟩ rfl rfl (by omega) hcl (Nat.le_refl _) ?_
  unfold sealK
  simp only [go_sem, ↓reduceIte, reduceCtorEq, Nat.reduceEqDiff, Nat.reduceLT, Nat.reduceLeDiff, Nat.reduceAdd, Nat.reduceMul, Int.reduceLE]
  have hdr : (es.drop i).length = len - i := by rw [List.length_drop, hl]
  have hti : (es.take i).length = i := by rw [List.length_take, hl]; omega
  have hmin : min (len + 1 - i) (len + 1 - (i + 1)) = len - i := by omega
  have hdt : List.take (len - i) (es.drop i) = es.drop i := List.take_of_length_le (Nat.le_of_eq hdr)
  have hdn : List.drop (i + 1 + (len - i)) es = [] := List.drop_of_length_le (by omega)
  obtain ⟨b1, hb1⟩ : ∃ b1, b1 = List.take (i + 1) es ++ es.drop i := ⟨_, rfl⟩
  have hb1l : b1.length = len + 1 := by rw [hb1]; simp only [List.length_append, List.length_take, List.length_drop, hl]; omega
  refine .inr ⟨123, id, i + 1, len + 1 - (i + 1), cap - (i + 1), true, id, i, len + 1 - i, cap - i, true, es, es, rfl, by decide, by kernel_rfl, by kernel_rfl, hb, by omega, hb, by omega, ?_⟩
  rw [hmin, hdt, hdn, List.append_nil, ← hb1]
  unfold sealK
  simp only [go_sem, ↓reduceIte, reduceCtorEq, Nat.reduceEqDiff, Nat.reduceLT, Nat.reduceLeDiff, Nat.reduceAdd, Nat.reduceMul, Int.reduceLE]
  refine hK19 _ _ _ ?_
  clear hK19 K19
  refine WP.seq_k fun K20 hK20 => ?_
  refine WP.region hT rfl ?_
  simp only [go_sem, ↓reduceIte, reduceCtorEq, Nat.reduceEqDiff, Nat.reduceLT, Nat.reduceLeDiff, Nat.reduceAdd, Nat.reduceMul, Int.reduceLE]
  refine op_slice_sl i (len + 1) cap rfl rfl rfl (by decide) (fun hq => by cases hq) ⟨Int.natCast_nonneg _, rfl⟩ rfl rfl (by omega) hcl (Nat.le_refl _) ?_
  unfold sealK
  simp only [go_sem, ↓reduceIte, reduceCtorEq, Nat.reduceEqDiff, Nat.reduceLT, Nat.reduceLeDiff, Nat.reduceAdd, Nat.reduceMul, Int.reduceLE]
  have hv : List.take (len + 1 - i) [v] = [v] := List.take_of_length_le (show 1 ≤ len + 1 - i from by omega)
  refine .inl ⟨123, rfl, [v], rdSl_part rfl ((Heap.upd_ne h b1 hne).trans hb2) (Nat.le_refl 1) rfl, by decide, rfl, b1, Heap.upd_same _ _ _, by omega, ?_⟩
  unfold sealK
  simp only [go_sem, ↓reduceIte, reduceCtorEq, Nat.reduceEqDiff, Nat.reduceLT, Nat.reduceLeDiff, Nat.reduceAdd, Nat.reduceMul, Int.reduceLE, hv, Heap.upd_upd]
  refine hK20 _ _ _ ?_
  clear hK20 K20
  refine WP.seq_k fun K21 hK21 => ?_
  refine WP.region hT rfl ?_
  simp only [go_sem, ↓reduceIte, reduceCtorEq, Nat.reduceEqDiff, Nat.reduceLT, Nat.reduceLeDiff, Nat.reduceAdd, Nat.reduceMul, Int.reduceLE]
  refine hK21 _ _ _ ?_
  clear hK21 K21
  refine WP.ret ?_
  have h1 : b1.take i = es.take i := by rw [hb1, List.take_append_of_le_length (by rw [List.length_take, hl]; omega), List.take_take, Nat.min_eq_left (Nat.le_succ i)]
  have h2 : b1.drop (i + 1) = es.drop i := by rw [hb1, List.drop_left' (by rw [List.length_take, hl]; omega)]
  have h3 : List.take i b1 ++ [v] ++ List.drop (i + 1) b1 = insA es i v := by rw [h1, h2]; rfl
  have h4 : (insA es i v).length = len + 1 := by unfold insA; simp only [List.length_append, hti, hdr, List.length_cons, List.length_nil]; omega
  refine ⟨_, rfl, _, _, _, .keep _ _ _ _ (fun _ _ h => h), 2, id, len + 1, cap, true, _, rfl, Heap.upd_same _ _ _, ?_, ?_⟩
  · simp only [List.length_append, List.length_take, List.length_drop, hb1l, List.length_cons, List.length_nil]; omega
  rw [Heap.upd_upd, List.take_of_length_le (by simp only [List.length_append, List.length_take, List.length_drop, hb1l, List.length_cons, List.length_nil]; omega)]
  rw [← h3] at hkI
  exact hkI
theorem c109e {id id2 len : Nat} {es : List AV} {v : AV} {ex ex2 : Bool} (hid : id < n) (hid2 : id2 < n) (hne : id2 ≠ id) (hb : h id = some es) (hl : es.length = len) (hb2 : h id2 = some [v]) (hm : (len + 1) * 16 ≤ 140737488355328)
    (hk : K (.sl 2 n 0 (len + 1) (len + 1) false) ((h.del id).upd n (es ++ [v])) (n + 1)) : CA Try.prog 109 [.sl 2 id 0 len len ex, .int .i64 len, .sl 2 id2 0 1 1 ex2] h n K := by
  have hw1 : IntKind.i64.wrap ((len : Int) + ((1 : Nat) : Int)) = ((len + 1 : Nat) : Int) := wrap_in (by omega) (by omega)
  refine CA.conv (CA.enter (N := 95) (rs := [.tmp 6]) hT Try.call109 Try.func109 rfl rfl (by simp) rfl fun hlt => ?_)
  refine WP.seq_k fun K0 hK0 => ?_
  refine WP.region hT rfl ?_
  simp only [go_sem, ↓reduceIte, reduceCtorEq, Nat.reduceEqDiff, Nat.reduceLT, Nat.reduceLeDiff, Nat.reduceAdd, Nat.reduceMul, Int.reduceLE]
  refine hK0 _ _ _ ?_
  clear hK0 K0
  refine WP.seq_k fun K1 hK1 => ?_
  refine WP.region hT rfl ?_
  simp only [go_sem, ↓reduceIte, reduceCtorEq, Nat.reduceEqDiff, Nat.reduceLT, Nat.reduceLeDiff, Nat.reduceAdd, Nat.reduceMul, Int.reduceLE]
  refine op_slice_sl len len len rfl rfl rfl (by decide) (fun hq => by cases hq) ⟨Int.natCast_nonneg _, rfl⟩ rfl rfl (Nat.le_refl _) (Nat.le_refl _) (Nat.le_refl _) ?_
  unfold sealK
  simp only [go_sem, ↓reduceIte, reduceCtorEq, Nat.reduceEqDiff, Nat.reduceLT, Nat.reduceLeDiff, Nat.reduceAdd, Nat.reduceMul, Int.reduceLE]
  refine hK1 _ _ _ ?_
  clear hK1 K1
  have hr0 : rdSl h 2 (.sl 2 id 0 len len ex) = some es := rdSl_part rfl hb (by omega) (List.take_of_length_le (Nat.le_of_eq hl))
  have hr2 : rdSl h 2 (.sl 2 id2 0 1 1 ex2) = some [v] := rdSl_part rfl hb2 (Nat.le_refl 1) rfl
  refine WP.seq_k fun K2 hK2 => ?_
  refine WP.region hT rfl ?_
  simp only [go_sem, ↓reduceIte, reduceCtorEq, Nat.reduceEqDiff, Nat.reduceLT, Nat.reduceLeDiff, Nat.reduceAdd, Nat.reduceMul, Int.reduceLE, hr2]
  refine hK2 _ _ _ ?_
  clear hK2 K2
  refine WP.seq_k fun K3 hK3 => ?_
  refine WP.seq_k fun K4 hK4 => ?_
  refine WP.region hT rfl ?_
  simp only [go_sem, ↓reduceIte, reduceCtorEq, Nat.reduceEqDiff, Nat.reduceLT, Nat.reduceLeDiff, Nat.reduceAdd, Nat.reduceMul, Int.reduceLE]
  refine hK4 _ _ _ ?_
  clear hK4 K4
  refine WP.cond (t := false) (by kernel_rfl) (fun hc0 => nomatch hc0) (fun hc0 => ?_)
  refine WP.skip ?_
  simp only [go_sem, ↓reduceIte, reduceCtorEq, Nat.reduceEqDiff, Nat.reduceLT, Nat.reduceLeDiff, Nat.reduceAdd, Nat.reduceMul, Int.reduceLE]
  refine hK3 _ _ _ ?_
  clear hK3 K3
  refine WP.seq_k fun K6 hK6 => ?_
  refine WP.region hT rfl ?_
  simp only [go_sem, ↓reduceIte, reduceCtorEq, Nat.reduceEqDiff, Nat.reduceLT, Nat.reduceLeDiff, Nat.reduceAdd, Nat.reduceMul, Int.reduceLE, hr0, hl]
  refine hK6 _ _ _ ?_
  clear hK6 K6
  refine WP.seq_k fun K7 hK7 => ?_
  refine WP.seq_k fun K8 hK8 => ?_
  refine WP.region hT rfl ?_
  simp only [go_sem, ↓reduceIte, reduceCtorEq, Nat.reduceEqDiff, Nat.reduceLT, Nat.reduceLeDiff, Nat.reduceAdd, Nat.reduceMul, Int.reduceLE]
  refine hK8 _ _ _ ?_
  clear hK8 K8
  refine WP.cond (t := true) (by kernel_rfl) (fun hc1 => ?_) (fun hc1 => nomatch hc1)
  refine WP.seq_k fun K9 hK9 => ?_
  refine WP.region hT rfl ?_
  simp only [go_sem, ↓reduceIte, reduceCtorEq, Nat.reduceEqDiff, Nat.reduceLT, Nat.reduceLeDiff, Nat.reduceAdd, Nat.reduceMul, Int.reduceLE]
  refine ⟨123, rfl, [v], hr2, by decide, rfl, by show (len + 1) * 16 ≤ _; exact hm, by show len + 1 ≤ _; omega, es, hb, by omega, ?_⟩
  have hte : List.take len (List.drop 0 es) = es := List.take_of_length_le (Nat.le_of_eq hl)
  rw [if_neg (show ¬ len + [v].length ≤ len from Nat.not_succ_le_self _), hte]
  have fin : ∀ H : Heap, (∀ j b, ((h.del id).upd n (es ++ [v])) j = some b → H j = some b) → ∃ r2 h2 n2, Conv n h (.sl 2 n 0 (len + 1) (len + 1) false) H (n + 1) r2 h2 n2 ∧ K r2 h2 n2 := fun H hH => ⟨_, _, _, .keep _ _ _ _ hH, hk⟩
  cases ex with
  | true =>
    rw [if_pos rfl]
    unfold sealK
    simp only [go_sem, ↓reduceIte, reduceCtorEq, Nat.reduceEqDiff, Nat.reduceLT, Nat.reduceLeDiff, Nat.reduceAdd, Nat.reduceMul, Int.reduceLE]
    refine hK9 _ _ _ ?_
    clear hK9 K9
    refine WP.ret ?_
    exact ⟨_, rfl, fin _ (delUpd_sub _)⟩
  | false =>
    rw [if_neg (by decide)]
    unfold sealK
    simp only [go_sem, ↓reduceIte, reduceCtorEq, Nat.reduceEqDiff, Nat.reduceLT, Nat.reduceLeDiff, Nat.reduceAdd, Nat.reduceMul, Int.reduceLE]
    refine hK9 _ _ _ ?_
    clear hK9 K9
    refine WP.ret ?_
    exact ⟨_, rfl, fin _ (fun _ _ h => h)⟩
theorem c109n {id2 : Nat} {v : AV} {ex2 : Bool} (hid2 : id2 < n) (hb2 : h id2 = some [v]) (hk : K (.sl 2 n 0 1 1 false) (h.upd n [v]) (n + 1)) : CA Try.prog 109 [.nils, .int .i64 0, .sl 2 id2 0 1 1 ex2] h n K := by
  refine CA.conv (CA.enter (N := 95) (rs := [.tmp 6]) hT Try.call109 Try.func109 rfl rfl (by simp) rfl fun hlt => ?_)
  refine WP.seq_k fun K0 hK0 => ?_
  refine WP.region hT rfl ?_
  simp only [go_sem, ↓reduceIte, reduceCtorEq, Nat.reduceEqDiff, Nat.reduceLT, Nat.reduceLeDiff, Nat.reduceAdd, Nat.reduceMul, Int.reduceLE]
  refine hK0 _ _ _ ?_
  clear hK0 K0
  refine WP.seq_k fun K1 hK1 => ?_
  refine WP.region hT rfl ?_
  simp only [go_sem, ↓reduceIte, reduceCtorEq, Nat.reduceEqDiff, Nat.reduceLT, Nat.reduceLeDiff, Nat.reduceAdd, Nat.reduceMul, Int.reduceLE]
  refine op_slice_nils rfl rfl (by decide) (fun hq => by cases hq) ⟨Int.le_refl _, rfl⟩ rfl rfl ?_
  unfold sealK
  simp only [go_sem, ↓reduceIte, reduceCtorEq, Nat.reduceEqDiff, Nat.reduceLT, Nat.reduceLeDiff, Nat.reduceAdd, Nat.reduceMul, Int.reduceLE]
  refine hK1 _ _ _ ?_
  clear hK1 K1
  have hr2 : rdSl h 2 (.sl 2 id2 0 1 1 ex2) = some [v] := rdSl_part rfl hb2 (Nat.le_refl 1) rfl
  refine WP.seq_k fun K2 hK2 => ?_
  refine WP.region hT rfl ?_
  simp only [go_sem, ↓reduceIte, reduceCtorEq, Nat.reduceEqDiff, Nat.reduceLT, Nat.reduceLeDiff, Nat.reduceAdd, Nat.reduceMul, Int.reduceLE, hr2]
  refine hK2 _ _ _ ?_
  clear hK2 K2
  refine WP.seq_k fun K3 hK3 => ?_
  refine WP.seq_k fun K4 hK4 => ?_
  refine WP.region hT rfl ?_
  simp only [go_sem, ↓reduceIte, reduceCtorEq, Nat.reduceEqDiff, Nat.reduceLT, Nat.reduceLeDiff, Nat.reduceAdd, Nat.reduceMul, Int.reduceLE]
  refine hK4 _ _ _ ?_
  clear hK4 K4
  refine WP.cond (t := false) (by kernel_rfl) (fun hc0 => nomatch hc0) (fun hc0 => ?_)
  refine WP.skip ?_
  simp only [go_sem, ↓reduceIte, reduceCtorEq, Nat.reduceEqDiff, Nat.reduceLT, Nat.reduceLeDiff, Nat.reduceAdd, Nat.reduceMul, Int.reduceLE]
  refine hK3 _ _ _ ?_
  clear hK3 K3
  refine WP.seq_k fun K6 hK6 => ?_
  refine WP.region hT rfl ?_
  simp only [go_sem, ↓reduceIte, reduceCtorEq, Nat.reduceEqDiff, Nat.reduceLT, Nat.reduceLeDiff, Nat.reduceAdd, Nat.reduceMul, Int.reduceLE]
  refine hK6 _ _ _ ?_
  clear hK6 K6
  refine WP.seq_k fun K7 hK7 => ?_
  refine WP.seq_k fun K8 hK8 => ?_
  refine WP.region hT rfl ?_
  simp only [go_sem, ↓reduceIte, reduceCtorEq, Nat.reduceEqDiff, Nat.reduceLT, Nat.reduceLeDiff, Nat.reduceAdd, Nat.reduceMul, Int.reduceLE]
  refine hK8 _ _ _ ?_
  clear hK8 K8
  refine WP.cond (t := true) (by kernel_rfl) (fun hc1 => ?_) (fun hc1 => nomatch hc1)
  refine WP.seq_k fun K9 hK9 => ?_
  refine WP.region hT rfl ?_
  simp only [go_sem, ↓reduceIte, reduceCtorEq, Nat.reduceEqDiff, Nat.reduceLT, Nat.reduceLeDiff, Nat.reduceAdd, Nat.reduceMul, Int.reduceLE]
  refine ⟨123, rfl, [v], hr2, by decide, (show 1 * 16 ≤ 140737488355328 from by decide), (show 1 ≤ 140737488355328 from by decide), ?_⟩
  rw [if_neg (by intro hq; cases hq)]
  unfold sealK
  simp only [go_sem, ↓reduceIte, reduceCtorEq, Nat.reduceEqDiff, Nat.reduceLT, Nat.reduceLeDiff, Nat.reduceAdd, Nat.reduceMul, Int.reduceLE]
  refine hK9 _ _ _ ?_
  clear hK9 K9
  refine WP.ret ?_
  exact ⟨_, rfl, _, _, _, .keep _ _ _ _ (fun _ _ h => h), hk⟩
theorem c109 {id id2 len i : Nat} {es : List AV} {v : AV} {ex ex2 : Bool} (hid : id < n) (hid2 : id2 < n) (hne : id2 ≠ id) (hb : h id = some es) (hl : es.length = len) (hb2 : h id2 = some [v]) (hi : i ≤ len) (hm : (len + 1) * 16 ≤ 140737488355328)
    (hk : K (.sl 2 n 0 (len + 1) (len + 1) false) ((h.del id).upd n (insA es i v)) (n + 1)) : CA Try.prog 109 [.sl 2 id 0 len len ex, .int .i64 i, .sl 2 id2 0 1 1 ex2] h n K := by
  by_cases hil : i = len
  · subst hil
    rw [show insA es i v = es ++ [v] from by unfold insA; rw [← hl, List.take_length, List.drop_length, List.append_nil]] at hk
    exact c109e hid hid2 hne hb hl hb2 hm hk
  · refine CA.wide Try.call109 fun cap hc1 hc2 => CA.rename (c109i hid hid2 hne hb hl hc1 hc2 hb2 (by omega) hm (.inr ⟨2, id, len + 1, len + 1, false, _, rfl, Heap.upd_same _ _ _, ?_⟩) (.inl hk))
    rw [del_upd_same]
    exact hk
def insL {α : Type} (bytes : Nat) (l : List α) (i : Int) (c : α) : Option (List α) := if 0 ≤ i ∧ i ≤ l.length ∧ (l.length + 1) * bytes ≤ 140737488355328 ∧ l.length + 1 ≤ 140737488355328 then some (l.take i.toNat ++ [c] ++ l.drop i.toNat) else none
def delL {α : Type} (bytes : Nat) (l : List α) (i j : Int) : Option (List α) := if 0 ≤ i ∧ i ≤ j ∧ j ≤ l.length ∧ l.length * bytes ≤ 140737488355328 ∧ l.length ≤ 140737488355328 then some (l.take i.toNat ++ l.drop j.toNat) else none
theorem insL_ok {α : Type} {R : AV → α → Prop} {bytes : Nat} {es : List AV} {v : AV} {l r : List α} {i : Int} {c : α} (hq : insL bytes l i c = some r) (ha : All2 R es l) (hv : R v c) :
    0 ≤ i ∧ i.toNat ≤ es.length ∧ (es.length + 1) * bytes ≤ 140737488355328 ∧ es.length + 1 ≤ 140737488355328 ∧ All2 R (insA es i.toNat v) r ∧ r.length = es.length + 1 ∧ (insA es i.toNat v).length = es.length + 1 := by
  unfold insL at hq
  split at hq
  · rename_i hc
    have hr := Option.some.inj hq
    have hl := all2_length ha
    have a2 : All2 R (insA es i.toNat v) r := by rw [← hr]; exact all2_app (all2_app (all2_take ha _) (.cons hv .nil)) (all2_drop ha _)
    have e1 : (insA es i.toNat v).length = es.length + 1 := by unfold insA; simp only [List.length_append, List.length_take, List.length_drop, List.length_cons, List.length_nil]; omega
    exact ⟨hc.1, by omega, by rw [hl]; exact hc.2.2.1, by rw [hl]; exact hc.2.2.2, a2, by rw [← all2_length a2, e1], e1⟩
  · cases hq
theorem delL_ok {α : Type} {R : AV → α → Prop} {bytes : Nat} {es : List AV} {l r : List α} {i j : Int} (hq : delL bytes l i j = some r) (ha : All2 R es l) :
    0 ≤ i ∧ i ≤ j ∧ j.toNat ≤ es.length ∧ es.length * bytes ≤ 140737488355328 ∧ All2 R (es.take i.toNat ++ es.drop j.toNat) r ∧ r.length = i.toNat + (es.length - j.toNat) ∧ (es.take i.toNat ++ es.drop j.toNat).length ≤ 140737488355328 := by
  unfold delL at hq
  split at hq
  · rename_i hc
    have hr := Option.some.inj hq
    have hl := all2_length ha
    have a2 : All2 R (es.take i.toNat ++ es.drop j.toNat) r := by rw [← hr]; exact all2_app (all2_take ha _) (all2_drop ha _)
    have e1 : (es.take i.toNat ++ es.drop j.toNat).length = i.toNat + (es.length - j.toNat) := by simp only [List.length_append, List.length_take, List.length_drop]; omega
    exact ⟨hc.1, hc.2.1, by omega, by rw [hl]; exact hc.2.2.2.1, a2, by rw [← all2_length a2, e1], by rw [e1]; omega⟩
  · cases hq
theorem d109 {id id2 len : Nat} {at_ : Int} {es : List AV} {v : AV} {ex ex2 : Bool} {l r : List CellD} {c : CellD} (hq : insL 16 l at_ c = some r) (ha : All2 CellR es l) (hv : CellR v c) (hid : id < n) (hid2 : id2 < n) (hne : id2 ≠ id) (hb : h id = some es) (hl : es.length = len) (hb2 : h id2 = some [v])
    (hk : ∀ es', All2 CellR es' r → es'.length ≤ 140737488355328 → K (.sl 2 n 0 r.length r.length false) ((h.del id).upd n es') (n + 1)) : CA Try.prog 109 [.sl 2 id 0 len len ex, .int .i64 at_, .sl 2 id2 0 1 1 ex2] h n K := by
  obtain ⟨h0, h1, h2, h3, h4, h5, h6⟩ := insL_ok hq ha hv
  subst hl
  have hk2 := hk _ h4 (by rw [h6]; exact h3)
  rw [h5] at hk2
  have := c109 (ex := ex) (ex2 := ex2) hid hid2 hne hb rfl hb2 h1 h2 hk2
  rw [Int.toNat_of_nonneg h0] at this
  exact this
theorem d109n {id2 : Nat} {at_ : Int} {v : AV} {ex2 : Bool} {r : List CellD} {c : CellD} (hq : insL 16 [] at_ c = some r) (hv : CellR v c) (hid2 : id2 < n) (hb2 : h id2 = some [v])
    (hk : ∀ es', All2 CellR es' r → es'.length ≤ 140737488355328 → K (.sl 2 n 0 r.length r.length false) (h.upd n es') (n + 1)) : CA Try.prog 109 [.nils, .int .i64 at_, .sl 2 id2 0 1 1 ex2] h n K := by
  obtain ⟨h0, h1, h2, h3, h4, h5, h6⟩ := insL_ok hq .nil hv
  have hz : at_ = 0 := by have : at_.toNat ≤ 0 := h1; omega
  subst hz
  have hk2 := hk _ h4 (by rw [h6]; exact h3)
  rw [h5] at hk2
  exact c109n hid2 hb2 hk2
theorem d110 {id len : Nat} {i j : Int} {es : List AV} {ex : Bool} {l r : List CellD} (hq : delL 16 l i j = some r) (ha : All2 CellR es l) (hid : id < n) (hb : h id = some es) (hl : es.length = len)
    (hk : ∀ es', All2 CellR es' r → es'.length ≤ 140737488355328 → K (.sl 2 id 0 r.length r.length false) (h.upd id es') n) : CA Try.prog 110 [.sl 2 id 0 len len ex, .int .i64 i, .int .i64 j] h n K := by
  obtain ⟨h0, h1, h2, h3, h4, h5, h6⟩ := delL_ok hq ha
  subst hl
  have hk2 := hk _ h4 h6
  rw [h5] at hk2
  have := c110 (ex := ex) hid hb rfl (show i.toNat ≤ j.toNat from by omega) h2 h3 hk2
  rw [Int.toNat_of_nonneg h0, Int.toNat_of_nonneg (Int.le_trans h0 h1)] at this
  exact this
theorem delL_nil {α : Type} {bytes : Nat} {i : Int} {r : List α} (hq : delL bytes ([] : List α) i (IntKind.i64.wrap (i + 1)) = some r) (hi : I64 i) : False := by
  unfold delL at hq
  split at hq
  · rename_i hc
    obtain ⟨a, b, c, _⟩ := hc
    have hz : i = 0 := by simp only [List.length_nil] at c; omega
    subst hz
    have c2 : IntKind.i64.wrap (0 + 1) ≤ 0 := c
    rw [wrap_in (m := 0 + 1) (by decide) (by decide)] at c2
    omega
  · cases hq
theorem delL_nilE {α : Type} {bytes : Nat} {i : Int} {l r : List α} (hz : l = []) (hq : delL bytes l i (IntKind.i64.wrap (i + 1)) = some r) (hi : I64 i) : False := by
  subst hz; exact delL_nil hq hi
theorem insL_nilE {α : Type} {bytes : Nat} {i : Int} {c : α} {l r : List α} (hz : l = []) (hq : insL bytes l i c = some r) : insL bytes [] i c = some r := by
  subst hz; exact hq
theorem at_nilE {α : Type} {i : Int} {l : List α} {a : α} (hq : atL l i = some a) (hz : l = []) : False := by
  subst hz; unfold atL at hq; split at hq
  · simp at hq
  · cases hq
theorem row_ne {n : Nat} (i j : Nat) (h : Nat.beq i j = false) : n + i ≠ n + j := fun hq => by
  have : i = j := by omega
  subst this
  rw [Nat.beq_refl] at h
  cases h
end
end Go.Proofs.Ytcngfjmfgeckmaa
end
