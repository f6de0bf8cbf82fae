/- Row 2: the reference's and the program's function, and the law. Own work. -/
import Derived.Test.YtplkjfnjdekgpaaR2
namespace Go.Proofs.Ytplkjfnjdekgpaa
open Go

section
variable {h : Heap} {n : Nat} {K : AV → Heap → Nat → Prop}

theorem all2_some {α β : Type} {Q : α → β → Prop} {a : List α} {b : List β} (h : All2 Q a b) {i : Nat} (hi : i < b.length) : ∃ x y, a[i]? = some x ∧ b[i]? = some y ∧ Q x y := all2_at h hi

theorem fs_snoc {α β : Type} {f : α → Option β} {l : List α} {i : Nat} {a : α} (ha : l[i]? = some a) (hn : (l.take i).findSome? f = none) (hf : f a = none) : (l.take (i + 1)).findSome? f = none := by
  rw [List.take_add_one, ha, List.findSome?_append, hn]
  simp [hf]

theorem fs_hit {α β : Type} {f : α → Option β} {l : List α} {i : Nat} {a : α} {b : β} (ha : l[i]? = some a) (hn : (l.take i).findSome? f = none) (hf : f a = some b) : l.findSome? f = some b := by
  have h1 : l = l.take i ++ l.drop i := (List.take_append_drop i l).symm
  have h2 : l.drop i = a :: l.drop (i + 1) := by
    obtain ⟨hi, rfl⟩ := List.getElem?_eq_some_iff.1 ha
    exact List.drop_eq_getElem_cons hi
  rw [h1, List.findSome?_append, hn, h2]
  simp [hf]

theorem fs_flat {α β : Type} {f : α → Option β} : ∀ (l : List (List α)), l.flatten.findSome? f = l.findSome? (fun s => s.findSome? f)
  | [] => rfl
  | s :: l => by
    rw [List.flatten_cons, List.findSome?_append, fs_flat l, List.findSome?_cons]
    cases s.findSome? f <;> rfl

theorem c15 {x : AV} {l : List (List ActD)} (hx : ActSSR x l) (hk : K (.int .i64 (sessFault l)) h n) : CA Try.prog 15 [x] h n K := by
  obtain ⟨es, hes, hal, hml, _, _⟩ := hx
  have hel := all2_length hal
  unfold maxLen at hml
  refine CA.conv (CA.enter (N := 60) (rs := [.tmp 2]) hT Try.call15 Try.func15 rfl rfl (by simp) rfl fun hlt => ?_)
  refine WP.seq_k fun K1 hK1 => WP.region hT rfl ?_
  simp only [↓opsA, ↓stepA, ↓callA, ev, ↓e_assign, ofVal, ↓thenA]
  refine hK1 _ _ _ ?_
  clear hK1 K1
  refine WP.seq_k fun K1 hK1 => ?_
  have two : l.length < 1 ∨ 5 < l.length → sessFault l = 2 := fun hq => by
    unfold sessFault
    rw [if_pos (by rcases hq with hq | hq <;> simp [hq])]
  have len1 : decide ((es.length : Int) < 1) = decide (l.length < 1) := by rw [hel, decide_eq_decide]; omega
  have len5 : decide ((5 : Int) < (es.length : Int)) = decide (5 < l.length) := by rw [hel, decide_eq_decide]; omega
  by_cases h1 : l.length < 1
  · refine WP.seq_k fun K1 hK1 => WP.region hT rfl ?_
    simp only [↓opsA, ↓stepA, ↓e_len1, ↓callA, ev, Env.get_put_some, Env.get_envOf, ↓e_move, ↓e_binOp, ↓e_pick, b_lss, b_gtr, ofVal, ↓thenA, reduceIte, Nat.reduceEqDiff, List.getElem?_cons_zero, List.getElem?_cons_succ, Option.getD_some, decide_true, Option.bind_some, ↓reduceIte, T_31, T_38, yieldA, rdSl_emp hes, len1, h1, List.getElem?_cons_succ, Option.some.injEq, reduceCtorEq]
    refine hK1 _ _ _ ?_
    clear hK1 K1
    refine WP.cond (by simp only [ev, Env.get_put_some, ↓reduceIte]; rfl) (fun hc0 => ?_) (fun hc0 => by cases hc0)
    refine WP.seq_k fun K1 hK1 => WP.region hT rfl ?_
    simp only [↓opsA, ↓stepA, ↓callA, ev, ↓e_assign, ofVal, ↓thenA]
    refine hK1 _ _ _ ?_
    clear hK1 K1
    refine WP.ret ?_
    simp only [Env.get_put_some, ↓thenA, reduceIte, Option.map_some, ↓reduceIte, retA, resA]
    rw [two (.inl h1)] at hk
    exact ⟨_, rfl, ret_p (Left.refl hlt) (.int _ _) hk⟩
  by_cases h5 : 5 < l.length
  · refine WP.seq_k fun K1 hK1 => WP.region hT rfl ?_
    simp only [↓opsA, ↓stepA, ↓e_len1, ↓callA, ev, Env.get_put_some, Env.get_envOf, ↓e_move, ↓e_binOp, ↓e_pick, b_lss, b_gtr, ofVal, ↓thenA, reduceIte, Nat.reduceEqDiff, List.getElem?_cons_zero, List.getElem?_cons_succ, Option.getD_some, decide_true, decide_false, Option.bind_some, ↓reduceIte, T_31, T_38, yieldA, rdSl_emp hes, len1, h1, len5, h5, List.getElem?_cons_succ, Option.some.injEq, Bool.false_eq_true, reduceCtorEq]
    refine hK1 _ _ _ ?_
    clear hK1 K1
    refine WP.cond (by simp only [ev, Env.get_put_some, ↓reduceIte]; rfl) (fun hc0 => ?_) (fun hc0 => by cases hc0)
    refine WP.seq_k fun K1 hK1 => WP.region hT rfl ?_
    simp only [↓opsA, ↓stepA, ↓callA, ev, ↓e_assign, ofVal, ↓thenA]
    refine hK1 _ _ _ ?_
    clear hK1 K1
    refine WP.ret ?_
    simp only [Env.get_put_some, ↓thenA, reduceIte, Option.map_some, ↓reduceIte, retA, resA]
    rw [two (.inr h5)] at hk
    exact ⟨_, rfl, ret_p (Left.refl hlt) (.int _ _) hk⟩
  refine WP.seq_k fun K1 hK1 => WP.region hT rfl ?_
  simp only [↓opsA, ↓stepA, ↓e_len1, ↓callA, ev, Env.get_put_some, Env.get_envOf, ↓e_move, ↓e_binOp, ↓e_pick, b_lss, b_gtr, ofVal, ↓thenA, reduceIte, Nat.reduceEqDiff, List.getElem?_cons_zero, List.getElem?_cons_succ, Option.getD_some, decide_false, Option.bind_some, ↓reduceIte, T_31, T_38, yieldA, rdSl_emp hes, len1, h1, len5, h5, List.getElem?_cons_succ, Option.some.injEq, Bool.false_eq_true, reduceCtorEq]
  refine hK1 _ _ _ ?_
  clear hK1 K1
  refine WP.cond (by simp only [ev, Env.get_put_some, ↓reduceIte]; rfl) (fun hc0 => by cases hc0) (fun hc0 => ?_)
  refine WP.skip (hK1 _ _ _ ?_)
  clear hK1 K1
  refine WP.seq_k fun K4 hK4 => ?_
  refine WP.seq_k fun K1 hK1 => WP.region hT rfl ?_
  simp only [↓opsA, ↓stepA, ↓callA, ev, ↓e_assign, ofVal, ↓thenA]
  refine hK1 _ _ _ ?_
  clear hK1 K1
  refine WP.block (WP.loop (fun m E h' n' => ∃ i, m = l.length - i ∧ i ≤ l.length ∧ (∀ b, b ∈ l.take i → decide (12 < b.length) = false) ∧ n = n' ∧ h = h' ∧ E.get 0 = x ∧ E.get 3 = .int .i64 i) l.length ?_ ?_)
  · exact ⟨0, by omega, Nat.zero_le _, by simp, rfl, rfl, rfl, rfl⟩
  · rintro m E h' n' ⟨i, rfl, hi, hno, rfl, rfl, e0, e3⟩
    refine WP.seq_k fun K6 hK6 => ?_
    refine WP.seq_k fun K1 hK1 => WP.region hT rfl ?_
    simp only [↓opsA, ↓stepA, ↓e_len1, ↓callA, ev, Env.get_put_some, ↓e_move, ↓e_binOp, b_lss, ↓thenA, reduceIte, Nat.reduceEqDiff, ↓reduceIte, T_31, T_38, rdSl_emp hes, e0, e3]
    refine hK1 _ _ _ ?_
    clear hK1 K1
    refine WP.cond (by simp only [ev, Env.get_put_some, ↓reduceIte]; rfl) (fun hc1 => ?_) (fun hc1 => ?_)
    · have hil : i < l.length := by simp at hc1; omega
      obtain ⟨e, a, he, ha, hR⟩ := all2_at hal hil
      have hp := tyActs_38.part e a hR
      obtain ⟨fs, hfs, hbl, hml2, _, _⟩ := hR
      have hfl := all2_length hbl
      refine WP.skip (hK6 _ _ _ ?_)
      clear hK6 K6
      refine WP.seq_k fun K8 hK8 => WP.block (WP.seq_k fun K9 hK9 => WP.region hT rfl ?_)
      simp only [↓opsA, ↓stepA, ↓e_len1, ↓callA, Int.toNat_natCast, ev, Env.get_put_some, ↓e_move, ↓e_binOp, ↓e_load, ↓e_indexAddr, b_gtr, ofVal, ↓thenA, reduceIte, Nat.reduceEqDiff, true_and, Nat.lt_add_one, ↓reduceIte, T_81, T_31, T_38, rdSl_emp hes, e0, e3, he, hp, rdSl_emp hfs, cellOk]
      refine ⟨by omega, by omega, hK9 _ _ _ ?_⟩
      clear hK9 K9
      have hlen : decide ((12 : Int) < (fs.length : Int)) = decide (12 < a.length) := by rw [hfl, decide_eq_decide]; omega
      refine WP.cond (by simp only [ev, Env.get_put_some, ↓reduceIte]; rfl) (fun hc2 => ?_) (fun hc2 => ?_)
      · refine WP.seq_k fun K1 hK1 => WP.region hT rfl ?_
        simp only [↓opsA, ↓stepA, ↓callA, ev, ↓e_assign, ofVal, ↓thenA]
        refine hK1 _ _ _ ?_
        clear hK1 K1
        refine WP.ret ?_
        simp only [Env.get_put_some, ↓thenA, ↓blockA, reduceIte, Option.map_some, ↓reduceIte, retA, resA]
        have : sessFault l = 2 := by
          unfold sessFault
          rw [if_pos (.inr (.inr (List.any_eq_true.2 ⟨a, List.mem_of_getElem? ha, by rw [← hlen]; exact hc2⟩)))]
        rw [this] at hk
        exact ⟨_, rfl, ret_p (Left.refl hlt) (.int _ _) hk⟩
      refine WP.skip ?_
      simp only [↓thenA, ↓blockA]
      refine hK8 _ _ _ ?_
      clear hK8 K8
      refine WP.region hT rfl ?_
      simp only [↓opsA, ↓stepA, ↓callA, ev, Env.get_put_some, ↓e_move, ↓e_assign, ↓e_binOp, b_add, ofVal, ↓thenA, reduceIte, Nat.reduceEqDiff, true_and, ↓reduceIte, e3]
      refine ⟨l.length - (i + 1), by omega, i + 1, rfl, hil, ?_, ?_, ?_⟩
      · intro b hb
        rcases mem_take_succ ha hb with hb | rfl
        · exact hno b hb
        · rw [← hlen]; exact hc2
      · simpa [Env.get, Env.put] using e0
      · rw [wrap_in (by omega) (by omega)]
        rfl
    · have hil : i = l.length := by simp at hc1; omega
      subst hil
      rw [List.take_of_length_le (Nat.le_refl _)] at hno
      refine WP.exit ?_
      simp only [↓thenA, ↓blockA, reduceIte, ↓reduceIte]
      refine hK4 _ _ _ ?_
      clear hK6 K6 hK4 K4
      have hfault : sessFault l = (l.findSome? (fun s => s.findSome? faultA)).getD 0 := by
        unfold sessFault
        rw [if_neg, fs_flat]
        rintro (hq | hq | hq)
        · exact h1 hq
        · exact h5 hq
        · obtain ⟨b, hb, hbb⟩ := List.any_eq_true.1 hq
          rw [hno b hb] at hbb; cases hbb
      rw [hfault] at hk
      clear hc1 hno
      refine WP.seq_k fun K4 hK4 => ?_
      refine WP.seq_k fun K1 hK1 => WP.region hT rfl ?_
      simp only [↓opsA, ↓stepA, ↓callA, ev, ↓e_assign, ofVal, ↓thenA]
      refine hK1 _ _ _ ?_
      clear hK1 K1
      refine WP.block (WP.loop (fun m E h' n' => ∃ i, m = l.length - i ∧ i ≤ l.length ∧ (l.take i).findSome? (fun s => s.findSome? faultA) = none ∧ n = n' ∧ h = h' ∧ E.get 0 = x ∧ E.get 4 = .int .i64 i) l.length ?_ ?_)
      · exact ⟨0, by omega, Nat.zero_le _, by simp, rfl, rfl, by simpa [Env.get, Env.put] using e0, rfl⟩
      clear e3 e0 E
      rintro m E h' n' ⟨i, rfl, hi, hno, rfl, rfl, e0, e4⟩
      refine WP.seq_k fun K6 hK6 => ?_
      refine WP.seq_k fun K1 hK1 => WP.region hT rfl ?_
      simp only [↓opsA, ↓stepA, ↓e_len1, ↓callA, ev, Env.get_put_some, ↓e_move, ↓e_binOp, b_lss, ↓thenA, reduceIte, Nat.reduceEqDiff, ↓reduceIte, T_31, T_38, rdSl_emp hes, e0, e4]
      refine hK1 _ _ _ ?_
      clear hK1 K1
      refine WP.cond (by simp only [ev, Env.get_put_some, ↓reduceIte]; rfl) (fun hc1 => ?_) (fun hc1 => ?_)
      · have hil : i < l.length := by simp at hc1; omega
        obtain ⟨e, a, he, ha, hR⟩ := all2_at hal hil
        have hp := tyActs_38.part e a hR
        obtain ⟨fs, hfs, hbl, hml2, _, _⟩ := hR
        have hfl := all2_length hbl
        unfold maxLen at hml2
        refine WP.skip (hK6 _ _ _ ?_)
        clear hK6 K6
        refine WP.seq_k fun K8 hK8 => WP.block (WP.seq_k fun K9 hK9 => WP.region hT rfl ?_)
        simp only [↓opsA, ↓stepA, ↓callA, ev, ↓e_assign, ofVal, ↓thenA]
        refine hK9 _ _ _ ?_
        clear hK9 K9
        refine WP.block (WP.loop (fun m E h' n' => ∃ j, m = a.length - j ∧ j ≤ a.length ∧ (a.take j).findSome? faultA = none ∧ n = n' ∧ h = h' ∧ E.get 0 = x ∧ E.get 4 = .int .i64 i ∧ E.get 5 = .int .i64 j) a.length ?_ ?_)
        · exact ⟨0, by omega, Nat.zero_le _, by simp, rfl, rfl, by simpa [Env.get, Env.put] using e0, by simpa [Env.get, Env.put] using e4, rfl⟩
        clear e0 e4 E hc1
        rintro m E h' n' ⟨j, rfl, hj, hno2, rfl, rfl, e0, e4, e5⟩
        refine WP.seq_k fun K6 hK6 => WP.seq_k fun K7 hK7 => WP.region hT rfl ?_
        simp only [↓opsA, ↓stepA, ↓e_len1, ↓callA, Int.toNat_natCast, ev, Env.get_put_some, ↓e_move, ↓e_binOp, ↓e_load, ↓e_indexAddr, b_lss, ↓thenA, reduceIte, Nat.reduceEqDiff, true_and, Nat.lt_add_one, ↓reduceIte, T_81, T_31, T_38, rdSl_emp hes, e0, e4, e5, he, hp, rdSl_emp hfs, cellOk]
        refine ⟨by omega, by omega, hK7 _ _ _ ?_⟩
        clear hK7 K7
        refine WP.cond (by simp only [ev, Env.get_put_some, ↓reduceIte]; rfl) (fun hc1 => ?_) (fun hc1 => ?_)
        · have hjl : j < a.length := by simp at hc1; omega
          obtain ⟨b, c, hb, hc, hR2⟩ := all2_at hbl hjl
          obtain ⟨rfl, hok⟩ := hR2
          refine WP.skip (hK6 _ _ _ ?_)
          clear hK6 K6
          refine WP.seq_k fun K10 hK10 => WP.block (WP.seq_k fun K11 hK11 => WP.seq_k fun K12 hK12 => WP.region hT rfl ?_)
          simp only [↓opsA, ↓stepA, ↓callA, Int.toNat_natCast, List.map_cons, List.map_nil, ev, Env.get_put_some, ↓e_move, ↓e_unOp, ↓e_load, ↓e_fieldAddr, ↓e_indexAddr, ofVal, ↓thenA, Nat.pos_of_neZero, AV.cells_agg, reduceIte, Nat.reduceEqDiff, true_and, List.getElem?_cons_zero, Nat.add_zero, List.append_nil, Nat.lt_add_one, ↓reduceIte, T_81, T_2, T_31, T_38, rdSl_emp hes, e0, e4, e5, he, hp, rdSl_emp hfs, hb, cellOk, pt_2]
          refine ⟨by omega, by omega, by omega, by omega, c49 (hK12 _ _ _ ?_)⟩
          clear hK12 K12
          refine WP.cond (by simp only [ev, Env.get_put_some, ↓reduceIte]; rfl) (fun hc2 => ?_) (fun hc2 => ?_)
          · refine WP.seq_k fun K1 hK1 => WP.region hT rfl ?_
            simp only [↓opsA, ↓stepA, ↓callA, ev, ↓e_assign, ofVal, ↓thenA]
            refine hK1 _ _ _ ?_
            clear hK1 K1
            refine WP.ret ?_
            simp only [Env.get_put_some, ↓thenA, ↓blockA, reduceIte, Option.map_some, ↓reduceIte, retA, resA]
            have h3 : faultA c = some 3 := by unfold faultA; rw [if_pos (by simpa using hc2)]
            rw [fs_hit ha hno (fs_hit hc hno2 h3)] at hk
            exact ⟨_, rfl, ret_p (Left.refl hlt) (.int _ _) hk⟩
          refine WP.skip (hK11 _ _ _ ?_)
          clear hK11 K11
          refine WP.seq_k fun K12 hK12 => WP.region hT rfl ?_
          simp only [↓opsA, ↓stepA, ↓callA, Int.toNat_natCast, ev, Env.get_put_some, ↓e_move, ↓e_binOp, ↓e_load, ↓e_fieldAddr, ↓e_indexAddr, b_neq, ofVal, ↓thenA, Nat.pos_of_neZero, AV.cells_agg, reduceIte, Nat.reduceEqDiff, true_and, List.getElem?_cons_zero, List.getElem?_cons_succ, Nat.zero_add, Nat.lt_add_one, ↓reduceIte, T_81, T_2, T_31, T_38, rdSl_emp hes, e0, e4, e5, he, hp, rdSl_emp hfs, hb, cellOk, pt_2]
          refine ⟨by omega, by omega, by omega, by omega, hK12 _ _ _ ?_⟩
          clear hK12 K12
          refine WP.cond (by simp only [ev, Env.get_put_some, ↓reduceIte]; rfl) (fun hc3 => ?_) (fun hc3 => ?_)
          · refine WP.seq_k fun K1 hK1 => WP.region hT rfl ?_
            simp only [↓opsA, ↓stepA, ↓callA, ev, ↓e_assign, ofVal, ↓thenA]
            refine hK1 _ _ _ ?_
            clear hK1 K1
            refine WP.ret ?_
            simp only [Env.get_put_some, ↓thenA, ↓blockA, reduceIte, Option.map_some, ↓reduceIte, retA, resA]
            have h3 : faultA c = some 1 := by unfold faultA; rw [if_neg (by simpa using hc2), if_pos (by simpa using hc3)]
            rw [fs_hit ha hno (fs_hit hc hno2 h3)] at hk
            exact ⟨_, rfl, ret_p (Left.refl hlt) (.int _ _) hk⟩
          have h3 : faultA c = none := by unfold faultA; rw [if_neg (by simpa using hc2), if_neg (by simpa using hc3)]
          refine WP.skip ?_
          simp only [↓thenA, ↓blockA]
          refine hK10 _ _ _ ?_
          clear hK10 K10
          refine WP.region hT rfl ?_
          simp only [↓opsA, ↓stepA, ↓callA, ev, Env.get_put_some, ↓e_move, ↓e_assign, ↓e_binOp, b_add, ofVal, ↓thenA, reduceIte, Nat.reduceEqDiff, true_and, ↓reduceIte, e5]
          refine ⟨a.length - (j + 1), by omega, j + 1, rfl, hjl, fs_snoc hc hno2 h3, ?_, ?_, ?_⟩
          · simpa [Env.get, Env.put] using e0
          · simpa [Env.get, Env.put] using e4
          · rw [wrap_in (by omega) (by omega)]
            rfl
        · have hjl : j = a.length := by simp at hc1; omega
          subst hjl
          rw [List.take_of_length_le (Nat.le_refl _)] at hno2
          refine WP.exit ?_
          simp only [↓thenA, ↓blockA, reduceIte, ↓reduceIte]
          refine hK8 _ _ _ ?_
          clear hK6 K6 hK8 K8
          refine WP.region hT rfl ?_
          simp only [↓opsA, ↓stepA, ↓callA, ev, Env.get_put_some, ↓e_move, ↓e_assign, ↓e_binOp, b_add, ofVal, ↓thenA, reduceIte, Nat.reduceEqDiff, true_and, ↓reduceIte, e4]
          refine ⟨l.length - (i + 1), by omega, i + 1, rfl, hil, fs_snoc ha hno hno2, ?_, ?_⟩
          · simpa [Env.get, Env.put] using e0
          · rw [wrap_in (by omega) (by omega)]
            rfl
      · have hil : i = l.length := by simp at hc1; omega
        subst hil
        rw [List.take_of_length_le (Nat.le_refl _)] at hno
        rw [hno] at hk
        refine WP.exit ?_
        simp only [↓thenA, ↓blockA, reduceIte, ↓reduceIte]
        refine hK4 _ _ _ ?_
        clear hK6 K6 hK4 K4
        refine WP.seq_k fun K1 hK1 => WP.region hT rfl ?_
        simp only [↓opsA, ↓stepA, ↓callA, ev, ↓e_assign, ofVal, ↓thenA]
        refine hK1 _ _ _ ?_
        clear hK1 K1
        refine WP.ret ?_
        simp only [Env.get_put_some, reduceIte, Option.map_some, ↓reduceIte, retA, resA]
        exact ⟨_, rfl, ret_p (Left.refl hlt) (.int _ _) hk⟩

theorem c17 {x : AV} {l : List (List ActD)} (hx : ActSSR x l) (hk : K (.int .i64 (sessFault l)) h n) : CA Try.prog 17 [x] h n K := by
  have hx0 := hx
  obtain ⟨es, hes, hal, hml, _, _⟩ := hx
  have hel := all2_length hal
  unfold maxLen at hml
  refine CA.conv (CA.enter (N := 42) (rs := [.tmp 2]) hT Try.call17 Try.func17 rfl rfl (by simp) rfl fun hlt => ?_)
  refine WP.seq_k fun K1 hK1 => WP.region hT rfl ?_
  simp only [↓opsA, ↓stepA, ↓callA, ev, ↓e_assign, ofVal, ↓thenA]
  refine hK1 _ _ _ ?_
  clear hK1 K1
  refine WP.seq_k fun K1 hK1 => ?_
  have two : l.length < 1 ∨ 5 < l.length ∨ l.any (fun s => decide (12 < s.length)) = true → sessFault l = 2 := fun hq => by
    unfold sessFault
    rw [if_pos hq]
  have len1 : decide ((es.length : Int) < 1) = decide (l.length < 1) := by rw [hel, decide_eq_decide]; omega
  have len5 : decide ((5 : Int) < (es.length : Int)) = decide (5 < l.length) := by rw [hel, decide_eq_decide]; omega
  by_cases h1 : l.length < 1
  · refine WP.seq_k fun K1 hK1 => WP.region hT rfl ?_
    simp only [↓opsA, ↓stepA, ↓e_len1, ↓callA, List.map_cons, List.map_nil, ev, Env.get_put_some, Env.get_envOf, ↓e_move, ↓e_binOp, ↓e_pick, b_lss, b_gtr, ofVal, ↓thenA, reduceIte, Nat.reduceEqDiff, List.getElem?_cons_zero, List.getElem?_cons_succ, Option.getD_some, List.append_nil, decide_true, Option.bind_some, ↓reduceIte, T_31, T_38, yieldA, rdSl_emp hes, len1, h1, List.getElem?_cons_succ, Option.some.injEq, reduceCtorEq]
    refine hK1 _ _ _ ?_
    clear hK1 K1
    refine WP.cond (by simp only [ev, Env.get_put_some, ↓reduceIte]; rfl) (fun hc0 => ?_) (fun hc0 => by cases hc0)
    refine WP.seq_k fun K1 hK1 => WP.region hT rfl ?_
    simp only [↓opsA, ↓stepA, ↓callA, ev, ↓e_assign, ofVal, ↓thenA]
    refine hK1 _ _ _ ?_
    clear hK1 K1
    refine WP.ret ?_
    simp only [Env.get_put_some, ↓thenA, reduceIte, Option.map_some, ↓reduceIte, retA, resA]
    rw [two (.inl h1)] at hk
    exact ⟨_, rfl, ret_p (Left.refl hlt) (.int _ _) hk⟩
  by_cases h5 : 5 < l.length
  · refine WP.seq_k fun K1 hK1 => WP.region hT rfl ?_
    simp only [↓opsA, ↓stepA, ↓e_len1, ↓callA, List.map_cons, List.map_nil, ev, Env.get_put_some, Env.get_envOf, ↓e_move, ↓e_binOp, ↓e_pick, b_lss, b_gtr, ofVal, ↓thenA, reduceIte, Nat.reduceEqDiff, List.getElem?_cons_zero, List.getElem?_cons_succ, Option.getD_some, List.append_nil, decide_true, decide_false, Option.bind_some, ↓reduceIte, T_31, T_38, yieldA, rdSl_emp hes, len1, h1, len5, h5, List.getElem?_cons_succ, Option.some.injEq, Bool.false_eq_true, reduceCtorEq]
    refine hK1 _ _ _ ?_
    clear hK1 K1
    refine WP.cond (by simp only [ev, Env.get_put_some, ↓reduceIte]; rfl) (fun hc0 => ?_) (fun hc0 => by cases hc0)
    refine WP.seq_k fun K1 hK1 => WP.region hT rfl ?_
    simp only [↓opsA, ↓stepA, ↓callA, ev, ↓e_assign, ofVal, ↓thenA]
    refine hK1 _ _ _ ?_
    clear hK1 K1
    refine WP.ret ?_
    simp only [Env.get_put_some, ↓thenA, reduceIte, Option.map_some, ↓reduceIte, retA, resA]
    rw [two (.inr (.inl h5))] at hk
    exact ⟨_, rfl, ret_p (Left.refl hlt) (.int _ _) hk⟩
  refine WP.seq_k fun K2 hK2 => WP.region hT rfl ?_
  simp only [↓opsA, ↓stepA, ↓e_len1, ↓callA, List.map_cons, List.map_nil, ev, Env.get_put_some, Env.get_envOf, ↓e_move, ↓e_binOp, ↓e_pick, b_lss, b_gtr, ofVal, ↓thenA, reduceIte, Nat.reduceEqDiff, List.getElem?_cons_zero, List.getElem?_cons_succ, Option.getD_some, List.append_nil, decide_false, Option.bind_some, ↓reduceIte, T_31, T_38, yieldA, rdSl_emp hes, len1, h1, len5, h5, List.getElem?_cons_succ, Option.some.injEq, Bool.false_eq_true, reduceCtorEq]
  refine c51 hx0 (hK2 _ _ _ ?_)
  clear hK2 K2
  refine WP.cond (by simp only [ev, Env.get_put_some, ↓reduceIte]; rfl) (fun hc0 => ?_) (fun hc0 => ?_)
  · refine WP.seq_k fun K1 hK1 => WP.region hT rfl ?_
    simp only [↓opsA, ↓stepA, ↓callA, ev, ↓e_assign, ofVal, ↓thenA]
    refine hK1 _ _ _ ?_
    clear hK1 K1
    refine WP.ret ?_
    simp only [Env.get_put_some, ↓thenA, reduceIte, Option.map_some, ↓reduceIte, retA, resA]
    rw [two (.inr (.inr hc0))] at hk
    exact ⟨_, rfl, ret_p (Left.refl hlt) (.int _ _) hk⟩
  refine WP.skip (hK1 _ _ _ ?_)
  clear hK1 K1
  have hfault : sessFault l = (l.findSome? (fun s => s.findSome? faultA)).getD 0 := by
    unfold sessFault
    rw [if_neg, fs_flat]
    rintro (hq | hq | hq)
    · exact h1 hq
    · exact h5 hq
    · rw [hc0] at hq; cases hq
  rw [hfault] at hk
  refine WP.seq_k fun K4 hK4 => ?_
  refine WP.seq_k fun K1 hK1 => WP.region hT rfl ?_
  simp only [↓opsA, ↓stepA, ↓e_len1, ↓callA, ev, Env.get_put_some, Env.get_envOf, ↓e_move, ofVal, ↓thenA, reduceIte, Nat.reduceEqDiff, List.getElem?_cons_zero, Option.getD_some, ↓reduceIte, T_31, T_38, rdSl_emp hes]
  refine hK1 _ _ _ ?_
  clear hK1 K1
  refine WP.block (WP.loop (fun m E h' n' => ∃ i, m = l.length - i ∧ i ≤ l.length ∧ (l.take i).findSome? (fun s => s.findSome? faultA) = none ∧ n ≤ n' ∧ Left n h h' h ∧ E.get 19 = x ∧ E.get 20 = .int .i64 es.length ∧ E.get 21 = .int .i64 i) l.length ?_ ?_)
  · exact ⟨0, by omega, Nat.zero_le _, by simp, Nat.le_refl _, Left.refl hlt, rfl, rfl, rfl⟩
  rintro m E h' n' ⟨i, rfl, hi, hno, hn', hleft, e19, e20, e21⟩
  refine WP.seq_k fun K1 hK1 => WP.region hT rfl ?_
  simp only [↓opsA, ↓stepA, ↓callA, ev, ↓e_binOp, b_lss, ↓thenA, e20, e21]
  refine hK1 _ _ _ ?_
  clear hK1 K1
  refine WP.seq_k fun K6 hK6 => ?_
  refine WP.cond (by simp only [ev, Env.get_put_some, ↓reduceIte]; rfl) (fun hc1 => ?_) (fun hc1 => ?_)
  · have hil : i < l.length := by simp at hc1; omega
    obtain ⟨e, a, he, ha, hR⟩ := all2_at hal hil
    have hp := tyActs_38.part e a hR
    obtain ⟨fs, hfs, hbl, hml2, _, _⟩ := hR
    have hfl := all2_length hbl
    unfold maxLen at hml2
    refine WP.skip (hK6 _ _ _ ?_)
    clear hK6 K6
    refine WP.seq_k fun K8 hK8 => WP.block (WP.seq_k fun K9 hK9 => WP.region hT rfl ?_)
    simp only [↓opsA, ↓stepA, ↓callA, Int.toNat_natCast, ev, Env.get_put_some, ↓e_assign, ↓e_load, ↓e_indexAddr, ↓thenA, reduceIte, Nat.reduceEqDiff, true_and, Nat.lt_add_one, ↓reduceIte, T_31, T_38, rdSl_emp hes, e19, e21, he, hp, cellOk]
    refine ⟨by omega, by omega, hK9 _ _ _ ?_⟩
    clear hK9 K9
    refine WP.seq_k fun K1 hK1 => WP.region hT rfl ?_
    simp only [↓opsA, ↓stepA, ↓e_len1, ↓callA, ev, Env.get_put_some, ↓e_move, ofVal, ↓thenA, reduceIte, ↓reduceIte, T_81, T_38, rdSl_emp hfs]
    refine hK1 _ _ _ ?_
    clear hK1 K1
    refine WP.block (WP.loop (fun m E h' n' => ∃ j, m = a.length - j ∧ j ≤ a.length ∧ (a.take j).findSome? faultA = none ∧ n ≤ n' ∧ Left n h h' h ∧ E.get 19 = x ∧ E.get 20 = .int .i64 es.length ∧ E.get 21 = .int .i64 i ∧ E.get 25 = e ∧ E.get 26 = .int .i64 fs.length ∧ E.get 27 = .int .i64 j) a.length ?_ ?_)
    · exact ⟨0, by omega, Nat.zero_le _, by simp, hn', hleft, by simpa [Env.get, Env.put] using e19, by simpa [Env.get, Env.put] using e20, by simpa [Env.get, Env.put] using e21, rfl, rfl, rfl⟩
    clear e19 e20 e21 hn' hleft E h' n' hc1
    rintro m E h' n' ⟨j, rfl, hj, hno2, hn', hleft, e19, e20, e21, e25, e26, e27⟩
    refine WP.seq_k fun K1 hK1 => WP.region hT rfl ?_
    simp only [↓opsA, ↓stepA, ↓callA, ev, ↓e_binOp, b_lss, ↓thenA, e26, e27]
    refine hK1 _ _ _ ?_
    clear hK1 K1
    refine WP.seq_k fun K6 hK6 => ?_
    refine WP.cond (by simp only [ev, Env.get_put_some, ↓reduceIte]; rfl) (fun hc1 => ?_) (fun hc1 => ?_)
    · have hjl : j < a.length := by simp at hc1; omega
      obtain ⟨b, c, hb, hc, hR2⟩ := all2_at hbl hjl
      obtain ⟨rfl, hok⟩ := hR2
      refine WP.skip (hK6 _ _ _ ?_)
      clear hK6 K6
      refine WP.seq_k fun K10 hK10 => WP.block (WP.seq_k fun K12 hK12 => WP.region hT rfl ?_)
      simp only [↓opsA, ↓stepA, ↓callA, Int.toNat_natCast, ev, Env.get_put_some, Env.put_none, ↓e_alloc, ↓e_load, ↓e_store, ↓e_indexAddr, setPart_agg, ↓thenA, Heap.upd_get, Heap.upd_upd, Nat.pos_of_neZero, good_agg, AV.cells_agg, reduceIte, Nat.reduceEqDiff, Nat.reduceAdd, true_and, List.getElem?_cons_zero, List.length_cons, List.length_nil, List.set_cons_zero, Nat.zero_add, Nat.add_zero, List.drop_zero, List.take_succ_cons, List.take_zero, List.drop_succ_cons, List.drop_nil, List.nil_append, List.append_nil, decide_true, ↓reduceIte, Nat.le_refl, T_81, T_38, e25, e27, rdSl_emp hfs, hb, cellOk, pt_81]
      refine ⟨by omega, by omega, hK12 _ _ _ ?_⟩
      clear hK12 K12
      refine WP.block (WP.seq_k fun K12 hK12 => WP.region hT rfl ?_)
      simp only [↓opsA, ↓stepA, ↓callA, List.map_cons, List.map_nil, ev, Env.get_put_some, ↓e_assign, ↓e_unOp, ↓e_load, ↓e_fieldAddr, rdSl_sl, ofVal, ↓thenA, Heap.upd_get, AV.cells_agg, reduceIte, true_and, List.getElem?_cons_zero, List.length_cons, List.length_nil, Nat.zero_add, Nat.add_zero, List.drop_zero, List.take_succ_cons, List.take_zero, List.append_nil, Nat.lt_add_one, ↓reduceIte, Nat.le_refl, T_81, T_2, cellOk, pt_2]
      refine c53 (hK12 _ _ _ ?_)
      clear hK12 K12
      refine WP.cond (by simp only [ev, Env.get_put_some, ↓reduceIte]; rfl) (fun hc2 => ?_) (fun hc2 => ?_)
      · refine WP.seq_k fun K1 hK1 => WP.region hT rfl ?_
        simp only [↓opsA, ↓stepA, ↓callA, ev, ↓e_assign, ofVal, ↓thenA]
        refine hK1 _ _ _ ?_
        clear hK1 K1
        refine WP.ret ?_
        simp only [Env.get_put_some, ↓thenA, ↓blockA, reduceIte, Option.map_some, ↓reduceIte, retA, resA]
        have h3 : faultA c = some 3 := by unfold faultA; rw [if_pos (by simpa using hc2)]
        rw [fs_hit ha hno (fs_hit hc hno2 h3)] at hk
        exact ⟨_, rfl, ret_p (Left.upd hn' hleft) (.int _ _) hk⟩
      refine WP.seq_k fun K12 hK12 => WP.region hT rfl ?_
      simp only [↓opsA, ↓stepA, ↓callA, ev, Env.get_put_some, ↓e_assign, ↓e_binOp, ↓e_load, ↓e_fieldAddr, b_neq, rdSl_sl, ofVal, ↓thenA, Heap.upd_get, AV.cells_agg, reduceIte, Nat.reduceEqDiff, true_and, List.getElem?_cons_zero, List.getElem?_cons_succ, List.length_cons, List.length_nil, Nat.zero_add, List.drop_zero, List.take_succ_cons, List.take_zero, Nat.lt_add_one, ↓reduceIte, Nat.le_refl, T_81, T_2, cellOk, pt_2]
      refine hK12 _ _ _ ?_
      clear hK12 K12
      refine WP.cond (by simp only [ev, Env.get_put_some, ↓reduceIte]; rfl) (fun hc3 => ?_) (fun hc3 => ?_)
      · refine WP.seq_k fun K1 hK1 => WP.region hT rfl ?_
        simp only [↓opsA, ↓stepA, ↓callA, ev, ↓e_assign, ofVal, ↓thenA]
        refine hK1 _ _ _ ?_
        clear hK1 K1
        refine WP.ret ?_
        simp only [Env.get_put_some, ↓thenA, ↓blockA, reduceIte, Option.map_some, ↓reduceIte, retA, resA]
        have h3 : faultA c = some 1 := by unfold faultA; rw [if_neg (by simpa using hc2), if_pos (by simpa using hc3)]
        rw [fs_hit ha hno (fs_hit hc hno2 h3)] at hk
        exact ⟨_, rfl, ret_p (Left.upd hn' hleft) (.int _ _) hk⟩
      have h3 : faultA c = none := by unfold faultA; rw [if_neg (by simpa using hc2), if_neg (by simpa using hc3)]
      refine WP.skip ?_
      simp only [↓thenA, ↓blockA]
      refine hK10 _ _ _ ?_
      clear hK10 K10
      refine WP.region hT rfl ?_
      simp only [↓opsA, ↓stepA, ↓callA, ev, Env.get_put_some, ↓e_move, ↓e_binOp, b_add, ofVal, ↓thenA, reduceIte, Nat.reduceEqDiff, ↓reduceIte, e27]
      refine ⟨a.length - (j + 1), by omega, j + 1, rfl, hjl, fs_snoc hc hno2 h3, by omega, Left.upd hn' hleft, ?_, ?_, ?_, ?_, ?_, ?_⟩
      · simpa [Env.get, Env.put] using e19
      · simpa [Env.get, Env.put] using e20
      · simpa [Env.get, Env.put] using e21
      · simpa [Env.get, Env.put] using e25
      · simpa [Env.get, Env.put] using e26
      · rw [wrap_in (by omega) (by omega)]
        rfl
    · have hjl : j = a.length := by simp at hc1; omega
      subst hjl
      rw [List.take_of_length_le (Nat.le_refl _)] at hno2
      refine WP.exit ?_
      simp only [↓thenA, ↓blockA, reduceIte, ↓reduceIte]
      refine hK8 _ _ _ ?_
      clear hK6 K6 hK8 K8
      refine WP.region hT rfl ?_
      simp only [↓opsA, ↓stepA, ↓callA, ev, Env.get_put_some, ↓e_move, ↓e_binOp, b_add, ofVal, ↓thenA, reduceIte, Nat.reduceEqDiff, ↓reduceIte, e21]
      refine ⟨l.length - (i + 1), by omega, i + 1, rfl, hil, fs_snoc ha hno hno2, hn', hleft, ?_, ?_, ?_⟩
      · simpa [Env.get, Env.put] using e19
      · simpa [Env.get, Env.put] using e20
      · rw [wrap_in (by omega) (by omega)]
        rfl
  · have hil : i = l.length := by simp at hc1; omega
    subst hil
    rw [List.take_of_length_le (Nat.le_refl _)] at hno
    rw [hno] at hk
    refine WP.exit ?_
    simp only [↓thenA, ↓blockA, reduceIte, ↓reduceIte]
    refine hK4 _ _ _ ?_
    clear hK6 K6 hK4 K4
    refine WP.seq_k fun K1 hK1 => WP.region hT rfl ?_
    simp only [↓opsA, ↓stepA, ↓callA, ev, ↓e_assign, ofVal, ↓thenA]
    refine hK1 _ _ _ ?_
    clear hK1 K1
    refine WP.ret ?_
    simp only [Env.get_put_some, reduceIte, Option.map_some, ↓reduceIte, retA, resA]
    exact ⟨_, rfl, ret_p hleft (.int _ _) hk⟩

theorem c4 {x : AV} {l : List (List ActD)} (hx : ActSSR x l) (hk : K (.bool true) h n) : CA Try.prog 4 [x] h n K := by
  refine CA.conv (CA.enter (N := 27) (rs := [.tmp 2]) hT Try.call4 Try.func4 rfl rfl (by simp) rfl fun hlt => ?_)
  refine WP.seq_k fun K1 hK1 => WP.region hT rfl ?_
  simp only [↓opsA, ↓stepA, ↓callA, ev, ↓e_assign, ofVal, ↓thenA]
  refine hK1 _ _ _ ?_
  clear hK1 K1
  refine WP.seq_k fun K1 hK1 => WP.region hT rfl ?_
  simp only [↓opsA, ↓stepA, ↓callA, ev, ↓e_assign, ofVal, ↓thenA]
  refine hK1 _ _ _ ?_
  clear hK1 K1
  refine WP.seq_k fun K1 hK1 => WP.region hT rfl ?_
  simp only [↓opsA, ↓stepA, ↓callA, List.map_cons, List.map_nil, ev, Env.get_put_some, Env.get_envOf, ↓e_move, ↓e_assign, ↓thenA, reduceIte, Nat.reduceEqDiff, List.getElem?_cons_zero, Option.getD_some, List.append_nil, ↓reduceIte]
  refine c14 hx (by omega) (by omega) (hK1 _ _ _ ?_)
  clear hK1 K1
  refine WP.seq_k fun K2 hK2 => ?_
  refine WP.seq_k fun K1 hK1 => WP.region hT rfl ?_
  simp only [↓opsA, ↓stepA, ↓callA, ev, Env.get_put_some, ↓e_move, ↓e_binOp, b_lss, ofVal, ↓thenA, reduceIte, ↓reduceIte]
  refine hK1 _ _ _ ?_
  clear hK1 K1
  refine WP.cond (by simp only [ev, Env.get_put_some, ↓reduceIte]; rfl) (fun hc => ?_) (fun hc => ?_)
  · refine WP.seq_k fun K1 hK1 => WP.region hT rfl ?_
    simp only [↓opsA, ↓stepA, ↓callA, ev, ↓e_assign, ofVal, ↓thenA]
    refine hK1 _ _ _ ?_
    clear hK1 K1
    refine WP.ret ?_
    simp only [Env.get_put_some, ↓thenA, reduceIte, Option.map_some, ↓reduceIte, retA, resA]
    exact ⟨_, rfl, ret_p (Left.refl hlt) (.bool _) hk⟩
  refine WP.skip (hK2 _ _ _ ?_)
  clear hK2 K2
  obtain ⟨b1, b2⟩ := left_nonneg (by omega) (of_decide_eq_false hc)
  have hl : sizL sizAct l ≤ 1048576 := by omega
  refine WP.seq_k fun K1 hK1 => WP.region hT rfl ?_
  simp only [↓opsA, ↓stepA, ↓callA, List.map_cons, List.map_nil, ev, Env.get_put_some, Env.get_envOf, ↓e_move, ↓e_assign, ↓thenA, reduceIte, Nat.reduceEqDiff, List.getElem?_cons_zero, Option.getD_some, List.append_nil, ↓reduceIte]
  refine c16 hx hl fun r1 hr1 => c15 hr1 (hK1 _ _ _ ?_)
  clear hK1 K1
  refine WP.seq_k fun K1 hK1 => WP.region hT rfl ?_
  simp only [↓opsA, ↓stepA, ↓callA, List.map_cons, List.map_nil, ev, Env.get_put_some, Env.get_envOf, ↓e_move, ↓e_assign, ↓thenA, reduceIte, Nat.reduceEqDiff, List.getElem?_cons_zero, Option.getD_some, List.append_nil, ↓reduceIte]
  refine c16 hx hl fun r2 hr2 => hK1 _ _ _ ?_
  clear hK1 K1
  refine WP.seq_k fun K1 hK1 => WP.region hT rfl ?_
  simp only [↓opsA, ↓stepA, ↓callA, List.map_cons, List.map_nil, ev, Env.get_put_some, ↓e_move, ↓e_assign, ↓thenA, reduceIte, List.append_nil, ↓reduceIte]
  refine c17 hr2 (hK1 _ _ _ ?_)
  clear hK1 K1
  refine WP.seq_k fun K2 hK2 => ?_
  refine WP.seq_k fun K1 hK1 => WP.region hT rfl ?_
  simp only [↓opsA, ↓stepA, ↓callA, ev, Env.get_put_some, ↓e_move, ↓e_binOp, b_neq, ↓thenA, reduceIte, Nat.reduceEqDiff, ↓reduceIte]
  refine hK1 _ _ _ ?_
  clear hK1 K1
  refine WP.cond (by simp only [ev, Env.get_put_some, ↓reduceIte]; rfl) (fun hc => ?_) (fun hc => ?_)
  · exfalso
    simp at hc
  refine WP.skip (hK2 _ _ _ ?_)
  clear hK2 K2
  refine WP.seq_k fun K2 hK2 => ?_
  refine WP.seq_k fun K1 hK1 => WP.region hT rfl ?_
  simp only [↓opsA, ↓stepA, ↓callA, List.map_cons, List.map_nil, ev, Env.get_put_some, Env.get_envOf, ↓e_move, ↓e_unOp, ↓thenA, reduceIte, Nat.reduceEqDiff, List.getElem?_cons_zero, Option.getD_some, List.append_nil, ↓reduceIte]
  refine c16 hx hl fun r3 hr3 => c18 hr2 hr3 (hK1 _ _ _ ?_)
  clear hK1 K1
  refine WP.cond (by simp only [ev, Env.get_put_some, ↓reduceIte]; rfl) (fun hc => ?_) (fun hc => ?_)
  · exfalso
    simp at hc
  refine WP.skip (hK2 _ _ _ ?_)
  clear hK2 K2
  refine WP.seq_k fun K1 hK1 => WP.region hT rfl ?_
  simp only [↓opsA, ↓stepA, ↓callA, ev, ↓e_assign, ofVal, ↓thenA, decide_true]
  refine hK1 _ _ _ ?_
  clear hK1 K1
  refine WP.ret ?_
  simp only [Env.get_put_some, reduceIte, Option.map_some, ↓reduceIte, retA, resA]
  exact ⟨_, rfl, ret_p (Left.refl hlt) (.bool _) hk⟩

end
end Go.Proofs.Ytplkjfnjdekgpaa
