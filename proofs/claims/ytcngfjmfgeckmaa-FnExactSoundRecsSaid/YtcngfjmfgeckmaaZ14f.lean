import Derived.Test.YtcngfjmfgeckmaaZ14e
set_option linter.unusedSimpArgs false
set_option linter.unusedVariables false
set_option linter.unusedSectionVars false
namespace Go.Proofs.Ytcngfjmfgeckmaa
open Go
def slOk : AV → Prop
  | .sl _ _ _ len lo _ => len ≤ lo
  | _ => True
def SlH {α : Type} (h : Heap) (n : Nat) (sz : Nat) (R : AV → α → Prop) (x : AV) (l : List α) : Prop :=
  ∃ es, rdSl h sz x = some es ∧ All2 R es l ∧ es.length ≤ maxLen ∧ x.Lt n ∧ x.one = true ∧ slOk x
section
variable {α : Type} {sz : Nat} {R : AV → α → Prop} {x : AV} {l : List α} {h : Heap} {n : Nat} {rows : List (Option (List AV))} {es : List AV}
theorem SlR.toH (hx : SlR sz R x l) : SlH h n sz R x l := by
  have ho : slOk x := by rcases slr_cases hx with ⟨rfl, _⟩ | ⟨ex, es, rfl, _⟩ <;> exact trivial
  obtain ⟨es, h1, h2, h3, h4, h5⟩ := hx
  exact ⟨es, rdSl_emp h1 h, h2, h3, h4 n, h5, ho⟩
theorem slH_nil : SlH h n sz R .nils ([] : List α) := ⟨[], rfl, .nil, Nat.zero_le _, .nils, rfl, trivial⟩
theorem slH_lt (hx : SlH h n sz R x l) : x.Lt n := by obtain ⟨_, _, _, _, h4, _⟩ := hx; exact h4
theorem slH_open (hx : SlH h n sz R x l) : ∃ es, rdSl h sz x = some es ∧ All2 R es l ∧ es.length = l.length ∧ es.length ≤ 9223372036854775807 ∧ x.cells = [x] ∧ x.good = true := by
  obtain ⟨es, h1, h2, h3, h4, h5, h6⟩ := hx
  exact ⟨es, h1, h2, all2_length h2, h3, one_cells h5, by cases x <;> first | rfl | (simp [AV.one] at h5)⟩
theorem rdSl_low {H : Heap} (hr : rdSl h sz x = some es) (hl : x.Lt n) (hlow : ∀ id, id < n → H id = h id) : rdSl H sz x = some es := by
  cases hl with
  | sl s id off len lo ex hid =>
    unfold rdSl at hr ⊢
    simp only at hr ⊢
    rw [hlow id hid]; exact hr
  | nils => exact hr
  | ro => exact hr
  | _ => cases hr
theorem rdSl_hp (hr : rdSl h sz x = some es) (hl : x.Lt n) (rows : List (Option (List AV))) : rdSl (hp h n rows) sz x = some es := rdSl_low hr hl fun id hid => hp_low hid
theorem SlH.up (hx : SlH h n sz R x l) (m : Nat) : SlH (hp h n rows) (n + m) sz R x l := by
  obtain ⟨es, h1, h2, h3, h4, h5, h6⟩ := hx
  exact ⟨es, rdSl_hp h1 h4 rows, h2, h3, h4.mono (Nat.le_add_right n m), h5, h6⟩
theorem slH_own {j m len : Nat} {ex : Bool} (hb : hp h n rows (n + j) = some es) (ha : All2 R es l) (hm : es.length ≤ 140737488355328) (hlen : es.length = len) (hj : Nat.blt j m = true) : SlH (hp h n rows) (n + m) sz R (.sl sz (n + j) 0 len len ex) l := by
  subst hlen
  refine ⟨es, ?_, ha, by unfold maxLen; omega, .sl _ _ _ _ _ _ (lt_row hj), rfl, Nat.le_refl _⟩
  simp [rdSl, hb]
def isNil : AV → Bool
  | .nils => true
  | _ => false
theorem nil_eq {T : TE} {t el : TypeId} {b : Bool} (hx : SlH h n sz R x l) (hb : b = isNil x) (ht : (T t).ty = .slice el) (d : Option Tmp) (Kc : Env → Heap → Nat → Prop) (E : Env) (H : Heap) (N : Nat) : binK T .eql t x .nils d Kc E H N = Kc (E.put d (.bool b)) H N := by
  subst hb
  obtain ⟨es, h1, _⟩ := hx
  cases x with
  | nils => exact propEq (fun h => h.2) (fun h => ⟨⟨el, ht⟩, h⟩)
  | ro => exact propEq (fun h => h.2) (fun h => ⟨⟨el, ht⟩, h⟩)
  | sl => exact propEq (fun h => h.2) (fun h => ⟨⟨el, ht⟩, h⟩)
  | _ => cases h1
theorem slH_isNil (hx : SlH h n sz R x l) (hb : isNil x = true) : l = [] := by
  cases x with
  | nils =>
    obtain ⟨es, h1, h2, _⟩ := hx
    obtain rfl : es = [] := by simpa [rdSl] using h1.symm
    cases h2; rfl
  | _ => cases hb
theorem app_nil_nil (bytes : Nat) : appL bytes ([] : List α) [] = some [] := by
  unfold appL roomL
  simp
def NOwn (n j : Nat) (sz : Nat) (R : AV → α → Prop) (A : AV) (rw : Option (List AV)) (l : List α) : Prop :=
  (A = .nils ∧ rw = none ∧ l = []) ∨ ∃ es, A = .sl sz (n + j) 0 l.length l.length false ∧ rw = some es ∧ All2 R es l ∧ es.length ≤ 140737488355328
theorem nown_nil {j : Nat} (hl : l = []) : NOwn n j sz R .nils none l := .inl ⟨rfl, rfl, hl⟩
theorem nown_own {j : Nat} (ha : All2 R es l) (hb : es.length ≤ 140737488355328) : NOwn n j sz R (.sl sz (n + j) 0 l.length l.length false) (some es) l := .inr ⟨es, rfl, rfl, ha, hb⟩
theorem nown_H {j m : Nat} {A : AV} {rw : Option (List AV)} (hA : NOwn n j sz R A rw l) (hb : hp h n rows (n + j) = rw) (hj : Nat.blt j m = true) : SlH (hp h n rows) (n + m) sz R A l := by
  rcases hA with ⟨rfl, rfl, rfl⟩ | ⟨es, rfl, rfl, ha, hm⟩
  · exact slH_nil
  · exact slH_own hb ha hm (all2_length ha) hj
theorem nown_rn {j : Nat} {js : List Nat} {H : Heap} {A : AV} {rw : Option (List AV)} (hA : NOwn n j sz R A rw l) (hk : js[j]? = some j) : Rn n H (jsel n js) A A := by
  rcases hA with ⟨rfl, rfl, rfl⟩ | ⟨es, rfl, rfl, ha, hm⟩
  · exact .keep _ .nils
  · exact Rn.own j j hk
theorem nown_rows {j : Nat} {js : List Nat} {H : Heap} {A : AV} {rw : Option (List AV)} (hA : NOwn n j sz R A rw l) (hlt : ∀ e a n, R e a → e.Lt n) : ∀ b, rw = some b → RnL n H (jsel n js) b b := fun b hb => by
  rcases hA with ⟨rfl, rfl, rfl⟩ | ⟨es, rfl, rfl, ha, hm⟩
  · cases hb
  · obtain rfl := Option.some.inj hb
    exact RnL.all2 ha hlt
theorem nown_all {j : Nat} {A : AV} {rw : Option (List AV)} (hA : NOwn n j sz R A rw l) : All2 R (rw.getD []) l := by
  rcases hA with ⟨rfl, rfl, rfl⟩ | ⟨es, rfl, rfl, ha, hm⟩
  · exact .nil
  · exact ha
theorem nown_rd {j : Nat} {A : AV} {rw : Option (List AV)} (hA : NOwn n j sz R A rw l) (h : Heap) (rows : List (Option (List AV))) (hr : (rows[j]?).getD none = rw) : rdSl (hp h n rows) sz A = some (rw.getD []) := by
  rcases hA with ⟨rfl, rfl, rfl⟩ | ⟨es, rfl, rfl, ha, hm⟩
  · rfl
  · have hb : hp h n rows (n + j) = some es := by rw [hp_get, hr]
    simp only [rdSl, if_true, hb, Option.getD_some]
    rw [if_pos (by have := all2_length ha; omega), List.drop_zero, own_take ha]
theorem nown_len {j : Nat} {A : AV} {rw : Option (List AV)} (hA : NOwn n j sz R A rw l) : (rw.getD []).length = l.length := all2_length (nown_all hA)
theorem nown_cells {j : Nat} {A : AV} {rw : Option (List AV)} (hA : NOwn n j sz R A rw l) : A.cells = [A] := by
  rcases hA with ⟨rfl, rfl, rfl⟩ | ⟨es, rfl, rfl, ha, hm⟩ <;> rfl
theorem nown_good {j : Nat} {A : AV} {rw : Option (List AV)} (hA : NOwn n j sz R A rw l) : A.good = true := by
  rcases hA with ⟨rfl, rfl, rfl⟩ | ⟨es, rfl, rfl, ha, hm⟩ <;> rfl
theorem all2_of_nil (hl : l = []) : All2 R [] l := by subst hl; exact .nil
theorem app_nil1 {T : TE} {el : TypeId} {H : Heap} {m : Nat} {y e : AV} {r : List α} {K : AV → Heap → Nat → Prop} (hsz : sz = (T el).sz) (hpos : 0 < sz) (hy : rdSl H sz y = some [e]) (h1 : (([] : List AV).length + 1) * (T el).bytes ≤ 140737488355328) (h2 : ([] : List AV).length + 1 ≤ 140737488355328) (ha : All2 R ([] ++ [e]) r)
    (hk : K (.sl sz m 0 r.length r.length false) (H.upd m ([] ++ [e])) (m + 1)) : appendP T el .nils y H m K := by
  subst hsz
  have hr := all2_length ha
  refine ⟨[e], hy, hpos, by simpa using h1, by simp, ?_⟩
  rw [if_neg (by simp)]
  rw [← hr] at hk
  simpa using hk
theorem snoc_all2 {bytes : Nat} {es : List AV} {e : AV} {r : List α} {a : α} (hq : snocL bytes l a = some r) (hal : All2 R es l) (he : R e a) : All2 R (es ++ [e]) r := (snoc_ok hq hal he).2.2
theorem snoc_len {bytes : Nat} {es : List AV} {e : AV} {r : List α} {a : α} (hq : snocL bytes l a = some r) (hal : All2 R es l) (he : R e a) : (es ++ [e]).length ≤ 140737488355328 := len_snoc (snoc_ok hq hal he).2.1
theorem app_all2 {bytes : Nat} {es es2 : List AV} {l2 r : List α} (hq : appL bytes l l2 = some r) (hal : All2 R es l) (h2 : All2 R es2 l2) : All2 R (es ++ es2) r := (app_ok hq hal h2).2.2
theorem app_len {bytes : Nat} {es es2 : List AV} {l2 r : List α} (hq : appL bytes l l2 = some r) (hal : All2 R es l) (h2 : All2 R es2 l2) : (es ++ es2).length ≤ 140737488355328 := len_app (app_ok hq hal h2).2.1
theorem app_all2n {bytes : Nat} {es : List AV} {l2 r : List α} (hq : appL bytes l l2 = some r) (hz : l2 = []) (hal : All2 R es l) : All2 R es r := by
  subst hz
  unfold appL at hq
  split at hq
  · obtain rfl := Option.some.inj hq; simpa using hal
  · cases hq
theorem app_mv1 {T : TE} {el : TypeId} {j len bytes : Nat} {H : Heap} {m : Nat} {y e : AV} {es : List AV} {r : List α} {a : α} {K : AV → Heap → Nat → Prop} (hsz : sz = (T el).sz) (hpos : 0 < sz) (hby : bytes = (T el).bytes) (hy : rdSl H sz y = some [e]) (hb : H (n + j) = some es) (hlen : es.length = len) (hq : snocL bytes l a = some r) (hal : All2 R es l) (he : R e a)
    (hk : K (.sl sz m 0 r.length r.length false) ((H.del (n + j)).upd m (es ++ [e])) (m + 1)) : appendP T el (.sl sz (n + j) 0 len len false) y H m K := by
  subst hby
  obtain ⟨h1, h2, h3⟩ := snoc_ok hq hal he
  exact app_mv hsz hpos hy hb hlen h1 h2 h3 hk
theorem app_mvN {T : TE} {el : TypeId} {j len bytes : Nat} {H : Heap} {m : Nat} {y : AV} {es es2 : List AV} {l2 r : List α} {K : AV → Heap → Nat → Prop} (hsz : sz = (T el).sz) (hpos : 0 < sz) (hby : bytes = (T el).bytes) (hy : rdSl H sz y = some es2) (hb : H (n + j) = some es) (hlen : es.length = len) (hq : appL bytes l l2 = some r) (hal : All2 R es l) (h2 : All2 R es2 l2) (hz : l2 = [])
    (hk : K (.sl sz (n + j) 0 r.length r.length false) H m) : appendP T el (.sl sz (n + j) 0 len len false) y H m K := by
  subst hby
  obtain ⟨g1, g2, g3⟩ := app_ok hq hal h2
  exact app_mv_nil hsz hpos hy hb hlen g1 g2 h2 hz g3 hk
theorem app_mvC {T : TE} {el : TypeId} {j len bytes : Nat} {H : Heap} {m : Nat} {y : AV} {es es2 : List AV} {l2 r : List α} {K : AV → Heap → Nat → Prop} (hsz : sz = (T el).sz) (hpos : 0 < sz) (hby : bytes = (T el).bytes) (hy : rdSl H sz y = some es2) (hb : H (n + j) = some es) (hlen : es.length = len) (hq : appL bytes l l2 = some r) (hal : All2 R es l) (h2 : All2 R es2 l2) (hz : l2 ≠ [])
    (hk : K (.sl sz m 0 r.length r.length false) ((H.del (n + j)).upd m (es ++ es2)) (m + 1)) : appendP T el (.sl sz (n + j) 0 len len false) y H m K := by
  subst hby
  obtain ⟨g1, g2, g3⟩ := app_ok hq hal h2
  exact app_mv_cons hsz hpos hy hb hlen g1 g2 h2 hz g3 hk
theorem app_ex1 {T : TE} {el : TypeId} {j len bytes : Nat} {H : Heap} {m : Nat} {y e : AV} {es : List AV} {r : List α} {a : α} {K : AV → Heap → Nat → Prop} (hsz : sz = (T el).sz) (hpos : 0 < sz) (hby : bytes = (T el).bytes) (hy : rdSl H sz y = some [e]) (hb : H (n + j) = some es) (hlen : es.length = len) (hq : snocL bytes l a = some r) (hal : All2 R es l) (he : R e a)
    (hk : K (.sl sz m 0 r.length r.length false) (H.upd m (es ++ [e])) (m + 1)) : appendP T el (.sl sz (n + j) 0 len len true) y H m K := by
  subst hby
  obtain ⟨h1, h2, h3⟩ := snoc_ok hq hal he
  exact app_ex hsz hpos hy hb hlen h1 h2 h3 hk
theorem app_exN {T : TE} {el : TypeId} {j len bytes : Nat} {H : Heap} {m : Nat} {y : AV} {es es2 : List AV} {l2 r : List α} {K : AV → Heap → Nat → Prop} (hsz : sz = (T el).sz) (hpos : 0 < sz) (hby : bytes = (T el).bytes) (hy : rdSl H sz y = some es2) (hb : H (n + j) = some es) (hlen : es.length = len) (hq : appL bytes l l2 = some r) (hal : All2 R es l) (h2 : All2 R es2 l2) (hz : l2 = [])
    (hk : K (.sl sz (n + j) 0 r.length r.length true) H m) : appendP T el (.sl sz (n + j) 0 len len true) y H m K := by
  subst hby
  obtain ⟨g1, g2, g3⟩ := app_ok hq hal h2
  exact app_ex_nil hsz hpos hy hb hlen g1 g2 h2 hz g3 hk
theorem app_exC {T : TE} {el : TypeId} {j len bytes : Nat} {H : Heap} {m : Nat} {y : AV} {es es2 : List AV} {l2 r : List α} {K : AV → Heap → Nat → Prop} (hsz : sz = (T el).sz) (hpos : 0 < sz) (hby : bytes = (T el).bytes) (hy : rdSl H sz y = some es2) (hb : H (n + j) = some es) (hlen : es.length = len) (hq : appL bytes l l2 = some r) (hal : All2 R es l) (h2 : All2 R es2 l2) (hz : l2 ≠ [])
    (hk : K (.sl sz m 0 r.length r.length false) (H.upd m (es ++ es2)) (m + 1)) : appendP T el (.sl sz (n + j) 0 len len true) y H m K := by
  subst hby
  obtain ⟨g1, g2, g3⟩ := app_ok hq hal h2
  exact app_ex_cons hsz hpos hy hb hlen g1 g2 h2 hz g3 hk
theorem app_nl1 {T : TE} {el : TypeId} {bytes : Nat} {H : Heap} {m : Nat} {y e : AV} {r : List α} {a : α} {K : AV → Heap → Nat → Prop} (hsz : sz = (T el).sz) (hpos : 0 < sz) (hby : bytes = (T el).bytes) (hy : rdSl H sz y = some [e]) (hq : snocL bytes l a = some r) (hl : l = []) (he : R e a)
    (hk : K (.sl sz m 0 r.length r.length false) (H.upd m ([] ++ [e])) (m + 1)) : appendP T el .nils y H m K := by
  subst hby
  obtain ⟨h1, h2, h3⟩ := snoc_ok hq (all2_of_nil hl) he
  exact app_nil1 hsz hpos hy h1 h2 h3 hk
theorem op_partH {T : TE} {t el : TypeId} {e : Operand → AV} {X : AV} {x : Operand} {lo hi : Option Operand} {a b : Int} {r : List α} {H : Heap} {N : Nat} {K : AV → Heap → Nat → Prop} (hT : (T t).ty = .slice el) (hX : e x = X) (hx : SlH h n (T el).sz R X l) (hpos : 0 < (T el).sz) (hlt : ∀ e a n, R e a → e.Lt n)
    (hlo : match lo with | some o => e o = .int .i64 a | none => a = 0) (hhi : match hi with | some o => e o = .int .i64 b | none => b = (l.length : Int)) (hr : sliceL l a b = some r) (hk : ∀ y, SlH h n (T el).sz R y r → K y H N) : opP T (.slice t x lo hi none) e H N K := by
  have hx0 := hx
  obtain ⟨es, h1, h2, h3, h4, h5, h6⟩ := hx
  by_cases hsl : ∃ s id off len lo2 ex, X = .sl s id off len lo2 ex
  · obtain ⟨s, id, off, len, lo2, ex, rfl⟩ := hsl
    obtain ⟨g1, g2, g3, rfl⟩ := sliceL_ok hr
    have h6 : len ≤ lo2 := h6
    have hlen := all2_length h2
    unfold rdSl at h1
    simp only at h1
    split at h1
    · rename_i hs
      subst hs
      cases hb : h id with
      | none => rw [hb] at h1; cases h1
      | some blk =>
        rw [hb] at h1
        simp only at h1
        split at h1
        · rename_i hle
          have hes := Option.some.inj h1
          have hel : es.length = len := by rw [← hes]; simp; omega
          simp only [opP, hX]
          refine ⟨el, hT, hpos, (fun q => by cases q), rfl, a.toNat, b.toNat, lo2, ?_, ?_, rfl, by omega, by omega, Nat.le_refl _, ?_⟩
          · cases lo with
            | none => subst hlo; rfl
            | some o => simp only [Option.map_some, bnd, hlo]; exact ⟨by omega, trivial⟩
          · cases hi with
            | none => subst hhi; simp only [Option.map_none, bnd]; omega
            | some o => simp only [Option.map_some, bnd, hhi]; exact ⟨by omega, trivial⟩
          · refine hk _ ⟨(es.drop a.toNat).take (b.toNat - a.toNat), ?_, all2_take2 (all2_drop2 h2 _) _, ?_, ?_, rfl, ?_⟩
            · simp only [rdSl, if_true, hb]
              rw [if_pos (by omega)]
              congr 1
              rw [← hes, List.drop_take, List.take_take, List.drop_drop]
              congr 1
              omega
            · simp; omega
            · cases h4 with | sl _ _ _ _ _ _ hid => exact .sl _ _ _ _ _ _ hid
            · show b.toNat - a.toNat ≤ lo2 - a.toNat
              omega
        · cases h1
    · cases h1
  · have hf : SlR (T el).sz R X l := by
      refine ⟨es, ?_, h2, h3, fun m => ?_, h5⟩
      · cases X <;> first | exact h1 | (exact absurd ⟨_, _, _, _, _, _, rfl⟩ hsl) | cases h1
      · cases X with
        | nils => exact .nils
        | ro s ex es2 =>
          unfold rdSl at h1
          simp only at h1
          split at h1
          · obtain rfl := Option.some.inj h1
            rw [lt_ro]
            intro u hu v hv
            obtain ⟨i, hi, rfl⟩ := List.mem_iff_getElem.1 hu
            obtain ⟨y, _, hy⟩ := all2_get h2 i _ (List.getElem?_eq_getElem hi)
            have := hlt _ _ m hy
            generalize es2[i] = w at hv this
            cases w with
            | agg cs =>
              cases this with
              | agg _ hl =>
                obtain ⟨j, hj, rfl⟩ := List.mem_iff_getElem.1 hv
                exact hl j _ (List.getElem?_eq_getElem hj)
            | _ => simp [AV.cells] at hv; subst hv; exact this
          · cases h1
        | sl => exact absurd ⟨_, _, _, _, _, _, rfl⟩ hsl
        | _ => cases h1
    exact op_part hT hX hf hpos hlt hlo hhi hr fun y hy => hk y hy.toH
end
end Go.Proofs.Ytcngfjmfgeckmaa
namespace Go.Proofs.Ytcngfjmfgeckmaa
open Go
section
variable {h : Heap} {n n0 : Nat} {P : Program} {T : TE} {N : Nat} {E : Env} {h0 : Heap} {Q : Exit → Env → Heap → Nat → Prop}
theorem obs {α β : Type} {x : Option α} {f : α → Option β} {r : β} (hm : Option.bind x f = some r) : ∃ a, x = some a ∧ f a = some r := Option.bind_eq_some_iff.1 hm
theorem eqT {b : Bool} (hb : b = true) : ((b = true) = True) ∧ ((b = false) = False) ∧ ((!b) = false) := by subst hb; simp
theorem eqF {b : Bool} (hb : b = false) : ((b = true) = False) ∧ ((b = false) = True) ∧ ((!b) = true) := by subst hb; simp
theorem kn {K : Env → Heap → Nat → Prop} {y : Code} (hK : ∀ E h n E2 h2 n2, Norm n0 h0 E h n E2 h2 n2 → WQ P N n0 h0 y Q E2 h2 n2 → K E h n) (hy : WQ P N n0 h0 y Q E h n) : K E h n := hK _ _ _ _ _ _ Norm.refl hy
theorem WQ.sr (hT : TEOk P T) {id : Nat} {l : List Oper} {y : Code} (hd : l.all (dstIn N) = true)
    (hc : ∀ K : Env → Heap → Nat → Prop, (∀ E h n E2 h2 n2, Norm n0 h0 E h n E2 h2 n2 → WQ P N n0 h0 y Q E2 h2 n2 → K E h n) → opsA P T l l E h n (thenA K Q .normal)) :
    WQ P N n0 h0 (.seq (.region id l.toArray false) y) Q E h n := WQ.seq_k fun K hK => WQ.region hT hd (hc K hK)
theorem Norm.mkL {rows0 : List (Option (List AV))} {rows : List (Option (List AV))} {js : List Nat} {m : Nat} (ts : List Nat) (us : List AV) {vs : List AV} (hnd : js.Nodup) (hg : ts.map (fun d => E.get d) = us) (hr : RnL n0 (hp h0 n0 rows0) (jsel n0 js) us vs) (hR : RowsR n0 (hp h0 n0 rows0) js rows js) (hm : m = js.length) :
    Norm n0 h0 E (hp h0 n0 rows0) n (envZ ts vs) (hp h0 n0 rows) (n0 + m) := Norm.mk hnd hp_lows (EnvOk.list ts us vs hg hr) hR hm
theorem retN {K : AV → Heap → Nat → Prop} {rows0 : List (Option (List AV))} {t : Nat} {js : List Nat} {u v : AV} {m : Nat} (hlt : ∀ id b, h id = some b → id < n) (hg : E.get t = u) (hr : Rn n (hp h n rows0) (jsel n []) u v) (hv : v.Lt n) (hQ : Q .ret = retA T [.tmp t] (fun r h' n' => ∃ r2 h2 n2, Conv n h r h' n' r2 h2 n2 ∧ K r2 h2 n2) .ret) (hk : K v h n) :
    WQ P N n h .ret Q E (hp h n rows0) m :=
  WQ.norm (Norm.mkL (js := []) (m := 0) (rows := []) [t] [u] (vs := [v]) List.nodup_nil (by simp [hg]) (.cons hr .nil) RowsR.nil rfl) (WQ.ret (by rw [hQ]; exact ⟨[v], by simp [resA, envZ, Env.get_put_some], ret_hp hlt hv hk⟩))
theorem hp_del_none {rows : List (Option (List AV))} {k : Nat} (hb : hp h n rows k = none) : (hp h n rows).del k = hp h n rows := by
  funext x
  unfold Heap.del
  split
  · rename_i hx; rw [hx, hb]
  · rfl
theorem app_nw1 {α : Type} {R : AV → α → Prop} {el : TypeId} {sz j bytes m : Nat} {rows : List (Option (List AV))} {A y e : AV} {rw' : Option (List AV)} {l r : List α} {a : α} {K : AV → Heap → Nat → Prop} (hA : NOwn n j sz R A rw' l) (hb : hp h n rows (n + j) = rw') (hsz : sz = (T el).sz) (hpos : 0 < sz) (hby : bytes = (T el).bytes) (hy : rdSl (hp h n rows) sz y = some [e]) (hq : snocL bytes l a = some r) (he : R e a)
    (hk : K (.sl sz m 0 r.length r.length false) (((hp h n rows).del (n + j)).upd m (rw'.getD [] ++ [e])) (m + 1)) : appendP T el A y (hp h n rows) m K := by
  rcases hA with ⟨rfl, rfl, hl⟩ | ⟨es, rfl, rfl, ha, hm⟩
  · rw [hp_del_none hb] at hk
    exact app_nl1 hsz hpos hby hy hq hl he hk
  · exact app_mv1 hsz hpos hby hy hb (all2_length ha) hq ha he hk
theorem nown_frz {α : Type} {R : AV → α → Prop} {sz j : Nat} {js : List Nat} {rows : List (Option (List AV))} {A : AV} {rw' : Option (List AV)} {l : List α} (hA : NOwn n j sz R A rw' l) (hb : (rows[j]?).getD none = rw') (hj : j ∉ js) (hlt : ∀ e a n, R e a → e.Lt n) : ∃ w, Rn n (hp h n rows) (jsel n js) A w ∧ SlR sz R w l := by
  rcases hA with ⟨rfl, rfl, rfl⟩ | ⟨es, rfl, rfl, ha, hm⟩
  · exact ⟨_, .keep _ .nils, slr_nil⟩
  · refine ⟨_, Rn.frzA j ?_ hj (RnL.all2 ha hlt) (all2_length ha).symm, own_fro ha hm hlt⟩
    cases hr : rows[j]? with
    | none => rw [hr] at hb; cases hb
    | some r => rw [hr] at hb; exact congrArg some hb
theorem hkr {α : Type} {R : AV → α → Prop} {K : AV → Heap → Nat → Prop} {r m : α} {y : AV} (hk : ∀ y, R y r → K y h n) (hm : some m = some r) (hy : R y m) : K y h n := hk y (Option.some.inj hm ▸ hy)
theorem hkr2 {α β : Type} {R : AV → α → Prop} {R1 : AV → β → Prop} {K : AV → Heap → Nat → Prop} {r m : α × β} {y y1 : AV} (hk : ∀ y0, R y0 r.1 → ∀ y1, R1 y1 r.2 → K (.tup [y0, y1]) h n) (hm : some m = some r) (hy : R y m.1) (hy1 : R1 y1 m.2) : K (.tup [y, y1]) h n := by
  cases hm; exact hk _ hy _ hy1
end
end Go.Proofs.Ytcngfjmfgeckmaa
section
namespace Go.Proofs.Ytcngfjmfgeckmaa
open Go
set_option linter.unusedSimpArgs false
set_option linter.unusedVariables false
set_option maxRecDepth 20000
attribute [local irreducible] IntKind.wrap bitA
section
variable {h : Heap} {n : Nat} {K : AV → Heap → Nat → Prop}
def m_i_within_a1 (fu : Nat) (v14 : Bool) : Option Bool :=
  some v14
def m_i_within (fu : Nat) (v0 : Int) (v1 : Int) (v2 : Int) : Option Bool :=
  (if (decide (v1 ≤ v0)) = true then (m_i_within_a1 fu (decide (v0 ≤ v2))) else (m_i_within_a1 fu false))
set_option maxHeartbeats 2000000 in
theorem w_i_within {v0 : Int} (i0 : I64 v0) {v1 : Int} (i1 : I64 v1) {v2 : Int} (i2 : I64 v2) {fu : Nat} {r : Bool} (hm : m_i_within fu v0 v1 v2 = some r) (hk : ∀ y, BoolR y r → K y h n) : CA Try.prog 85 [(.int .i64 v0), (.int .i64 v1), (.int .i64 v2)] h n K := by
 refine CA.enterQ (N := 15) (rs := [.tmp 6]) hT Try.call85 Try.func85 rfl rfl (of_decide_eq_true rfl) rfl fun hlt => ?_
 unfold m_i_within at hm
 refine WQ.sr hT rfl fun K11 hK11 => ?_
 simp only [go_sem, ↓reduceIte, reduceCtorEq, Nat.reduceEqDiff, Nat.reduceLT, Nat.reduceLeDiff, Nat.reduceAdd, Nat.reduceMul, Int.reduceLE]
 refine kn hK11 ?_
 clear hK11 K11
 refine WQ.seq_k fun K12 hK12 => ?_
 have j15 : ∀ (E' : Env) (h' : Heap) (n' : Nat) (v14 : Bool), Norm n h E' h' n' (envZ [6] [(.bool v14)]) (hp h n []) n → (m_i_within_a1 fu v14) = some r → K12 E' h' n' := by
  intro E17 H18 n19 v14 N16 hm
  refine hK12 _ _ _ _ _ _ N16 ?_
  clear N16 hK12 K12
  unfold m_i_within_a1 at hm
  refine retN (t := 6) (js := []) (u := (.bool v14)) (v := (.bool v14)) hlt ?_ (.keep _ (.bool _)) (.bool _) rfl ?_
  kernel_rfl
  exact hkr hk (m := v14) hm rfl
 clear hK12
 rcases Bool.eq_false_or_eq_true (decide (v1 ≤ v0)) with z20 | z20
 replace hm := ifT z20 hm
 refine WQ.region hT rfl ?_
 simp only [go_sem, ↓reduceIte, reduceCtorEq, Nat.reduceEqDiff, Nat.reduceLT, Nat.reduceLeDiff, Nat.reduceAdd, Nat.reduceMul, Int.reduceLE, eqT z20]
 refine j15 _ _ _ (decide (v0 ≤ v2)) ?_ hm
 refine Norm.mkL (js := []) (m := 0) [6] [(.bool (decide (v0 ≤ v2)))] (of_decide_eq_true rfl) ?_ (RnL.cons (.keep _ (.bool _)) RnL.nil) RowsR.nil rfl
 kernel_rfl
 replace hm := ifF z20 hm
 refine WQ.region hT rfl ?_
 simp only [go_sem, ↓reduceIte, reduceCtorEq, Nat.reduceEqDiff, Nat.reduceLT, Nat.reduceLeDiff, Nat.reduceAdd, Nat.reduceMul, Int.reduceLE, eqF z20]
 refine j15 _ _ _ false ?_ hm
 refine Norm.mkL (js := []) (m := 0) [6] [(.bool false)] (of_decide_eq_true rfl) ?_ (RnL.cons (.keep _ (.bool _)) RnL.nil) RowsR.nil rfl
 kernel_rfl
def m_i_isTxn (fu : Nat) (v0 : Int) : Option Bool :=
  (Option.bind (m_i_within fu v0 1 999) fun v18 => some v18)
set_option maxHeartbeats 2000000 in
theorem w_i_isTxn {v0 : Int} (i0 : I64 v0) {fu : Nat} {r : Bool} (hm : m_i_isTxn fu v0 = some r) (hk : ∀ y, BoolR y r → K y h n) : CA Try.prog 98 [(.int .i64 v0)] h n K := by
 refine CA.enterQ (N := 5) (rs := [.tmp 2]) hT Try.call98 Try.func98 rfl rfl (of_decide_eq_true rfl) rfl fun hlt => ?_
 unfold m_i_isTxn at hm
 refine WQ.sr hT rfl fun K11 hK11 => ?_
 simp only [go_sem, ↓reduceIte, reduceCtorEq, Nat.reduceEqDiff, Nat.reduceLT, Nat.reduceLeDiff, Nat.reduceAdd, Nat.reduceMul, Int.reduceLE]
 refine kn hK11 ?_
 clear hK11 K11
 obtain ⟨v18, q17, hm⟩ := obs hm
 refine WQ.sr hT rfl fun K12 hK12 => ?_
 simp only [go_sem, ↓reduceIte, reduceCtorEq, Nat.reduceEqDiff, Nat.reduceLT, Nat.reduceLeDiff, Nat.reduceAdd, Nat.reduceMul, Int.reduceLE]
 refine w_i_within i0 (i64c (a := 1) rfl) (i64c (a := 999) rfl) q17 (fun y19 h20 => ?_)
 obtain rfl := h20
 unfold sealK; simp only [go_sem, ↓reduceIte, reduceCtorEq, Nat.reduceEqDiff, Nat.reduceLT, Nat.reduceLeDiff, Nat.reduceAdd, Nat.reduceMul, Int.reduceLE]
 refine kn hK12 ?_
 clear hK12 K12
 refine retN (t := 2) (js := []) (u := (.bool v18)) (v := (.bool v18)) hlt ?_ (.keep _ (.bool _)) (.bool _) rfl ?_
 kernel_rfl
 exact hkr hk (m := v18) hm rfl
def m_i_isKey (fu : Nat) (v0 : Int) : Option Bool :=
  (Option.bind (m_i_within fu v0 0 31) fun v18 => some v18)
set_option maxHeartbeats 2000000 in
theorem w_i_isKey {v0 : Int} (i0 : I64 v0) {fu : Nat} {r : Bool} (hm : m_i_isKey fu v0 = some r) (hk : ∀ y, BoolR y r → K y h n) : CA Try.prog 99 [(.int .i64 v0)] h n K := by
 refine CA.enterQ (N := 5) (rs := [.tmp 2]) hT Try.call99 Try.func99 rfl rfl (of_decide_eq_true rfl) rfl fun hlt => ?_
 unfold m_i_isKey at hm
 refine WQ.sr hT rfl fun K11 hK11 => ?_
 simp only [go_sem, ↓reduceIte, reduceCtorEq, Nat.reduceEqDiff, Nat.reduceLT, Nat.reduceLeDiff, Nat.reduceAdd, Nat.reduceMul, Int.reduceLE]
 refine kn hK11 ?_
 clear hK11 K11
 obtain ⟨v18, q17, hm⟩ := obs hm
 refine WQ.sr hT rfl fun K12 hK12 => ?_
 simp only [go_sem, ↓reduceIte, reduceCtorEq, Nat.reduceEqDiff, Nat.reduceLT, Nat.reduceLeDiff, Nat.reduceAdd, Nat.reduceMul, Int.reduceLE]
 refine w_i_within i0 (i64c (a := 0) rfl) (i64c (a := 31) rfl) q17 (fun y19 h20 => ?_)
 obtain rfl := h20
 unfold sealK; simp only [go_sem, ↓reduceIte, reduceCtorEq, Nat.reduceEqDiff, Nat.reduceLT, Nat.reduceLeDiff, Nat.reduceAdd, Nat.reduceMul, Int.reduceLE]
 refine kn hK12 ?_
 clear hK12 K12
 refine retN (t := 2) (js := []) (u := (.bool v18)) (v := (.bool v18)) hlt ?_ (.keep _ (.bool _)) (.bool _) rfl ?_
 kernel_rfl
 exact hkr hk (m := v18) hm rfl
def m_i_isValue (fu : Nat) (v0 : Int) : Option Bool :=
  (Option.bind (m_i_within fu v0 0 9999) fun v18 => some v18)
set_option maxHeartbeats 2000000 in
theorem w_i_isValue {v0 : Int} (i0 : I64 v0) {fu : Nat} {r : Bool} (hm : m_i_isValue fu v0 = some r) (hk : ∀ y, BoolR y r → K y h n) : CA Try.prog 100 [(.int .i64 v0)] h n K := by
 refine CA.enterQ (N := 5) (rs := [.tmp 2]) hT Try.call100 Try.func100 rfl rfl (of_decide_eq_true rfl) rfl fun hlt => ?_
 unfold m_i_isValue at hm
 refine WQ.sr hT rfl fun K11 hK11 => ?_
 simp only [go_sem, ↓reduceIte, reduceCtorEq, Nat.reduceEqDiff, Nat.reduceLT, Nat.reduceLeDiff, Nat.reduceAdd, Nat.reduceMul, Int.reduceLE]
 refine kn hK11 ?_
 clear hK11 K11
 obtain ⟨v18, q17, hm⟩ := obs hm
 refine WQ.sr hT rfl fun K12 hK12 => ?_
 simp only [go_sem, ↓reduceIte, reduceCtorEq, Nat.reduceEqDiff, Nat.reduceLT, Nat.reduceLeDiff, Nat.reduceAdd, Nat.reduceMul, Int.reduceLE]
 refine w_i_within i0 (i64c (a := 0) rfl) (i64c (a := 9999) rfl) q17 (fun y19 h20 => ?_)
 obtain rfl := h20
 unfold sealK; simp only [go_sem, ↓reduceIte, reduceCtorEq, Nat.reduceEqDiff, Nat.reduceLT, Nat.reduceLeDiff, Nat.reduceAdd, Nat.reduceMul, Int.reduceLE]
 refine kn hK12 ?_
 clear hK12 K12
 refine retN (t := 2) (js := []) (u := (.bool v18)) (v := (.bool v18)) hlt ?_ (.keep _ (.bool _)) (.bool _) rfl ?_
 kernel_rfl
 exact hkr hk (m := v18) hm rfl
def m_i_Rec_turns_a1 (fu : Nat) (v20 : Bool) : Option Bool :=
  some v20
def m_i_Rec_turns (fu : Nat) (v0 : RecD) : Option Bool :=
  (if (decide (v0.kind = 2)) = true then (m_i_Rec_turns_a1 fu true) else (m_i_Rec_turns_a1 fu (decide (v0.kind = 5))))
set_option maxHeartbeats 2000000 in
theorem w_i_Rec_turns {x0 : AV} {v0 : RecD} (h0 : RecR x0 v0) {fu : Nat} {r : Bool} (hm : m_i_Rec_turns fu v0 = some r) (hk : ∀ y, BoolR y r → K y h n) : CA Try.prog 55 [x0] h n K := by
 refine CA.enterQ (N := 11) (rs := [.tmp 2]) hT Try.call55 Try.func55 rfl rfl (of_decide_eq_true rfl) rfl fun hlt => ?_
 unfold m_i_Rec_turns at hm
 have gh0 := h0
 obtain ⟨rfl, i11, i12, i13, i14, i15, i16⟩ := h0
 refine WQ.sr hT rfl fun K17 hK17 => ?_
 simp only [go_sem, ↓reduceIte, reduceCtorEq, Nat.reduceEqDiff, Nat.reduceLT, Nat.reduceLeDiff, Nat.reduceAdd, Nat.reduceMul, Int.reduceLE]
 refine kn hK17 ?_
 clear hK17 K17
 refine WQ.seq_k fun K18 hK18 => ?_
 have j21 : ∀ (E' : Env) (h' : Heap) (n' : Nat) (v20 : Bool), Norm n h E' h' n' (envZ [2] [(.bool v20)]) (hp h n []) n → (m_i_Rec_turns_a1 fu v20) = some r → K18 E' h' n' := by
  intro E23 H24 n25 v20 N22 hm
  refine hK18 _ _ _ _ _ _ N22 ?_
  clear N22 hK18 K18
  unfold m_i_Rec_turns_a1 at hm
  refine retN (t := 2) (js := []) (u := (.bool v20)) (v := (.bool v20)) hlt ?_ (.keep _ (.bool _)) (.bool _) rfl ?_
  kernel_rfl
  exact hkr hk (m := v20) hm rfl
 clear hK18
 rcases Bool.eq_false_or_eq_true (decide (v0.kind = 2)) with z26 | z26
 replace hm := ifT z26 hm
 refine WQ.region hT rfl ?_
 simp only [go_sem, ↓reduceIte, reduceCtorEq, Nat.reduceEqDiff, Nat.reduceLT, Nat.reduceLeDiff, Nat.reduceAdd, Nat.reduceMul, Int.reduceLE, eqT z26]
 refine j21 _ _ _ true ?_ hm
 refine Norm.mkL (js := []) (m := 0) [2] [(.bool true)] (of_decide_eq_true rfl) ?_ (RnL.cons (.keep _ (.bool _)) RnL.nil) RowsR.nil rfl
 kernel_rfl
 replace hm := ifF z26 hm
 refine WQ.region hT rfl ?_
 simp only [go_sem, ↓reduceIte, reduceCtorEq, Nat.reduceEqDiff, Nat.reduceLT, Nat.reduceLeDiff, Nat.reduceAdd, Nat.reduceMul, Int.reduceLE, eqF z26]
 refine j21 _ _ _ (decide (v0.kind = 5)) ?_ hm
 refine Norm.mkL (js := []) (m := 0) [2] [(.bool (decide (v0.kind = 5)))] (of_decide_eq_true rfl) ?_ (RnL.cons (.keep _ (.bool _)) RnL.nil) RowsR.nil rfl
 kernel_rfl
def m_i_RecFault_a1 (fu : Nat) (v278 : Bool) : Option Int :=
  (if v278 = true then some 1 else some 0)
def m_i_RecFault_a2 (fu : Nat) (v0 : RecD) (v315 : Bool) : Option Int :=
  (if v315 = true then (m_i_RecFault_a1 fu v315) else (m_i_RecFault_a1 fu (!((decide (v0.kind = 5)) == (decide (v0.back ≠ 0))))))
def m_i_RecFault_a3 (fu : Nat) (v0 : RecD) (v306 : Bool) : Option Int :=
  (if v306 = true then (m_i_RecFault_a1 fu v306) else (if (!v0.has) = true then (m_i_RecFault_a2 fu v0 (decide (v0.new ≠ 0))) else (m_i_RecFault_a2 fu v0 false)))
def m_i_RecFault_a4 (fu : Nat) (v0 : RecD) (v297 : Bool) : Option Int :=
  (if v297 = true then (m_i_RecFault_a1 fu v297) else (if (!v0.had) = true then (m_i_RecFault_a3 fu v0 (decide (v0.old ≠ 0))) else (m_i_RecFault_a3 fu v0 false)))
def m_i_RecFault_a5 (fu : Nat) (v0 : RecD) (v223 : Bool) : Option Int :=
  (if v223 = true then some 3 else (Option.bind (m_i_Rec_turns fu v0) fun v325 => (if (!v325) = true then (if (decide (v0.key ≠ 0)) = true then (m_i_RecFault_a4 fu v0 true) else (if v0.had = true then (m_i_RecFault_a4 fu v0 true) else (if (decide (v0.old ≠ 0)) = true then (m_i_RecFault_a4 fu v0 true) else (if v0.has = true then (m_i_RecFault_a4 fu v0 true) else (m_i_RecFault_a4 fu v0 (decide (v0.new ≠ 0))))))) else (m_i_RecFault_a4 fu v0 false))))
def m_i_RecFault_a6 (fu : Nat) (v0 : RecD) (v30 : Bool) : Option Int :=
  (Option.bind (m_i_within fu v0.kind 1 6) fun v334 => (if (!v334) = true then (m_i_RecFault_a5 fu v0 true) else (if (!v30) = true then (m_i_RecFault_a5 fu v0 true) else (Option.bind (m_i_isKey fu v0.key) fun v340 => (if (!v340) = true then (m_i_RecFault_a5 fu v0 true) else (Option.bind (m_i_isValue fu v0.old) fun v345 => (if (!v345) = true then (m_i_RecFault_a5 fu v0 true) else (Option.bind (m_i_isValue fu v0.new) fun v350 => (if (!v350) = true then (m_i_RecFault_a5 fu v0 true) else (Option.bind (m_i_within fu v0.back 0 1000) fun v355 => (m_i_RecFault_a5 fu v0 (!v355))))))))))))
def m_i_RecFault (fu : Nat) (v0 : RecD) : Option Int :=
  (Option.bind (m_i_isTxn fu v0.txn) fun v24 => (if (decide (v0.kind = 6)) = true then (m_i_RecFault_a6 fu v0 (decide (v0.txn = 0))) else (m_i_RecFault_a6 fu v0 v24)))
set_option maxHeartbeats 2000000 in
theorem w_i_RecFault {x0 : AV} {v0 : RecD} (h0 : RecR x0 v0) {fu : Nat} {r : Int} (hm : m_i_RecFault fu v0 = some r) (hk : ∀ y, Int64R y r → K y h n) : CA Try.prog 53 [x0] h n K := by
 refine CA.enterQ (N := 96) (rs := [.tmp 2]) hT Try.call53 Try.func53 rfl rfl (of_decide_eq_true rfl) rfl fun hlt => ?_
 unfold m_i_RecFault at hm
 have gh0 := h0
 obtain ⟨rfl, i11, i12, i13, i14, i15, i16⟩ := h0
 refine WQ.sr hT rfl fun K17 hK17 => ?_
 simp only [go_sem, ↓reduceIte, reduceCtorEq, Nat.reduceEqDiff, Nat.reduceLT, Nat.reduceLeDiff, Nat.reduceAdd, Nat.reduceMul, Int.reduceLE]
 refine kn hK17 ?_
 clear hK17 K17
 obtain ⟨v24, q23, hm⟩ := obs hm
 refine WQ.sr hT rfl fun K18 hK18 => ?_
 simp only [go_sem, ↓reduceIte, reduceCtorEq, Nat.reduceEqDiff, Nat.reduceLT, Nat.reduceLeDiff, Nat.reduceAdd, Nat.reduceMul, Int.reduceLE]
 refine w_i_isTxn i12 q23 (fun y25 h26 => ?_)
 obtain rfl := h26
 unfold sealK; simp only [go_sem, ↓reduceIte, reduceCtorEq, Nat.reduceEqDiff, Nat.reduceLT, Nat.reduceLeDiff, Nat.reduceAdd, Nat.reduceMul, Int.reduceLE]
 refine kn hK18 ?_
 clear hK18 K18
 refine WQ.seq_k fun K27 hK27 => ?_
 have j31 : ∀ (E' : Env) (h' : Heap) (n' : Nat) (v30 : Bool), Norm n h E' h' n' (envZ [1, 3] [(.ep 8 (.sl 8 n 0 1 1 true) 0 0), (.bool v30)]) (hp h n [some [(.agg [(.int .i64 v0.kind), (.int .i64 v0.txn), (.int .i64 v0.key), (.bool v0.had), (.int .i64 v0.old), (.bool v0.has), (.int .i64 v0.new), (.int .i64 v0.back)])]]) (n + 1) → (m_i_RecFault_a6 fu v0 v30) = some r → K27 E' h' n' := by
  intro E33 H34 n35 v30 N32 hm
  refine hK27 _ _ _ _ _ _ N32 ?_
  clear N32 hK27 K27
  unfold m_i_RecFault_a6 at hm
  refine WQ.seq_k fun K36 hK36 => ?_
  refine WQ.block ?_
  refine WQ.seq_k fun K197 hK197 => ?_
  have j224 : ∀ (E' : Env) (h' : Heap) (n' : Nat) (v223 : Bool), Norm n h E' h' n' (envZ [1, 13] [(.ep 8 (.sl 8 n 0 1 1 true) 0 0), (.bool v223)]) (hp h n [some [(.agg [(.int .i64 v0.kind), (.int .i64 v0.txn), (.int .i64 v0.key), (.bool v0.had), (.int .i64 v0.old), (.bool v0.has), (.int .i64 v0.new), (.int .i64 v0.back)])]]) (n + 1) → (m_i_RecFault_a5 fu v0 v223) = some r → K197 E' h' n' := by
   intro E226 H227 n228 v223 N225 hm
   refine hK197 _ _ _ _ _ _ N225 ?_
   clear N225 hK197 K197
   unfold m_i_RecFault_a5 at hm
   refine WQ.cond (t := v223) ?_ (fun z229 => ?_) (fun z229 => ?_)
   kernel_rfl
   replace hm := ifT z229 hm
   refine WQ.sr hT rfl fun K230 hK230 => ?_
   simp only [go_sem, ↓reduceIte, reduceCtorEq, Nat.reduceEqDiff, Nat.reduceLT, Nat.reduceLeDiff, Nat.reduceAdd, Nat.reduceMul, Int.reduceLE]
   refine kn hK230 ?_
   clear hK230 K230
   refine retN (t := 2) (js := []) (u := (.int .i64 3)) (v := (.int .i64 3)) hlt ?_ (.keep _ (.int _ _)) (.int _ _) rfl ?_
   kernel_rfl
   exact hkr hk (m := 3) hm (int64R (i64c (a := 3) rfl))
   replace hm := ifF z229 hm
   refine WQ.seq_k fun K231 hK231 => ?_
   have j279 : ∀ (E' : Env) (h' : Heap) (n' : Nat) (v278 : Bool), Norm n h E' h' n' (envZ [46] [(.bool v278)]) (hp h n []) n → (m_i_RecFault_a1 fu v278) = some r → K231 E' h' n' := by
    intro E281 H282 n283 v278 N280 hm
    refine hK231 _ _ _ _ _ _ N280 ?_
    clear N280 hK231 K231
    unfold m_i_RecFault_a1 at hm
    refine WQ.cond (t := v278) ?_ (fun z284 => ?_) (fun z284 => ?_)
    kernel_rfl
    replace hm := ifT z284 hm
    refine WQ.sr hT rfl fun K285 hK285 => ?_
    simp only [go_sem, ↓reduceIte, reduceCtorEq, Nat.reduceEqDiff, Nat.reduceLT, Nat.reduceLeDiff, Nat.reduceAdd, Nat.reduceMul, Int.reduceLE]
    refine kn hK285 ?_
    clear hK285 K285
    refine retN (t := 2) (js := []) (u := (.int .i64 1)) (v := (.int .i64 1)) hlt ?_ (.keep _ (.int _ _)) (.int _ _) rfl ?_
    kernel_rfl
    exact hkr hk (m := 1) hm (int64R (i64c (a := 1) rfl))
    replace hm := ifF z284 hm
    refine WQ.skip ?_
    simp only [go_sem, ↓reduceIte, reduceCtorEq, Nat.reduceEqDiff, Nat.reduceLT, Nat.reduceLeDiff, Nat.reduceAdd, Nat.reduceMul, Int.reduceLE]
    refine kn hK36 ?_
    clear hK36 K36
    refine WQ.sr hT rfl fun K286 hK286 => ?_
    simp only [go_sem, ↓reduceIte, reduceCtorEq, Nat.reduceEqDiff, Nat.reduceLT, Nat.reduceLeDiff, Nat.reduceAdd, Nat.reduceMul, Int.reduceLE]
    refine kn hK286 ?_
    clear hK286 K286
    refine retN (t := 2) (js := []) (u := (.int .i64 0)) (v := (.int .i64 0)) hlt ?_ (.keep _ (.int _ _)) (.int _ _) rfl ?_
    kernel_rfl
    exact hkr hk (m := 0) hm (int64R (i64c (a := 0) rfl))
   clear hK231
   refine WQ.seq_k fun K287 hK287 => ?_
   have j298 : ∀ (E' : Env) (h' : Heap) (n' : Nat) (v297 : Bool), Norm n h E' h' n' (envZ [1, 46] [(.ep 8 (.sl 8 n 0 1 1 true) 0 0), (.bool v297)]) (hp h n [some [(.agg [(.int .i64 v0.kind), (.int .i64 v0.txn), (.int .i64 v0.key), (.bool v0.had), (.int .i64 v0.old), (.bool v0.has), (.int .i64 v0.new), (.int .i64 v0.back)])]]) (n + 1) → (m_i_RecFault_a4 fu v0 v297) = some r → K287 E' h' n' := by
    intro E300 H301 n302 v297 N299 hm
    refine hK287 _ _ _ _ _ _ N299 ?_
    clear N299 hK287 K287
    unfold m_i_RecFault_a4 at hm
    refine WQ.cond (t := v297) ?_ (fun z303 => ?_) (fun z303 => ?_)
    kernel_rfl
    replace hm := ifT z303 hm
    refine WQ.skip ?_
    simp only [go_sem, ↓reduceIte, reduceCtorEq, Nat.reduceEqDiff, Nat.reduceLT, Nat.reduceLeDiff, Nat.reduceAdd, Nat.reduceMul, Int.reduceLE]
    refine j279 _ _ _ v297 ?_ hm
    refine Norm.mkL (js := []) (m := 0) [46] [(.bool v297)] (of_decide_eq_true rfl) ?_ (RnL.cons (.keep _ (.bool _)) RnL.nil) RowsR.nil rfl
    kernel_rfl
    replace hm := ifF z303 hm
    refine WQ.seq_k fun K304 hK304 => ?_
    have j307 : ∀ (E' : Env) (h' : Heap) (n' : Nat) (v306 : Bool), Norm n h E' h' n' (envZ [1, 46] [(.ep 8 (.sl 8 n 0 1 1 true) 0 0), (.bool v306)]) (hp h n [some [(.agg [(.int .i64 v0.kind), (.int .i64 v0.txn), (.int .i64 v0.key), (.bool v0.had), (.int .i64 v0.old), (.bool v0.has), (.int .i64 v0.new), (.int .i64 v0.back)])]]) (n + 1) → (m_i_RecFault_a3 fu v0 v306) = some r → K304 E' h' n' := by
     intro E309 H310 n311 v306 N308 hm
     refine hK304 _ _ _ _ _ _ N308 ?_
     clear N308 hK304 K304
     unfold m_i_RecFault_a3 at hm
     refine WQ.cond (t := v306) ?_ (fun z312 => ?_) (fun z312 => ?_)
     kernel_rfl
     replace hm := ifT z312 hm
     refine WQ.skip ?_
     simp only [go_sem, ↓reduceIte, reduceCtorEq, Nat.reduceEqDiff, Nat.reduceLT, Nat.reduceLeDiff, Nat.reduceAdd, Nat.reduceMul, Int.reduceLE]
     refine j279 _ _ _ v306 ?_ hm
     refine Norm.mkL (js := []) (m := 0) [46] [(.bool v306)] (of_decide_eq_true rfl) ?_ (RnL.cons (.keep _ (.bool _)) RnL.nil) RowsR.nil rfl
     kernel_rfl
     replace hm := ifF z312 hm
     refine WQ.seq_k fun K313 hK313 => ?_
     have j316 : ∀ (E' : Env) (h' : Heap) (n' : Nat) (v315 : Bool), Norm n h E' h' n' (envZ [1, 46] [(.ep 8 (.sl 8 n 0 1 1 true) 0 0), (.bool v315)]) (hp h n [some [(.agg [(.int .i64 v0.kind), (.int .i64 v0.txn), (.int .i64 v0.key), (.bool v0.had), (.int .i64 v0.old), (.bool v0.has), (.int .i64 v0.new), (.int .i64 v0.back)])]]) (n + 1) → (m_i_RecFault_a2 fu v0 v315) = some r → K313 E' h' n' := by
      intro E318 H319 n320 v315 N317 hm
      refine hK313 _ _ _ _ _ _ N317 ?_
      clear N317 hK313 K313
      unfold m_i_RecFault_a2 at hm
      refine WQ.cond (t := v315) ?_ (fun z321 => ?_) (fun z321 => ?_)
      kernel_rfl
      replace hm := ifT z321 hm
      refine WQ.skip ?_
      simp only [go_sem, ↓reduceIte, reduceCtorEq, Nat.reduceEqDiff, Nat.reduceLT, Nat.reduceLeDiff, Nat.reduceAdd, Nat.reduceMul, Int.reduceLE]
      refine j279 _ _ _ v315 ?_ hm
      refine Norm.mkL (js := []) (m := 0) [46] [(.bool v315)] (of_decide_eq_true rfl) ?_ (RnL.cons (.keep _ (.bool _)) RnL.nil) RowsR.nil rfl
      kernel_rfl
      replace hm := ifF z321 hm
      refine WQ.region hT rfl ?_
      simp only [go_sem, ↓reduceIte, reduceCtorEq, Nat.reduceEqDiff, Nat.reduceLT, Nat.reduceLeDiff, Nat.reduceAdd, Nat.reduceMul, Int.reduceLE]
      refine j279 _ _ _ (!((decide (v0.kind = 5)) == (decide (v0.back ≠ 0)))) ?_ hm
      refine Norm.mkL (js := []) (m := 0) [46] [(.bool (!((decide (v0.kind = 5)) == (decide (v0.back ≠ 0)))))] (of_decide_eq_true rfl) ?_ (RnL.cons (.keep _ (.bool _)) RnL.nil) RowsR.nil rfl
      kernel_rfl
     clear hK313
     rcases Bool.eq_false_or_eq_true (!v0.has) with z322 | z322
     replace hm := ifT z322 hm
     refine WQ.region hT rfl ?_
     simp only [go_sem, ↓reduceIte, reduceCtorEq, Nat.reduceEqDiff, Nat.reduceLT, Nat.reduceLeDiff, Nat.reduceAdd, Nat.reduceMul, Int.reduceLE, eqT z322]
     refine j316 _ _ _ (decide (v0.new ≠ 0)) ?_ hm
     refine Norm.mkL (js := [0]) (m := 1) [1, 46] [(.ep 8 (.sl 8 n 0 1 1 true) 0 0), (.bool (decide (v0.new ≠ 0)))] (of_decide_eq_true rfl) ?_ (RnL.cons (Rn.ptr (js := [0]) 0 0) (RnL.cons (.keep _ (.bool _)) RnL.nil)) (RowsR.row 0 _ _ _ _ hp_get0 (RnL.cons (.keep _ (tyRec_76.lt _ _ _ gh0)) RnL.nil) RowsR.nil) rfl
     kernel_rfl
     replace hm := ifF z322 hm
     refine WQ.region hT rfl ?_
     simp only [go_sem, ↓reduceIte, reduceCtorEq, Nat.reduceEqDiff, Nat.reduceLT, Nat.reduceLeDiff, Nat.reduceAdd, Nat.reduceMul, Int.reduceLE, eqF z322]
     refine j316 _ _ _ false ?_ hm
     refine Norm.mkL (js := [0]) (m := 1) [1, 46] [(.ep 8 (.sl 8 n 0 1 1 true) 0 0), (.bool false)] (of_decide_eq_true rfl) ?_ (RnL.cons (Rn.ptr (js := [0]) 0 0) (RnL.cons (.keep _ (.bool _)) RnL.nil)) (RowsR.row 0 _ _ _ _ hp_get0 (RnL.cons (.keep _ (tyRec_76.lt _ _ _ gh0)) RnL.nil) RowsR.nil) rfl
     kernel_rfl
    clear hK304
    rcases Bool.eq_false_or_eq_true (!v0.had) with z323 | z323
    replace hm := ifT z323 hm
    refine WQ.region hT rfl ?_
    simp only [go_sem, ↓reduceIte, reduceCtorEq, Nat.reduceEqDiff, Nat.reduceLT, Nat.reduceLeDiff, Nat.reduceAdd, Nat.reduceMul, Int.reduceLE, eqT z323]
    refine j307 _ _ _ (decide (v0.old ≠ 0)) ?_ hm
    refine Norm.mkL (js := [0]) (m := 1) [1, 46] [(.ep 8 (.sl 8 n 0 1 1 true) 0 0), (.bool (decide (v0.old ≠ 0)))] (of_decide_eq_true rfl) ?_ (RnL.cons (Rn.ptr (js := [0]) 0 0) (RnL.cons (.keep _ (.bool _)) RnL.nil)) (RowsR.row 0 _ _ _ _ hp_get0 (RnL.cons (.keep _ (tyRec_76.lt _ _ _ gh0)) RnL.nil) RowsR.nil) rfl
    kernel_rfl
    replace hm := ifF z323 hm
    refine WQ.region hT rfl ?_
    simp only [go_sem, ↓reduceIte, reduceCtorEq, Nat.reduceEqDiff, Nat.reduceLT, Nat.reduceLeDiff, Nat.reduceAdd, Nat.reduceMul, Int.reduceLE, eqF z323]
    refine j307 _ _ _ false ?_ hm
    refine Norm.mkL (js := [0]) (m := 1) [1, 46] [(.ep 8 (.sl 8 n 0 1 1 true) 0 0), (.bool false)] (of_decide_eq_true rfl) ?_ (RnL.cons (Rn.ptr (js := [0]) 0 0) (RnL.cons (.keep _ (.bool _)) RnL.nil)) (RowsR.row 0 _ _ _ _ hp_get0 (RnL.cons (.keep _ (tyRec_76.lt _ _ _ gh0)) RnL.nil) RowsR.nil) rfl
    kernel_rfl
   clear hK287
   obtain ⟨v325, q324, hm⟩ := obs hm
   rcases Bool.eq_false_or_eq_true (!v325) with z328 | z328
   replace hm := ifT z328 hm
   rcases Bool.eq_false_or_eq_true (decide (v0.key ≠ 0)) with z329 | z329
   replace hm := ifT z329 hm
   refine WQ.region hT rfl ?_
   simp only [go_sem, ↓reduceIte, reduceCtorEq, Nat.reduceEqDiff, Nat.reduceLT, Nat.reduceLeDiff, Nat.reduceAdd, Nat.reduceMul, Int.reduceLE]
   refine w_i_Rec_turns gh0 q324 (fun y326 h327 => ?_)
   obtain rfl := h327
   unfold sealK; simp only [go_sem, ↓reduceIte, reduceCtorEq, Nat.reduceEqDiff, Nat.reduceLT, Nat.reduceLeDiff, Nat.reduceAdd, Nat.reduceMul, Int.reduceLE, eqT z328, eqT z329]
   refine j298 _ _ _ true ?_ hm
   refine Norm.mkL (js := [0]) (m := 1) [1, 46] [(.ep 8 (.sl 8 n 0 1 1 true) 0 0), (.bool true)] (of_decide_eq_true rfl) ?_ (RnL.cons (Rn.ptr (js := [0]) 0 0) (RnL.cons (.keep _ (.bool _)) RnL.nil)) (RowsR.row 0 _ _ _ _ hp_get0 (RnL.cons (.keep _ (tyRec_76.lt _ _ _ gh0)) RnL.nil) RowsR.nil) rfl
   kernel_rfl
   replace hm := ifF z329 hm
   rcases Bool.eq_false_or_eq_true (v0.had) with z330 | z330
   replace hm := ifT z330 hm
   refine WQ.region hT rfl ?_
   simp only [go_sem, ↓reduceIte, reduceCtorEq, Nat.reduceEqDiff, Nat.reduceLT, Nat.reduceLeDiff, Nat.reduceAdd, Nat.reduceMul, Int.reduceLE]
   refine w_i_Rec_turns gh0 q324 (fun y326 h327 => ?_)
   obtain rfl := h327
   unfold sealK; simp only [go_sem, ↓reduceIte, reduceCtorEq, Nat.reduceEqDiff, Nat.reduceLT, Nat.reduceLeDiff, Nat.reduceAdd, Nat.reduceMul, Int.reduceLE, eqT z328, eqF z329, eqT z330]
   refine j298 _ _ _ true ?_ hm
   refine Norm.mkL (js := [0]) (m := 1) [1, 46] [(.ep 8 (.sl 8 n 0 1 1 true) 0 0), (.bool true)] (of_decide_eq_true rfl) ?_ (RnL.cons (Rn.ptr (js := [0]) 0 0) (RnL.cons (.keep _ (.bool _)) RnL.nil)) (RowsR.row 0 _ _ _ _ hp_get0 (RnL.cons (.keep _ (tyRec_76.lt _ _ _ gh0)) RnL.nil) RowsR.nil) rfl
   kernel_rfl
   replace hm := ifF z330 hm
   rcases Bool.eq_false_or_eq_true (decide (v0.old ≠ 0)) with z331 | z331
   replace hm := ifT z331 hm
   refine WQ.region hT rfl ?_
   simp only [go_sem, ↓reduceIte, reduceCtorEq, Nat.reduceEqDiff, Nat.reduceLT, Nat.reduceLeDiff, Nat.reduceAdd, Nat.reduceMul, Int.reduceLE]
   refine w_i_Rec_turns gh0 q324 (fun y326 h327 => ?_)
   obtain rfl := h327
   unfold sealK; simp only [go_sem, ↓reduceIte, reduceCtorEq, Nat.reduceEqDiff, Nat.reduceLT, Nat.reduceLeDiff, Nat.reduceAdd, Nat.reduceMul, Int.reduceLE, eqT z328, eqF z329, eqF z330, eqT z331]
   refine j298 _ _ _ true ?_ hm
   refine Norm.mkL (js := [0]) (m := 1) [1, 46] [(.ep 8 (.sl 8 n 0 1 1 true) 0 0), (.bool true)] (of_decide_eq_true rfl) ?_ (RnL.cons (Rn.ptr (js := [0]) 0 0) (RnL.cons (.keep _ (.bool _)) RnL.nil)) (RowsR.row 0 _ _ _ _ hp_get0 (RnL.cons (.keep _ (tyRec_76.lt _ _ _ gh0)) RnL.nil) RowsR.nil) rfl
   kernel_rfl
   replace hm := ifF z331 hm
   rcases Bool.eq_false_or_eq_true (v0.has) with z332 | z332
   replace hm := ifT z332 hm
   refine WQ.region hT rfl ?_
   simp only [go_sem, ↓reduceIte, reduceCtorEq, Nat.reduceEqDiff, Nat.reduceLT, Nat.reduceLeDiff, Nat.reduceAdd, Nat.reduceMul, Int.reduceLE]
   refine w_i_Rec_turns gh0 q324 (fun y326 h327 => ?_)
   obtain rfl := h327
   unfold sealK; simp only [go_sem, ↓reduceIte, reduceCtorEq, Nat.reduceEqDiff, Nat.reduceLT, Nat.reduceLeDiff, Nat.reduceAdd, Nat.reduceMul, Int.reduceLE, eqT z328, eqF z329, eqF z330, eqF z331, eqT z332]
   refine j298 _ _ _ true ?_ hm
   refine Norm.mkL (js := [0]) (m := 1) [1, 46] [(.ep 8 (.sl 8 n 0 1 1 true) 0 0), (.bool true)] (of_decide_eq_true rfl) ?_ (RnL.cons (Rn.ptr (js := [0]) 0 0) (RnL.cons (.keep _ (.bool _)) RnL.nil)) (RowsR.row 0 _ _ _ _ hp_get0 (RnL.cons (.keep _ (tyRec_76.lt _ _ _ gh0)) RnL.nil) RowsR.nil) rfl
   kernel_rfl
   replace hm := ifF z332 hm
   refine WQ.region hT rfl ?_
   simp only [go_sem, ↓reduceIte, reduceCtorEq, Nat.reduceEqDiff, Nat.reduceLT, Nat.reduceLeDiff, Nat.reduceAdd, Nat.reduceMul, Int.reduceLE]
   refine w_i_Rec_turns gh0 q324 (fun y326 h327 => ?_)
   obtain rfl := h327
   unfold sealK; simp only [go_sem, ↓reduceIte, reduceCtorEq, Nat.reduceEqDiff, Nat.reduceLT, Nat.reduceLeDiff, Nat.reduceAdd, Nat.reduceMul, Int.reduceLE, eqT z328, eqF z329, eqF z330, eqF z331, eqF z332]
   refine j298 _ _ _ (decide (v0.new ≠ 0)) ?_ hm
   refine Norm.mkL (js := [0]) (m := 1) [1, 46] [(.ep 8 (.sl 8 n 0 1 1 true) 0 0), (.bool (decide (v0.new ≠ 0)))] (of_decide_eq_true rfl) ?_ (RnL.cons (Rn.ptr (js := [0]) 0 0) (RnL.cons (.keep _ (.bool _)) RnL.nil)) (RowsR.row 0 _ _ _ _ hp_get0 (RnL.cons (.keep _ (tyRec_76.lt _ _ _ gh0)) RnL.nil) RowsR.nil) rfl
   kernel_rfl
   replace hm := ifF z328 hm
   refine WQ.region hT rfl ?_
   simp only [go_sem, ↓reduceIte, reduceCtorEq, Nat.reduceEqDiff, Nat.reduceLT, Nat.reduceLeDiff, Nat.reduceAdd, Nat.reduceMul, Int.reduceLE]
   refine w_i_Rec_turns gh0 q324 (fun y326 h327 => ?_)
   obtain rfl := h327
   unfold sealK; simp only [go_sem, ↓reduceIte, reduceCtorEq, Nat.reduceEqDiff, Nat.reduceLT, Nat.reduceLeDiff, Nat.reduceAdd, Nat.reduceMul, Int.reduceLE, eqF z328]
   refine j298 _ _ _ false ?_ hm
   refine Norm.mkL (js := [0]) (m := 1) [1, 46] [(.ep 8 (.sl 8 n 0 1 1 true) 0 0), (.bool false)] (of_decide_eq_true rfl) ?_ (RnL.cons (Rn.ptr (js := [0]) 0 0) (RnL.cons (.keep _ (.bool _)) RnL.nil)) (RowsR.row 0 _ _ _ _ hp_get0 (RnL.cons (.keep _ (tyRec_76.lt _ _ _ gh0)) RnL.nil) RowsR.nil) rfl
   kernel_rfl
  clear hK197
  obtain ⟨v334, q333, hm⟩ := obs hm
  rcases Bool.eq_false_or_eq_true (!v334) with z337 | z337
  replace hm := ifT z337 hm
  refine WQ.region hT rfl ?_
  simp only [go_sem, ↓reduceIte, reduceCtorEq, Nat.reduceEqDiff, Nat.reduceLT, Nat.reduceLeDiff, Nat.reduceAdd, Nat.reduceMul, Int.reduceLE]
  refine w_i_within i11 (i64c (a := 1) rfl) (i64c (a := 6) rfl) q333 (fun y335 h336 => ?_)
  obtain rfl := h336
  unfold sealK; simp only [go_sem, ↓reduceIte, reduceCtorEq, Nat.reduceEqDiff, Nat.reduceLT, Nat.reduceLeDiff, Nat.reduceAdd, Nat.reduceMul, Int.reduceLE, eqT z337]
  refine j224 _ _ _ true ?_ hm
  refine Norm.mkL (js := [0]) (m := 1) [1, 13] [(.ep 8 (.sl 8 n 0 1 1 true) 0 0), (.bool true)] (of_decide_eq_true rfl) ?_ (RnL.cons (Rn.ptr (js := [0]) 0 0) (RnL.cons (.keep _ (.bool _)) RnL.nil)) (RowsR.row 0 _ _ _ _ hp_get0 (RnL.cons (.keep _ (tyRec_76.lt _ _ _ gh0)) RnL.nil) RowsR.nil) rfl
  kernel_rfl
  replace hm := ifF z337 hm
  rcases Bool.eq_false_or_eq_true (!v30) with z338 | z338
  replace hm := ifT z338 hm
  refine WQ.region hT rfl ?_
  simp only [go_sem, ↓reduceIte, reduceCtorEq, Nat.reduceEqDiff, Nat.reduceLT, Nat.reduceLeDiff, Nat.reduceAdd, Nat.reduceMul, Int.reduceLE]
  refine w_i_within i11 (i64c (a := 1) rfl) (i64c (a := 6) rfl) q333 (fun y335 h336 => ?_)
  obtain rfl := h336
  unfold sealK; simp only [go_sem, ↓reduceIte, reduceCtorEq, Nat.reduceEqDiff, Nat.reduceLT, Nat.reduceLeDiff, Nat.reduceAdd, Nat.reduceMul, Int.reduceLE, eqF z337, eqT z338]
  refine j224 _ _ _ true ?_ hm
  refine Norm.mkL (js := [0]) (m := 1) [1, 13] [(.ep 8 (.sl 8 n 0 1 1 true) 0 0), (.bool true)] (of_decide_eq_true rfl) ?_ (RnL.cons (Rn.ptr (js := [0]) 0 0) (RnL.cons (.keep _ (.bool _)) RnL.nil)) (RowsR.row 0 _ _ _ _ hp_get0 (RnL.cons (.keep _ (tyRec_76.lt _ _ _ gh0)) RnL.nil) RowsR.nil) rfl
  kernel_rfl
  replace hm := ifF z338 hm
  obtain ⟨v340, q339, hm⟩ := obs hm
  rcases Bool.eq_false_or_eq_true (!v340) with z343 | z343
  replace hm := ifT z343 hm
  refine WQ.region hT rfl ?_
  simp only [go_sem, ↓reduceIte, reduceCtorEq, Nat.reduceEqDiff, Nat.reduceLT, Nat.reduceLeDiff, Nat.reduceAdd, Nat.reduceMul, Int.reduceLE]
  refine w_i_within i11 (i64c (a := 1) rfl) (i64c (a := 6) rfl) q333 (fun y335 h336 => ?_)
  obtain rfl := h336
  unfold sealK; simp only [go_sem, ↓reduceIte, reduceCtorEq, Nat.reduceEqDiff, Nat.reduceLT, Nat.reduceLeDiff, Nat.reduceAdd, Nat.reduceMul, Int.reduceLE, eqF z337, eqF z338]
  refine w_i_isKey i13 q339 (fun y341 h342 => ?_)
  obtain rfl := h342
  unfold sealK; simp only [go_sem, ↓reduceIte, reduceCtorEq, Nat.reduceEqDiff, Nat.reduceLT, Nat.reduceLeDiff, Nat.reduceAdd, Nat.reduceMul, Int.reduceLE, eqF z337, eqF z338, eqT z343]
  refine j224 _ _ _ true ?_ hm
  refine Norm.mkL (js := [0]) (m := 1) [1, 13] [(.ep 8 (.sl 8 n 0 1 1 true) 0 0), (.bool true)] (of_decide_eq_true rfl) ?_ (RnL.cons (Rn.ptr (js := [0]) 0 0) (RnL.cons (.keep _ (.bool _)) RnL.nil)) (RowsR.row 0 _ _ _ _ hp_get0 (RnL.cons (.keep _ (tyRec_76.lt _ _ _ gh0)) RnL.nil) RowsR.nil) rfl
  kernel_rfl
  replace hm := ifF z343 hm
  obtain ⟨v345, q344, hm⟩ := obs hm
  rcases Bool.eq_false_or_eq_true (!v345) with z348 | z348
  replace hm := ifT z348 hm
  refine WQ.region hT rfl ?_
  simp only [go_sem, ↓reduceIte, reduceCtorEq, Nat.reduceEqDiff, Nat.reduceLT, Nat.reduceLeDiff, Nat.reduceAdd, Nat.reduceMul, Int.reduceLE]
  refine w_i_within i11 (i64c (a := 1) rfl) (i64c (a := 6) rfl) q333 (fun y335 h336 => ?_)
  obtain rfl := h336
  unfold sealK; simp only [go_sem, ↓reduceIte, reduceCtorEq, Nat.reduceEqDiff, Nat.reduceLT, Nat.reduceLeDiff, Nat.reduceAdd, Nat.reduceMul, Int.reduceLE, eqF z337, eqF z338]
  refine w_i_isKey i13 q339 (fun y341 h342 => ?_)
  obtain rfl := h342
  unfold sealK; simp only [go_sem, ↓reduceIte, reduceCtorEq, Nat.reduceEqDiff, Nat.reduceLT, Nat.reduceLeDiff, Nat.reduceAdd, Nat.reduceMul, Int.reduceLE, eqF z337, eqF z338, eqF z343]
  refine w_i_isValue i14 q344 (fun y346 h347 => ?_)
  obtain rfl := h347
  unfold sealK; simp only [go_sem, ↓reduceIte, reduceCtorEq, Nat.reduceEqDiff, Nat.reduceLT, Nat.reduceLeDiff, Nat.reduceAdd, Nat.reduceMul, Int.reduceLE, eqF z337, eqF z338, eqF z343, eqT z348]
  refine j224 _ _ _ true ?_ hm
  refine Norm.mkL (js := [0]) (m := 1) [1, 13] [(.ep 8 (.sl 8 n 0 1 1 true) 0 0), (.bool true)] (of_decide_eq_true rfl) ?_ (RnL.cons (Rn.ptr (js := [0]) 0 0) (RnL.cons (.keep _ (.bool _)) RnL.nil)) (RowsR.row 0 _ _ _ _ hp_get0 (RnL.cons (.keep _ (tyRec_76.lt _ _ _ gh0)) RnL.nil) RowsR.nil) rfl
  kernel_rfl
  replace hm := ifF z348 hm
  obtain ⟨v350, q349, hm⟩ := obs hm
  rcases Bool.eq_false_or_eq_true (!v350) with z353 | z353
  replace hm := ifT z353 hm
  refine WQ.region hT rfl ?_
  simp only [go_sem, ↓reduceIte, reduceCtorEq, Nat.reduceEqDiff, Nat.reduceLT, Nat.reduceLeDiff, Nat.reduceAdd, Nat.reduceMul, Int.reduceLE]
  refine w_i_within i11 (i64c (a := 1) rfl) (i64c (a := 6) rfl) q333 (fun y335 h336 => ?_)
  obtain rfl := h336
  unfold sealK; simp only [go_sem, ↓reduceIte, reduceCtorEq, Nat.reduceEqDiff, Nat.reduceLT, Nat.reduceLeDiff, Nat.reduceAdd, Nat.reduceMul, Int.reduceLE, eqF z337, eqF z338]
  refine w_i_isKey i13 q339 (fun y341 h342 => ?_)
  obtain rfl := h342
  unfold sealK; simp only [go_sem, ↓reduceIte, reduceCtorEq, Nat.reduceEqDiff, Nat.reduceLT, Nat.reduceLeDiff, Nat.reduceAdd, Nat.reduceMul, Int.reduceLE, eqF z337, eqF z338, eqF z343]
  refine w_i_isValue i14 q344 (fun y346 h347 => ?_)
  obtain rfl := h347
  unfold sealK; simp only [go_sem, ↓reduceIte, reduceCtorEq, Nat.reduceEqDiff, Nat.reduceLT, Nat.reduceLeDiff, Nat.reduceAdd, Nat.reduceMul, Int.reduceLE, eqF z337, eqF z338, eqF z343, eqF z348]
  refine w_i_isValue i15 q349 (fun y351 h352 => ?_)
  obtain rfl := h352
  unfold sealK; simp only [go_sem, ↓reduceIte, reduceCtorEq, Nat.reduceEqDiff, Nat.reduceLT, Nat.reduceLeDiff, Nat.reduceAdd, Nat.reduceMul, Int.reduceLE, eqF z337, eqF z338, eqF z343, eqF z348, eqT z353]
  refine j224 _ _ _ true ?_ hm
  refine Norm.mkL (js := [0]) (m := 1) [1, 13] [(.ep 8 (.sl 8 n 0 1 1 true) 0 0), (.bool true)] (of_decide_eq_true rfl) ?_ (RnL.cons (Rn.ptr (js := [0]) 0 0) (RnL.cons (.keep _ (.bool _)) RnL.nil)) (RowsR.row 0 _ _ _ _ hp_get0 (RnL.cons (.keep _ (tyRec_76.lt _ _ _ gh0)) RnL.nil) RowsR.nil) rfl
  kernel_rfl
  replace hm := ifF z353 hm
  obtain ⟨v355, q354, hm⟩ := obs hm
  refine WQ.region hT rfl ?_
  simp only [go_sem, ↓reduceIte, reduceCtorEq, Nat.reduceEqDiff, Nat.reduceLT, Nat.reduceLeDiff, Nat.reduceAdd, Nat.reduceMul, Int.reduceLE]
  refine w_i_within i11 (i64c (a := 1) rfl) (i64c (a := 6) rfl) q333 (fun y335 h336 => ?_)
  obtain rfl := h336
  unfold sealK; simp only [go_sem, ↓reduceIte, reduceCtorEq, Nat.reduceEqDiff, Nat.reduceLT, Nat.reduceLeDiff, Nat.reduceAdd, Nat.reduceMul, Int.reduceLE, eqF z337, eqF z338]
  refine w_i_isKey i13 q339 (fun y341 h342 => ?_)
  obtain rfl := h342
  unfold sealK; simp only [go_sem, ↓reduceIte, reduceCtorEq, Nat.reduceEqDiff, Nat.reduceLT, Nat.reduceLeDiff, Nat.reduceAdd, Nat.reduceMul, Int.reduceLE, eqF z337, eqF z338, eqF z343]
  refine w_i_isValue i14 q344 (fun y346 h347 => ?_)
  obtain rfl := h347
  unfold sealK; simp only [go_sem, ↓reduceIte, reduceCtorEq, Nat.reduceEqDiff, Nat.reduceLT, Nat.reduceLeDiff, Nat.reduceAdd, Nat.reduceMul, Int.reduceLE, eqF z337, eqF z338, eqF z343, eqF z348]
  refine w_i_isValue i15 q349 (fun y351 h352 => ?_)
  obtain rfl := h352
  unfold sealK; simp only [go_sem, ↓reduceIte, reduceCtorEq, Nat.reduceEqDiff, Nat.reduceLT, Nat.reduceLeDiff, Nat.reduceAdd, Nat.reduceMul, Int.reduceLE, eqF z337, eqF z338, eqF z343, eqF z348, eqF z353]
  refine w_i_within i16 (i64c (a := 0) rfl) (i64c (a := 1000) rfl) q354 (fun y356 h357 => ?_)
  obtain rfl := h357
  unfold sealK; simp only [go_sem, ↓reduceIte, reduceCtorEq, Nat.reduceEqDiff, Nat.reduceLT, Nat.reduceLeDiff, Nat.reduceAdd, Nat.reduceMul, Int.reduceLE, eqF z337, eqF z338, eqF z343, eqF z348, eqF z353]
  refine j224 _ _ _ (!v355) ?_ hm
  refine Norm.mkL (js := [0]) (m := 1) [1, 13] [(.ep 8 (.sl 8 n 0 1 1 true) 0 0), (.bool (!v355))] (of_decide_eq_true rfl) ?_ (RnL.cons (Rn.ptr (js := [0]) 0 0) (RnL.cons (.keep _ (.bool _)) RnL.nil)) (RowsR.row 0 _ _ _ _ hp_get0 (RnL.cons (.keep _ (tyRec_76.lt _ _ _ gh0)) RnL.nil) RowsR.nil) rfl
  kernel_rfl
 clear hK27
 refine WQ.sr hT rfl fun K358 hK358 => ?_
 simp only [go_sem, ↓reduceIte, reduceCtorEq, Nat.reduceEqDiff, Nat.reduceLT, Nat.reduceLeDiff, Nat.reduceAdd, Nat.reduceMul, Int.reduceLE]
 refine kn hK358 ?_
 clear hK358 K358
 refine WQ.cond (t := decide (v0.kind = 6)) ?_ (fun z359 => ?_) (fun z359 => ?_)
 kernel_rfl
 replace hm := ifT z359 hm
 refine WQ.region hT rfl ?_
 simp only [go_sem, ↓reduceIte, reduceCtorEq, Nat.reduceEqDiff, Nat.reduceLT, Nat.reduceLeDiff, Nat.reduceAdd, Nat.reduceMul, Int.reduceLE]
 refine j31 _ _ _ (decide (v0.txn = 0)) ?_ hm
 refine Norm.mkL (js := [0]) (m := 1) [1, 3] [(.ep 8 (.sl 8 n 0 1 1 true) 0 0), (.bool (decide (v0.txn = 0)))] (of_decide_eq_true rfl) ?_ (RnL.cons (Rn.ptr (js := [0]) 0 0) (RnL.cons (.keep _ (.bool _)) RnL.nil)) (RowsR.row 0 _ _ _ _ hp_get0 (RnL.cons (.keep _ (tyRec_76.lt _ _ _ gh0)) RnL.nil) RowsR.nil) rfl
 kernel_rfl
 replace hm := ifF z359 hm
 refine WQ.skip ?_
 simp only [go_sem, ↓reduceIte, reduceCtorEq, Nat.reduceEqDiff, Nat.reduceLT, Nat.reduceLeDiff, Nat.reduceAdd, Nat.reduceMul, Int.reduceLE]
 refine j31 _ _ _ v24 ?_ hm
 refine Norm.mkL (js := [0]) (m := 1) [1, 3] [(.ep 8 (.sl 8 n 0 1 1 true) 0 0), (.bool v24)] (of_decide_eq_true rfl) ?_ (RnL.cons (Rn.ptr (js := [0]) 0 0) (RnL.cons (.keep _ (.bool _)) RnL.nil)) (RowsR.row 0 _ _ _ _ hp_get0 (RnL.cons (.keep _ (tyRec_76.lt _ _ _ gh0)) RnL.nil) RowsR.nil) rfl
 kernel_rfl
def m_s_l1In_a1 (fu : Nat) (v14 : Bool) : Option Bool :=
  some v14
def m_s_l1In (fu : Nat) (v0 : Int) (v1 : Int) (v2 : Int) : Option Bool :=
  (if (decide (v1 ≤ v0)) = true then (m_s_l1In_a1 fu (decide (v0 ≤ v2))) else (m_s_l1In_a1 fu false))
set_option maxHeartbeats 2000000 in
theorem w_s_l1In {v0 : Int} (i0 : I64 v0) {v1 : Int} (i1 : I64 v1) {v2 : Int} (i2 : I64 v2) {fu : Nat} {r : Bool} (hm : m_s_l1In fu v0 v1 v2 = some r) (hk : ∀ y, BoolR y r → K y h n) : CA Try.prog 77 [(.int .i64 v0), (.int .i64 v1), (.int .i64 v2)] h n K := by
 refine CA.enterQ (N := 15) (rs := [.tmp 6]) hT Try.call77 Try.func77 rfl rfl (of_decide_eq_true rfl) rfl fun hlt => ?_
 unfold m_s_l1In at hm
 refine WQ.sr hT rfl fun K11 hK11 => ?_
 simp only [go_sem, ↓reduceIte, reduceCtorEq, Nat.reduceEqDiff, Nat.reduceLT, Nat.reduceLeDiff, Nat.reduceAdd, Nat.reduceMul, Int.reduceLE]
 refine kn hK11 ?_
 clear hK11 K11
 refine WQ.seq_k fun K12 hK12 => ?_
 have j15 : ∀ (E' : Env) (h' : Heap) (n' : Nat) (v14 : Bool), Norm n h E' h' n' (envZ [6] [(.bool v14)]) (hp h n []) n → (m_s_l1In_a1 fu v14) = some r → K12 E' h' n' := by
  intro E17 H18 n19 v14 N16 hm
  refine hK12 _ _ _ _ _ _ N16 ?_
  clear N16 hK12 K12
  unfold m_s_l1In_a1 at hm
  refine retN (t := 6) (js := []) (u := (.bool v14)) (v := (.bool v14)) hlt ?_ (.keep _ (.bool _)) (.bool _) rfl ?_
  kernel_rfl
  exact hkr hk (m := v14) hm rfl
 clear hK12
 rcases Bool.eq_false_or_eq_true (decide (v1 ≤ v0)) with z20 | z20
 replace hm := ifT z20 hm
 refine WQ.region hT rfl ?_
 simp only [go_sem, ↓reduceIte, reduceCtorEq, Nat.reduceEqDiff, Nat.reduceLT, Nat.reduceLeDiff, Nat.reduceAdd, Nat.reduceMul, Int.reduceLE, eqT z20]
 refine j15 _ _ _ (decide (v0 ≤ v2)) ?_ hm
 refine Norm.mkL (js := []) (m := 0) [6] [(.bool (decide (v0 ≤ v2)))] (of_decide_eq_true rfl) ?_ (RnL.cons (.keep _ (.bool _)) RnL.nil) RowsR.nil rfl
 kernel_rfl
 replace hm := ifF z20 hm
 refine WQ.region hT rfl ?_
 simp only [go_sem, ↓reduceIte, reduceCtorEq, Nat.reduceEqDiff, Nat.reduceLT, Nat.reduceLeDiff, Nat.reduceAdd, Nat.reduceMul, Int.reduceLE, eqF z20]
 refine j15 _ _ _ false ?_ hm
 refine Norm.mkL (js := []) (m := 0) [6] [(.bool false)] (of_decide_eq_true rfl) ?_ (RnL.cons (.keep _ (.bool _)) RnL.nil) RowsR.nil rfl
 kernel_rfl
def m_s_l3Txn (fu : Nat) (v0 : Int) : Option Bool :=
  (Option.bind (m_s_l1In fu v0 1 999) fun v18 => some v18)
set_option maxHeartbeats 2000000 in
theorem w_s_l3Txn {v0 : Int} (i0 : I64 v0) {fu : Nat} {r : Bool} (hm : m_s_l3Txn fu v0 = some r) (hk : ∀ y, BoolR y r → K y h n) : CA Try.prog 127 [(.int .i64 v0)] h n K := by
 refine CA.enterQ (N := 5) (rs := [.tmp 2]) hT Try.call127 Try.func127 rfl rfl (of_decide_eq_true rfl) rfl fun hlt => ?_
 unfold m_s_l3Txn at hm
 refine WQ.sr hT rfl fun K11 hK11 => ?_
 simp only [go_sem, ↓reduceIte, reduceCtorEq, Nat.reduceEqDiff, Nat.reduceLT, Nat.reduceLeDiff, Nat.reduceAdd, Nat.reduceMul, Int.reduceLE]
 refine kn hK11 ?_
 clear hK11 K11
 obtain ⟨v18, q17, hm⟩ := obs hm
 refine WQ.sr hT rfl fun K12 hK12 => ?_
 simp only [go_sem, ↓reduceIte, reduceCtorEq, Nat.reduceEqDiff, Nat.reduceLT, Nat.reduceLeDiff, Nat.reduceAdd, Nat.reduceMul, Int.reduceLE]
 refine w_s_l1In i0 (i64c (a := 1) rfl) (i64c (a := 999) rfl) q17 (fun y19 h20 => ?_)
 obtain rfl := h20
 unfold sealK; simp only [go_sem, ↓reduceIte, reduceCtorEq, Nat.reduceEqDiff, Nat.reduceLT, Nat.reduceLeDiff, Nat.reduceAdd, Nat.reduceMul, Int.reduceLE]
 refine kn hK12 ?_
 clear hK12 K12
 refine retN (t := 2) (js := []) (u := (.bool v18)) (v := (.bool v18)) hlt ?_ (.keep _ (.bool _)) (.bool _) rfl ?_
 kernel_rfl
 exact hkr hk (m := v18) hm rfl
def m_s_l1Key (fu : Nat) (v0 : Int) : Option Bool :=
  (Option.bind (m_s_l1In fu v0 0 31) fun v18 => some v18)
set_option maxHeartbeats 2000000 in
theorem w_s_l1Key {v0 : Int} (i0 : I64 v0) {fu : Nat} {r : Bool} (hm : m_s_l1Key fu v0 = some r) (hk : ∀ y, BoolR y r → K y h n) : CA Try.prog 128 [(.int .i64 v0)] h n K := by
 refine CA.enterQ (N := 5) (rs := [.tmp 2]) hT Try.call128 Try.func128 rfl rfl (of_decide_eq_true rfl) rfl fun hlt => ?_
 unfold m_s_l1Key at hm
 refine WQ.sr hT rfl fun K11 hK11 => ?_
 simp only [go_sem, ↓reduceIte, reduceCtorEq, Nat.reduceEqDiff, Nat.reduceLT, Nat.reduceLeDiff, Nat.reduceAdd, Nat.reduceMul, Int.reduceLE]
 refine kn hK11 ?_
 clear hK11 K11
 obtain ⟨v18, q17, hm⟩ := obs hm
 refine WQ.sr hT rfl fun K12 hK12 => ?_
 simp only [go_sem, ↓reduceIte, reduceCtorEq, Nat.reduceEqDiff, Nat.reduceLT, Nat.reduceLeDiff, Nat.reduceAdd, Nat.reduceMul, Int.reduceLE]
 refine w_s_l1In i0 (i64c (a := 0) rfl) (i64c (a := 31) rfl) q17 (fun y19 h20 => ?_)
 obtain rfl := h20
 unfold sealK; simp only [go_sem, ↓reduceIte, reduceCtorEq, Nat.reduceEqDiff, Nat.reduceLT, Nat.reduceLeDiff, Nat.reduceAdd, Nat.reduceMul, Int.reduceLE]
 refine kn hK12 ?_
 clear hK12 K12
 refine retN (t := 2) (js := []) (u := (.bool v18)) (v := (.bool v18)) hlt ?_ (.keep _ (.bool _)) (.bool _) rfl ?_
 kernel_rfl
 exact hkr hk (m := v18) hm rfl
def m_s_l1Value (fu : Nat) (v0 : Int) : Option Bool :=
  (Option.bind (m_s_l1In fu v0 0 9999) fun v18 => some v18)
set_option maxHeartbeats 2000000 in
theorem w_s_l1Value {v0 : Int} (i0 : I64 v0) {fu : Nat} {r : Bool} (hm : m_s_l1Value fu v0 = some r) (hk : ∀ y, BoolR y r → K y h n) : CA Try.prog 129 [(.int .i64 v0)] h n K := by
 refine CA.enterQ (N := 5) (rs := [.tmp 2]) hT Try.call129 Try.func129 rfl rfl (of_decide_eq_true rfl) rfl fun hlt => ?_
 unfold m_s_l1Value at hm
 refine WQ.sr hT rfl fun K11 hK11 => ?_
 simp only [go_sem, ↓reduceIte, reduceCtorEq, Nat.reduceEqDiff, Nat.reduceLT, Nat.reduceLeDiff, Nat.reduceAdd, Nat.reduceMul, Int.reduceLE]
 refine kn hK11 ?_
 clear hK11 K11
 obtain ⟨v18, q17, hm⟩ := obs hm
 refine WQ.sr hT rfl fun K12 hK12 => ?_
 simp only [go_sem, ↓reduceIte, reduceCtorEq, Nat.reduceEqDiff, Nat.reduceLT, Nat.reduceLeDiff, Nat.reduceAdd, Nat.reduceMul, Int.reduceLE]
 refine w_s_l1In i0 (i64c (a := 0) rfl) (i64c (a := 9999) rfl) q17 (fun y19 h20 => ?_)
 obtain rfl := h20
 unfold sealK; simp only [go_sem, ↓reduceIte, reduceCtorEq, Nat.reduceEqDiff, Nat.reduceLT, Nat.reduceLeDiff, Nat.reduceAdd, Nat.reduceMul, Int.reduceLE]
 refine kn hK12 ?_
 clear hK12 K12
 refine retN (t := 2) (js := []) (u := (.bool v18)) (v := (.bool v18)) hlt ?_ (.keep _ (.bool _)) (.bool _) rfl ?_
 kernel_rfl
 exact hkr hk (m := v18) hm rfl
def m_s_RecFault_a1 (fu : Nat) (v258 : Bool) : Option Int :=
  (if v258 = true then some 1 else some 0)
def m_s_RecFault_a2 (fu : Nat) (v0 : RecD) (v221 : Bool) : Option Int :=
  (if v221 = true then some 1 else (if (!v0.had) = true then (if (decide (v0.old ≠ 0)) = true then (m_s_RecFault_a1 fu true) else (if (!v0.has) = true then (if (decide (v0.new ≠ 0)) = true then (m_s_RecFault_a1 fu true) else (m_s_RecFault_a1 fu (!((decide (v0.kind = 5)) == (decide (v0.back ≠ 0)))))) else (m_s_RecFault_a1 fu (!((decide (v0.kind = 5)) == (decide (v0.back ≠ 0))))))) else (if (!v0.has) = true then (if (decide (v0.new ≠ 0)) = true then (m_s_RecFault_a1 fu true) else (m_s_RecFault_a1 fu (!((decide (v0.kind = 5)) == (decide (v0.back ≠ 0)))))) else (m_s_RecFault_a1 fu (!((decide (v0.kind = 5)) == (decide (v0.back ≠ 0))))))))
def m_s_RecFault_a3 (fu : Nat) (v0 : RecD) (v189 : Bool) : Option Int :=
  (if (!v189) = true then (if (decide (v0.key ≠ 0)) = true then (m_s_RecFault_a2 fu v0 true) else (if v0.had = true then (m_s_RecFault_a2 fu v0 true) else (if (decide (v0.old ≠ 0)) = true then (m_s_RecFault_a2 fu v0 true) else (if v0.has = true then (m_s_RecFault_a2 fu v0 true) else (m_s_RecFault_a2 fu v0 (decide (v0.new ≠ 0))))))) else (m_s_RecFault_a2 fu v0 false))
def m_s_RecFault_a4 (fu : Nat) (v0 : RecD) (v179 : Bool) : Option Int :=
  (if v179 = true then some 3 else (if (decide (v0.kind = 2)) = true then (m_s_RecFault_a3 fu v0 true) else (m_s_RecFault_a3 fu v0 (decide (v0.kind = 5)))))
def m_s_RecFault (fu : Nat) (v0 : RecD) : Option Int :=
  (Option.bind (m_s_l1In fu v0.kind 1 6) fun v280 => (if (!v280) = true then (m_s_RecFault_a4 fu v0 true) else (if (!((decide (v0.kind = 6)) == (decide (v0.txn = 0)))) = true then (m_s_RecFault_a4 fu v0 true) else (if (decide (v0.txn ≠ 0)) = true then (Option.bind (m_s_l3Txn fu v0.txn) fun v287 => (if (!v287) = true then (m_s_RecFault_a4 fu v0 true) else (Option.bind (m_s_l1Key fu v0.key) fun v292 => (if (!v292) = true then (m_s_RecFault_a4 fu v0 true) else (Option.bind (m_s_l1Value fu v0.old) fun v297 => (if (!v297) = true then (m_s_RecFault_a4 fu v0 true) else (Option.bind (m_s_l1Value fu v0.new) fun v302 => (if (!v302) = true then (m_s_RecFault_a4 fu v0 true) else (Option.bind (m_s_l1In fu v0.back 0 1000) fun v307 => (m_s_RecFault_a4 fu v0 (!v307))))))))))) else (Option.bind (m_s_l1Key fu v0.key) fun v311 => (if (!v311) = true then (m_s_RecFault_a4 fu v0 true) else (Option.bind (m_s_l1Value fu v0.old) fun v316 => (if (!v316) = true then (m_s_RecFault_a4 fu v0 true) else (Option.bind (m_s_l1Value fu v0.new) fun v321 => (if (!v321) = true then (m_s_RecFault_a4 fu v0 true) else (Option.bind (m_s_l1In fu v0.back 0 1000) fun v326 => (m_s_RecFault_a4 fu v0 (!v326)))))))))))))
set_option maxHeartbeats 2000000 in
theorem w_s_RecFault {x0 : AV} {v0 : RecD} (h0 : RecR x0 v0) {fu : Nat} {r : Int} (hm : m_s_RecFault fu v0 = some r) (hk : ∀ y, Int64R y r → K y h n) : CA Try.prog 92 [x0] h n K := by
 refine CA.enterQ (N := 112) (rs := [.tmp 2]) hT Try.call92 Try.func92 rfl rfl (of_decide_eq_true rfl) rfl fun hlt => ?_
 unfold m_s_RecFault at hm
 have gh0 := h0
 obtain ⟨rfl, i11, i12, i13, i14, i15, i16⟩ := h0
 refine WQ.sr hT rfl fun K17 hK17 => ?_
 simp only [go_sem, ↓reduceIte, reduceCtorEq, Nat.reduceEqDiff, Nat.reduceLT, Nat.reduceLeDiff, Nat.reduceAdd, Nat.reduceMul, Int.reduceLE]
 refine kn hK17 ?_
 clear hK17 K17
 refine WQ.seq_k fun K18 hK18 => ?_
 refine WQ.seq_k fun K128 hK128 => ?_
 have j180 : ∀ (E' : Env) (h' : Heap) (n' : Nat) (v179 : Bool), Norm n h E' h' n' (envZ [1, 51] [(.ep 8 (.sl 8 n 0 1 1 true) 0 0), (.bool v179)]) (hp h n [some [(.agg [(.int .i64 v0.kind), (.int .i64 v0.txn), (.int .i64 v0.key), (.bool v0.had), (.int .i64 v0.old), (.bool v0.has), (.int .i64 v0.new), (.int .i64 v0.back)])]]) (n + 1) → (m_s_RecFault_a4 fu v0 v179) = some r → K128 E' h' n' := by
  intro E182 H183 n184 v179 N181 hm
  refine hK128 _ _ _ _ _ _ N181 ?_
  clear N181 hK128 K128
  unfold m_s_RecFault_a4 at hm
  refine WQ.cond (t := v179) ?_ (fun z185 => ?_) (fun z185 => ?_)
  kernel_rfl
  replace hm := ifT z185 hm
  refine WQ.sr hT rfl fun K186 hK186 => ?_
  simp only [go_sem, ↓reduceIte, reduceCtorEq, Nat.reduceEqDiff, Nat.reduceLT, Nat.reduceLeDiff, Nat.reduceAdd, Nat.reduceMul, Int.reduceLE]
  refine kn hK186 ?_
  clear hK186 K186
  refine retN (t := 2) (js := []) (u := (.int .i64 3)) (v := (.int .i64 3)) hlt ?_ (.keep _ (.int _ _)) (.int _ _) rfl ?_
  kernel_rfl
  exact hkr hk (m := 3) hm (int64R (i64c (a := 3) rfl))
  replace hm := ifF z185 hm
  refine WQ.skip ?_
  simp only [go_sem, ↓reduceIte, reduceCtorEq, Nat.reduceEqDiff, Nat.reduceLT, Nat.reduceLeDiff, Nat.reduceAdd, Nat.reduceMul, Int.reduceLE]
  refine kn hK18 ?_
  clear hK18 K18
  refine WQ.seq_k fun K187 hK187 => ?_
  have j190 : ∀ (E' : Env) (h' : Heap) (n' : Nat) (v189 : Bool), Norm n h E' h' n' (envZ [1, 3] [(.ep 8 (.sl 8 n 0 1 1 true) 0 0), (.bool v189)]) (hp h n [some [(.agg [(.int .i64 v0.kind), (.int .i64 v0.txn), (.int .i64 v0.key), (.bool v0.had), (.int .i64 v0.old), (.bool v0.has), (.int .i64 v0.new), (.int .i64 v0.back)])]]) (n + 1) → (m_s_RecFault_a3 fu v0 v189) = some r → K187 E' h' n' := by
   intro E192 H193 n194 v189 N191 hm
   refine hK187 _ _ _ _ _ _ N191 ?_
   clear N191 hK187 K187
   unfold m_s_RecFault_a3 at hm
   refine WQ.seq_k fun K195 hK195 => ?_
   refine WQ.seq_k fun K215 hK215 => ?_
   have j222 : ∀ (E' : Env) (h' : Heap) (n' : Nat) (v221 : Bool), Norm n h E' h' n' (envZ [1, 84] [(.ep 8 (.sl 8 n 0 1 1 true) 0 0), (.bool v221)]) (hp h n [some [(.agg [(.int .i64 v0.kind), (.int .i64 v0.txn), (.int .i64 v0.key), (.bool v0.had), (.int .i64 v0.old), (.bool v0.has), (.int .i64 v0.new), (.int .i64 v0.back)])]]) (n + 1) → (m_s_RecFault_a2 fu v0 v221) = some r → K215 E' h' n' := by
    intro E224 H225 n226 v221 N223 hm
    refine hK215 _ _ _ _ _ _ N223 ?_
    clear N223 hK215 K215
    unfold m_s_RecFault_a2 at hm
    refine WQ.cond (t := v221) ?_ (fun z227 => ?_) (fun z227 => ?_)
    kernel_rfl
    replace hm := ifT z227 hm
    refine WQ.sr hT rfl fun K228 hK228 => ?_
    simp only [go_sem, ↓reduceIte, reduceCtorEq, Nat.reduceEqDiff, Nat.reduceLT, Nat.reduceLeDiff, Nat.reduceAdd, Nat.reduceMul, Int.reduceLE]
    refine kn hK228 ?_
    clear hK228 K228
    refine retN (t := 2) (js := []) (u := (.int .i64 1)) (v := (.int .i64 1)) hlt ?_ (.keep _ (.int _ _)) (.int _ _) rfl ?_
    kernel_rfl
    exact hkr hk (m := 1) hm (int64R (i64c (a := 1) rfl))
    replace hm := ifF z227 hm
    refine WQ.skip ?_
    simp only [go_sem, ↓reduceIte, reduceCtorEq, Nat.reduceEqDiff, Nat.reduceLT, Nat.reduceLeDiff, Nat.reduceAdd, Nat.reduceMul, Int.reduceLE]
    refine kn hK195 ?_
    clear hK195 K195
    refine WQ.seq_k fun K229 hK229 => ?_
    refine WQ.seq_k fun K251 hK251 => ?_
    have j259 : ∀ (E' : Env) (h' : Heap) (n' : Nat) (v258 : Bool), Norm n h E' h' n' (envZ [111] [(.bool v258)]) (hp h n []) n → (m_s_RecFault_a1 fu v258) = some r → K251 E' h' n' := by
     intro E261 H262 n263 v258 N260 hm
     refine hK251 _ _ _ _ _ _ N260 ?_
     clear N260 hK251 K251
     unfold m_s_RecFault_a1 at hm
     refine WQ.cond (t := v258) ?_ (fun z264 => ?_) (fun z264 => ?_)
     kernel_rfl
     replace hm := ifT z264 hm
     refine WQ.sr hT rfl fun K265 hK265 => ?_
     simp only [go_sem, ↓reduceIte, reduceCtorEq, Nat.reduceEqDiff, Nat.reduceLT, Nat.reduceLeDiff, Nat.reduceAdd, Nat.reduceMul, Int.reduceLE]
     refine kn hK265 ?_
     clear hK265 K265
     refine retN (t := 2) (js := []) (u := (.int .i64 1)) (v := (.int .i64 1)) hlt ?_ (.keep _ (.int _ _)) (.int _ _) rfl ?_
     kernel_rfl
     exact hkr hk (m := 1) hm (int64R (i64c (a := 1) rfl))
     replace hm := ifF z264 hm
     refine WQ.skip ?_
     simp only [go_sem, ↓reduceIte, reduceCtorEq, Nat.reduceEqDiff, Nat.reduceLT, Nat.reduceLeDiff, Nat.reduceAdd, Nat.reduceMul, Int.reduceLE]
     refine kn hK229 ?_
     clear hK229 K229
     refine WQ.sr hT rfl fun K266 hK266 => ?_
     simp only [go_sem, ↓reduceIte, reduceCtorEq, Nat.reduceEqDiff, Nat.reduceLT, Nat.reduceLeDiff, Nat.reduceAdd, Nat.reduceMul, Int.reduceLE]
     refine kn hK266 ?_
     clear hK266 K266
     refine retN (t := 2) (js := []) (u := (.int .i64 0)) (v := (.int .i64 0)) hlt ?_ (.keep _ (.int _ _)) (.int _ _) rfl ?_
     kernel_rfl
     exact hkr hk (m := 0) hm (int64R (i64c (a := 0) rfl))
    clear hK251
    rcases Bool.eq_false_or_eq_true (!v0.had) with z267 | z267
    replace hm := ifT z267 hm
    rcases Bool.eq_false_or_eq_true (decide (v0.old ≠ 0)) with z268 | z268
    replace hm := ifT z268 hm
    refine WQ.region hT rfl ?_
    simp only [go_sem, ↓reduceIte, reduceCtorEq, Nat.reduceEqDiff, Nat.reduceLT, Nat.reduceLeDiff, Nat.reduceAdd, Nat.reduceMul, Int.reduceLE, eqT z267, eqT z268]
    refine j259 _ _ _ true ?_ hm
    refine Norm.mkL (js := []) (m := 0) [111] [(.bool true)] (of_decide_eq_true rfl) ?_ (RnL.cons (.keep _ (.bool _)) RnL.nil) RowsR.nil rfl
    kernel_rfl
    replace hm := ifF z268 hm
    rcases Bool.eq_false_or_eq_true (!v0.has) with z269 | z269
    replace hm := ifT z269 hm
    rcases Bool.eq_false_or_eq_true (decide (v0.new ≠ 0)) with z270 | z270
    replace hm := ifT z270 hm
    refine WQ.region hT rfl ?_
    simp only [go_sem, ↓reduceIte, reduceCtorEq, Nat.reduceEqDiff, Nat.reduceLT, Nat.reduceLeDiff, Nat.reduceAdd, Nat.reduceMul, Int.reduceLE, eqT z267, eqF z268, eqT z269, eqT z270]
    refine j259 _ _ _ true ?_ hm
    refine Norm.mkL (js := []) (m := 0) [111] [(.bool true)] (of_decide_eq_true rfl) ?_ (RnL.cons (.keep _ (.bool _)) RnL.nil) RowsR.nil rfl
    kernel_rfl
    replace hm := ifF z270 hm
    refine WQ.region hT rfl ?_
    simp only [go_sem, ↓reduceIte, reduceCtorEq, Nat.reduceEqDiff, Nat.reduceLT, Nat.reduceLeDiff, Nat.reduceAdd, Nat.reduceMul, Int.reduceLE, eqT z267, eqF z268, eqT z269, eqF z270]
    refine j259 _ _ _ (!((decide (v0.kind = 5)) == (decide (v0.back ≠ 0)))) ?_ hm
    refine Norm.mkL (js := []) (m := 0) [111] [(.bool (!((decide (v0.kind = 5)) == (decide (v0.back ≠ 0)))))] (of_decide_eq_true rfl) ?_ (RnL.cons (.keep _ (.bool _)) RnL.nil) RowsR.nil rfl
    kernel_rfl
    replace hm := ifF z269 hm
    refine WQ.region hT rfl ?_
    simp only [go_sem, ↓reduceIte, reduceCtorEq, Nat.reduceEqDiff, Nat.reduceLT, Nat.reduceLeDiff, Nat.reduceAdd, Nat.reduceMul, Int.reduceLE, eqT z267, eqF z268, eqF z269]
    refine j259 _ _ _ (!((decide (v0.kind = 5)) == (decide (v0.back ≠ 0)))) ?_ hm
    refine Norm.mkL (js := []) (m := 0) [111] [(.bool (!((decide (v0.kind = 5)) == (decide (v0.back ≠ 0)))))] (of_decide_eq_true rfl) ?_ (RnL.cons (.keep _ (.bool _)) RnL.nil) RowsR.nil rfl
    kernel_rfl
    replace hm := ifF z267 hm
    rcases Bool.eq_false_or_eq_true (!v0.has) with z271 | z271
    replace hm := ifT z271 hm
    rcases Bool.eq_false_or_eq_true (decide (v0.new ≠ 0)) with z272 | z272
    replace hm := ifT z272 hm
    refine WQ.region hT rfl ?_
    simp only [go_sem, ↓reduceIte, reduceCtorEq, Nat.reduceEqDiff, Nat.reduceLT, Nat.reduceLeDiff, Nat.reduceAdd, Nat.reduceMul, Int.reduceLE, eqF z267, eqT z271, eqT z272]
    refine j259 _ _ _ true ?_ hm
    refine Norm.mkL (js := []) (m := 0) [111] [(.bool true)] (of_decide_eq_true rfl) ?_ (RnL.cons (.keep _ (.bool _)) RnL.nil) RowsR.nil rfl
    kernel_rfl
    replace hm := ifF z272 hm
    refine WQ.region hT rfl ?_
    simp only [go_sem, ↓reduceIte, reduceCtorEq, Nat.reduceEqDiff, Nat.reduceLT, Nat.reduceLeDiff, Nat.reduceAdd, Nat.reduceMul, Int.reduceLE, eqF z267, eqT z271, eqF z272]
    refine j259 _ _ _ (!((decide (v0.kind = 5)) == (decide (v0.back ≠ 0)))) ?_ hm
    refine Norm.mkL (js := []) (m := 0) [111] [(.bool (!((decide (v0.kind = 5)) == (decide (v0.back ≠ 0)))))] (of_decide_eq_true rfl) ?_ (RnL.cons (.keep _ (.bool _)) RnL.nil) RowsR.nil rfl
    kernel_rfl
    replace hm := ifF z271 hm
    refine WQ.region hT rfl ?_
    simp only [go_sem, ↓reduceIte, reduceCtorEq, Nat.reduceEqDiff, Nat.reduceLT, Nat.reduceLeDiff, Nat.reduceAdd, Nat.reduceMul, Int.reduceLE, eqF z267, eqF z271]
    refine j259 _ _ _ (!((decide (v0.kind = 5)) == (decide (v0.back ≠ 0)))) ?_ hm
    refine Norm.mkL (js := []) (m := 0) [111] [(.bool (!((decide (v0.kind = 5)) == (decide (v0.back ≠ 0)))))] (of_decide_eq_true rfl) ?_ (RnL.cons (.keep _ (.bool _)) RnL.nil) RowsR.nil rfl
    kernel_rfl
   clear hK215
   rcases Bool.eq_false_or_eq_true (!v189) with z273 | z273
   replace hm := ifT z273 hm
   rcases Bool.eq_false_or_eq_true (decide (v0.key ≠ 0)) with z274 | z274
   replace hm := ifT z274 hm
   refine WQ.region hT rfl ?_
   simp only [go_sem, ↓reduceIte, reduceCtorEq, Nat.reduceEqDiff, Nat.reduceLT, Nat.reduceLeDiff, Nat.reduceAdd, Nat.reduceMul, Int.reduceLE, eqT z273, eqT z274]
   refine j222 _ _ _ true ?_ hm
   refine Norm.mkL (js := [0]) (m := 1) [1, 84] [(.ep 8 (.sl 8 n 0 1 1 true) 0 0), (.bool true)] (of_decide_eq_true rfl) ?_ (RnL.cons (Rn.ptr (js := [0]) 0 0) (RnL.cons (.keep _ (.bool _)) RnL.nil)) (RowsR.row 0 _ _ _ _ hp_get0 (RnL.cons (.keep _ (tyRec_76.lt _ _ _ gh0)) RnL.nil) RowsR.nil) rfl
   kernel_rfl
   replace hm := ifF z274 hm
   rcases Bool.eq_false_or_eq_true (v0.had) with z275 | z275
   replace hm := ifT z275 hm
   refine WQ.region hT rfl ?_
   simp only [go_sem, ↓reduceIte, reduceCtorEq, Nat.reduceEqDiff, Nat.reduceLT, Nat.reduceLeDiff, Nat.reduceAdd, Nat.reduceMul, Int.reduceLE, eqT z273, eqF z274, eqT z275]
   refine j222 _ _ _ true ?_ hm
   refine Norm.mkL (js := [0]) (m := 1) [1, 84] [(.ep 8 (.sl 8 n 0 1 1 true) 0 0), (.bool true)] (of_decide_eq_true rfl) ?_ (RnL.cons (Rn.ptr (js := [0]) 0 0) (RnL.cons (.keep _ (.bool _)) RnL.nil)) (RowsR.row 0 _ _ _ _ hp_get0 (RnL.cons (.keep _ (tyRec_76.lt _ _ _ gh0)) RnL.nil) RowsR.nil) rfl
   kernel_rfl
   replace hm := ifF z275 hm
   rcases Bool.eq_false_or_eq_true (decide (v0.old ≠ 0)) with z276 | z276
   replace hm := ifT z276 hm
   refine WQ.region hT rfl ?_
   simp only [go_sem, ↓reduceIte, reduceCtorEq, Nat.reduceEqDiff, Nat.reduceLT, Nat.reduceLeDiff, Nat.reduceAdd, Nat.reduceMul, Int.reduceLE, eqT z273, eqF z274, eqF z275, eqT z276]
   refine j222 _ _ _ true ?_ hm
   refine Norm.mkL (js := [0]) (m := 1) [1, 84] [(.ep 8 (.sl 8 n 0 1 1 true) 0 0), (.bool true)] (of_decide_eq_true rfl) ?_ (RnL.cons (Rn.ptr (js := [0]) 0 0) (RnL.cons (.keep _ (.bool _)) RnL.nil)) (RowsR.row 0 _ _ _ _ hp_get0 (RnL.cons (.keep _ (tyRec_76.lt _ _ _ gh0)) RnL.nil) RowsR.nil) rfl
   kernel_rfl
   replace hm := ifF z276 hm
   rcases Bool.eq_false_or_eq_true (v0.has) with z277 | z277
   replace hm := ifT z277 hm
   refine WQ.region hT rfl ?_
   simp only [go_sem, ↓reduceIte, reduceCtorEq, Nat.reduceEqDiff, Nat.reduceLT, Nat.reduceLeDiff, Nat.reduceAdd, Nat.reduceMul, Int.reduceLE, eqT z273, eqF z274, eqF z275, eqF z276, eqT z277]
   refine j222 _ _ _ true ?_ hm
   refine Norm.mkL (js := [0]) (m := 1) [1, 84] [(.ep 8 (.sl 8 n 0 1 1 true) 0 0), (.bool true)] (of_decide_eq_true rfl) ?_ (RnL.cons (Rn.ptr (js := [0]) 0 0) (RnL.cons (.keep _ (.bool _)) RnL.nil)) (RowsR.row 0 _ _ _ _ hp_get0 (RnL.cons (.keep _ (tyRec_76.lt _ _ _ gh0)) RnL.nil) RowsR.nil) rfl
   kernel_rfl
   replace hm := ifF z277 hm
   refine WQ.region hT rfl ?_
   simp only [go_sem, ↓reduceIte, reduceCtorEq, Nat.reduceEqDiff, Nat.reduceLT, Nat.reduceLeDiff, Nat.reduceAdd, Nat.reduceMul, Int.reduceLE, eqT z273, eqF z274, eqF z275, eqF z276, eqF z277]
   refine j222 _ _ _ (decide (v0.new ≠ 0)) ?_ hm
   refine Norm.mkL (js := [0]) (m := 1) [1, 84] [(.ep 8 (.sl 8 n 0 1 1 true) 0 0), (.bool (decide (v0.new ≠ 0)))] (of_decide_eq_true rfl) ?_ (RnL.cons (Rn.ptr (js := [0]) 0 0) (RnL.cons (.keep _ (.bool _)) RnL.nil)) (RowsR.row 0 _ _ _ _ hp_get0 (RnL.cons (.keep _ (tyRec_76.lt _ _ _ gh0)) RnL.nil) RowsR.nil) rfl
   kernel_rfl
   replace hm := ifF z273 hm
   refine WQ.region hT rfl ?_
   simp only [go_sem, ↓reduceIte, reduceCtorEq, Nat.reduceEqDiff, Nat.reduceLT, Nat.reduceLeDiff, Nat.reduceAdd, Nat.reduceMul, Int.reduceLE, eqF z273]
   refine j222 _ _ _ false ?_ hm
   refine Norm.mkL (js := [0]) (m := 1) [1, 84] [(.ep 8 (.sl 8 n 0 1 1 true) 0 0), (.bool false)] (of_decide_eq_true rfl) ?_ (RnL.cons (Rn.ptr (js := [0]) 0 0) (RnL.cons (.keep _ (.bool _)) RnL.nil)) (RowsR.row 0 _ _ _ _ hp_get0 (RnL.cons (.keep _ (tyRec_76.lt _ _ _ gh0)) RnL.nil) RowsR.nil) rfl
   kernel_rfl
  clear hK187
  rcases Bool.eq_false_or_eq_true (decide (v0.kind = 2)) with z278 | z278
  replace hm := ifT z278 hm
  refine WQ.region hT rfl ?_
  simp only [go_sem, ↓reduceIte, reduceCtorEq, Nat.reduceEqDiff, Nat.reduceLT, Nat.reduceLeDiff, Nat.reduceAdd, Nat.reduceMul, Int.reduceLE, eqT z278]
  refine j190 _ _ _ true ?_ hm
  refine Norm.mkL (js := [0]) (m := 1) [1, 3] [(.ep 8 (.sl 8 n 0 1 1 true) 0 0), (.bool true)] (of_decide_eq_true rfl) ?_ (RnL.cons (Rn.ptr (js := [0]) 0 0) (RnL.cons (.keep _ (.bool _)) RnL.nil)) (RowsR.row 0 _ _ _ _ hp_get0 (RnL.cons (.keep _ (tyRec_76.lt _ _ _ gh0)) RnL.nil) RowsR.nil) rfl
  kernel_rfl
  replace hm := ifF z278 hm
  refine WQ.region hT rfl ?_
  simp only [go_sem, ↓reduceIte, reduceCtorEq, Nat.reduceEqDiff, Nat.reduceLT, Nat.reduceLeDiff, Nat.reduceAdd, Nat.reduceMul, Int.reduceLE, eqF z278]
  refine j190 _ _ _ (decide (v0.kind = 5)) ?_ hm
  refine Norm.mkL (js := [0]) (m := 1) [1, 3] [(.ep 8 (.sl 8 n 0 1 1 true) 0 0), (.bool (decide (v0.kind = 5)))] (of_decide_eq_true rfl) ?_ (RnL.cons (Rn.ptr (js := [0]) 0 0) (RnL.cons (.keep _ (.bool _)) RnL.nil)) (RowsR.row 0 _ _ _ _ hp_get0 (RnL.cons (.keep _ (tyRec_76.lt _ _ _ gh0)) RnL.nil) RowsR.nil) rfl
  kernel_rfl
 clear hK128
 obtain ⟨v280, q279, hm⟩ := obs hm
 rcases Bool.eq_false_or_eq_true (!v280) with z283 | z283
 replace hm := ifT z283 hm
 refine WQ.region hT rfl ?_
 simp only [go_sem, ↓reduceIte, reduceCtorEq, Nat.reduceEqDiff, Nat.reduceLT, Nat.reduceLeDiff, Nat.reduceAdd, Nat.reduceMul, Int.reduceLE]
 refine w_s_l1In i11 (i64c (a := 1) rfl) (i64c (a := 6) rfl) q279 (fun y281 h282 => ?_)
 obtain rfl := h282
 unfold sealK; simp only [go_sem, ↓reduceIte, reduceCtorEq, Nat.reduceEqDiff, Nat.reduceLT, Nat.reduceLeDiff, Nat.reduceAdd, Nat.reduceMul, Int.reduceLE, eqT z283]
 refine j180 _ _ _ true ?_ hm
 refine Norm.mkL (js := [0]) (m := 1) [1, 51] [(.ep 8 (.sl 8 n 0 1 1 true) 0 0), (.bool true)] (of_decide_eq_true rfl) ?_ (RnL.cons (Rn.ptr (js := [0]) 0 0) (RnL.cons (.keep _ (.bool _)) RnL.nil)) (RowsR.row 0 _ _ _ _ hp_get0 (RnL.cons (.keep _ (tyRec_76.lt _ _ _ gh0)) RnL.nil) RowsR.nil) rfl
 kernel_rfl
 replace hm := ifF z283 hm
 rcases Bool.eq_false_or_eq_true (!((decide (v0.kind = 6)) == (decide (v0.txn = 0)))) with z284 | z284
 replace hm := ifT z284 hm
 refine WQ.region hT rfl ?_
 simp only [go_sem, ↓reduceIte, reduceCtorEq, Nat.reduceEqDiff, Nat.reduceLT, Nat.reduceLeDiff, Nat.reduceAdd, Nat.reduceMul, Int.reduceLE]
 refine w_s_l1In i11 (i64c (a := 1) rfl) (i64c (a := 6) rfl) q279 (fun y281 h282 => ?_)
 obtain rfl := h282
 unfold sealK; simp only [go_sem, ↓reduceIte, reduceCtorEq, Nat.reduceEqDiff, Nat.reduceLT, Nat.reduceLeDiff, Nat.reduceAdd, Nat.reduceMul, Int.reduceLE, eqF z283, eqT z284]
 refine j180 _ _ _ true ?_ hm
 refine Norm.mkL (js := [0]) (m := 1) [1, 51] [(.ep 8 (.sl 8 n 0 1 1 true) 0 0), (.bool true)] (of_decide_eq_true rfl) ?_ (RnL.cons (Rn.ptr (js := [0]) 0 0) (RnL.cons (.keep _ (.bool _)) RnL.nil)) (RowsR.row 0 _ _ _ _ hp_get0 (RnL.cons (.keep _ (tyRec_76.lt _ _ _ gh0)) RnL.nil) RowsR.nil) rfl
 kernel_rfl
 replace hm := ifF z284 hm
 rcases Bool.eq_false_or_eq_true (decide (v0.txn ≠ 0)) with z285 | z285
 replace hm := ifT z285 hm
 obtain ⟨v287, q286, hm⟩ := obs hm
 rcases Bool.eq_false_or_eq_true (!v287) with z290 | z290
 replace hm := ifT z290 hm
 refine WQ.region hT rfl ?_
 simp only [go_sem, ↓reduceIte, reduceCtorEq, Nat.reduceEqDiff, Nat.reduceLT, Nat.reduceLeDiff, Nat.reduceAdd, Nat.reduceMul, Int.reduceLE]
 refine w_s_l1In i11 (i64c (a := 1) rfl) (i64c (a := 6) rfl) q279 (fun y281 h282 => ?_)
 obtain rfl := h282
 unfold sealK; simp only [go_sem, ↓reduceIte, reduceCtorEq, Nat.reduceEqDiff, Nat.reduceLT, Nat.reduceLeDiff, Nat.reduceAdd, Nat.reduceMul, Int.reduceLE, eqF z283, eqF z284, eqT z285]
 refine w_s_l3Txn i12 q286 (fun y288 h289 => ?_)
 obtain rfl := h289
 unfold sealK; simp only [go_sem, ↓reduceIte, reduceCtorEq, Nat.reduceEqDiff, Nat.reduceLT, Nat.reduceLeDiff, Nat.reduceAdd, Nat.reduceMul, Int.reduceLE, eqF z283, eqF z284, eqT z285, eqT z290]
 refine j180 _ _ _ true ?_ hm
 refine Norm.mkL (js := [0]) (m := 1) [1, 51] [(.ep 8 (.sl 8 n 0 1 1 true) 0 0), (.bool true)] (of_decide_eq_true rfl) ?_ (RnL.cons (Rn.ptr (js := [0]) 0 0) (RnL.cons (.keep _ (.bool _)) RnL.nil)) (RowsR.row 0 _ _ _ _ hp_get0 (RnL.cons (.keep _ (tyRec_76.lt _ _ _ gh0)) RnL.nil) RowsR.nil) rfl
 kernel_rfl
 replace hm := ifF z290 hm
 obtain ⟨v292, q291, hm⟩ := obs hm
 rcases Bool.eq_false_or_eq_true (!v292) with z295 | z295
 replace hm := ifT z295 hm
 refine WQ.region hT rfl ?_
 simp only [go_sem, ↓reduceIte, reduceCtorEq, Nat.reduceEqDiff, Nat.reduceLT, Nat.reduceLeDiff, Nat.reduceAdd, Nat.reduceMul, Int.reduceLE]
 refine w_s_l1In i11 (i64c (a := 1) rfl) (i64c (a := 6) rfl) q279 (fun y281 h282 => ?_)
 obtain rfl := h282
 unfold sealK; simp only [go_sem, ↓reduceIte, reduceCtorEq, Nat.reduceEqDiff, Nat.reduceLT, Nat.reduceLeDiff, Nat.reduceAdd, Nat.reduceMul, Int.reduceLE, eqF z283, eqF z284, eqT z285]
 refine w_s_l3Txn i12 q286 (fun y288 h289 => ?_)
 obtain rfl := h289
 unfold sealK; simp only [go_sem, ↓reduceIte, reduceCtorEq, Nat.reduceEqDiff, Nat.reduceLT, Nat.reduceLeDiff, Nat.reduceAdd, Nat.reduceMul, Int.reduceLE, eqF z283, eqF z284, eqT z285, eqF z290]
 refine w_s_l1Key i13 q291 (fun y293 h294 => ?_)
 obtain rfl := h294
 unfold sealK; simp only [go_sem, ↓reduceIte, reduceCtorEq, Nat.reduceEqDiff, Nat.reduceLT, Nat.reduceLeDiff, Nat.reduceAdd, Nat.reduceMul, Int.reduceLE, eqF z283, eqF z284, eqT z285, eqF z290, eqT z295]
 refine j180 _ _ _ true ?_ hm
 refine Norm.mkL (js := [0]) (m := 1) [1, 51] [(.ep 8 (.sl 8 n 0 1 1 true) 0 0), (.bool true)] (of_decide_eq_true rfl) ?_ (RnL.cons (Rn.ptr (js := [0]) 0 0) (RnL.cons (.keep _ (.bool _)) RnL.nil)) (RowsR.row 0 _ _ _ _ hp_get0 (RnL.cons (.keep _ (tyRec_76.lt _ _ _ gh0)) RnL.nil) RowsR.nil) rfl
 kernel_rfl
 replace hm := ifF z295 hm
 obtain ⟨v297, q296, hm⟩ := obs hm
 rcases Bool.eq_false_or_eq_true (!v297) with z300 | z300
 replace hm := ifT z300 hm
 refine WQ.region hT rfl ?_
 simp only [go_sem, ↓reduceIte, reduceCtorEq, Nat.reduceEqDiff, Nat.reduceLT, Nat.reduceLeDiff, Nat.reduceAdd, Nat.reduceMul, Int.reduceLE]
 refine w_s_l1In i11 (i64c (a := 1) rfl) (i64c (a := 6) rfl) q279 (fun y281 h282 => ?_)
 obtain rfl := h282
 unfold sealK; simp only [go_sem, ↓reduceIte, reduceCtorEq, Nat.reduceEqDiff, Nat.reduceLT, Nat.reduceLeDiff, Nat.reduceAdd, Nat.reduceMul, Int.reduceLE, eqF z283, eqF z284, eqT z285]
 refine w_s_l3Txn i12 q286 (fun y288 h289 => ?_)
 obtain rfl := h289
 unfold sealK; simp only [go_sem, ↓reduceIte, reduceCtorEq, Nat.reduceEqDiff, Nat.reduceLT, Nat.reduceLeDiff, Nat.reduceAdd, Nat.reduceMul, Int.reduceLE, eqF z283, eqF z284, eqT z285, eqF z290]
 refine w_s_l1Key i13 q291 (fun y293 h294 => ?_)
 obtain rfl := h294
 unfold sealK; simp only [go_sem, ↓reduceIte, reduceCtorEq, Nat.reduceEqDiff, Nat.reduceLT, Nat.reduceLeDiff, Nat.reduceAdd, Nat.reduceMul, Int.reduceLE, eqF z283, eqF z284, eqT z285, eqF z290, eqF z295]
 refine w_s_l1Value i14 q296 (fun y298 h299 => ?_)
 obtain rfl := h299
 unfold sealK; simp only [go_sem, ↓reduceIte, reduceCtorEq, Nat.reduceEqDiff, Nat.reduceLT, Nat.reduceLeDiff, Nat.reduceAdd, Nat.reduceMul, Int.reduceLE, eqF z283, eqF z284, eqT z285, eqF z290, eqF z295, eqT z300]
 refine j180 _ _ _ true ?_ hm
 refine Norm.mkL (js := [0]) (m := 1) [1, 51] [(.ep 8 (.sl 8 n 0 1 1 true) 0 0), (.bool true)] (of_decide_eq_true rfl) ?_ (RnL.cons (Rn.ptr (js := [0]) 0 0) (RnL.cons (.keep _ (.bool _)) RnL.nil)) (RowsR.row 0 _ _ _ _ hp_get0 (RnL.cons (.keep _ (tyRec_76.lt _ _ _ gh0)) RnL.nil) RowsR.nil) rfl
 kernel_rfl
 replace hm := ifF z300 hm
 obtain ⟨v302, q301, hm⟩ := obs hm
 rcases Bool.eq_false_or_eq_true (!v302) with z305 | z305
 replace hm := ifT z305 hm
 refine WQ.region hT rfl ?_
 simp only [go_sem, ↓reduceIte, reduceCtorEq, Nat.reduceEqDiff, Nat.reduceLT, Nat.reduceLeDiff, Nat.reduceAdd, Nat.reduceMul, Int.reduceLE]
 refine w_s_l1In i11 (i64c (a := 1) rfl) (i64c (a := 6) rfl) q279 (fun y281 h282 => ?_)
 obtain rfl := h282
 unfold sealK; simp only [go_sem, ↓reduceIte, reduceCtorEq, Nat.reduceEqDiff, Nat.reduceLT, Nat.reduceLeDiff, Nat.reduceAdd, Nat.reduceMul, Int.reduceLE, eqF z283, eqF z284, eqT z285]
 refine w_s_l3Txn i12 q286 (fun y288 h289 => ?_)
 obtain rfl := h289
 unfold sealK; simp only [go_sem, ↓reduceIte, reduceCtorEq, Nat.reduceEqDiff, Nat.reduceLT, Nat.reduceLeDiff, Nat.reduceAdd, Nat.reduceMul, Int.reduceLE, eqF z283, eqF z284, eqT z285, eqF z290]
 refine w_s_l1Key i13 q291 (fun y293 h294 => ?_)
 obtain rfl := h294
 unfold sealK; simp only [go_sem, ↓reduceIte, reduceCtorEq, Nat.reduceEqDiff, Nat.reduceLT, Nat.reduceLeDiff, Nat.reduceAdd, Nat.reduceMul, Int.reduceLE, eqF z283, eqF z284, eqT z285, eqF z290, eqF z295]
 refine w_s_l1Value i14 q296 (fun y298 h299 => ?_)
 obtain rfl := h299
 unfold sealK; simp only [go_sem, ↓reduceIte, reduceCtorEq, Nat.reduceEqDiff, Nat.reduceLT, Nat.reduceLeDiff, Nat.reduceAdd, Nat.reduceMul, Int.reduceLE, eqF z283, eqF z284, eqT z285, eqF z290, eqF z295, eqF z300]
 refine w_s_l1Value i15 q301 (fun y303 h304 => ?_)
 obtain rfl := h304
 unfold sealK; simp only [go_sem, ↓reduceIte, reduceCtorEq, Nat.reduceEqDiff, Nat.reduceLT, Nat.reduceLeDiff, Nat.reduceAdd, Nat.reduceMul, Int.reduceLE, eqF z283, eqF z284, eqT z285, eqF z290, eqF z295, eqF z300, eqT z305]
 refine j180 _ _ _ true ?_ hm
 refine Norm.mkL (js := [0]) (m := 1) [1, 51] [(.ep 8 (.sl 8 n 0 1 1 true) 0 0), (.bool true)] (of_decide_eq_true rfl) ?_ (RnL.cons (Rn.ptr (js := [0]) 0 0) (RnL.cons (.keep _ (.bool _)) RnL.nil)) (RowsR.row 0 _ _ _ _ hp_get0 (RnL.cons (.keep _ (tyRec_76.lt _ _ _ gh0)) RnL.nil) RowsR.nil) rfl
 kernel_rfl
 replace hm := ifF z305 hm
 obtain ⟨v307, q306, hm⟩ := obs hm
 refine WQ.region hT rfl ?_
 simp only [go_sem, ↓reduceIte, reduceCtorEq, Nat.reduceEqDiff, Nat.reduceLT, Nat.reduceLeDiff, Nat.reduceAdd, Nat.reduceMul, Int.reduceLE]
 refine w_s_l1In i11 (i64c (a := 1) rfl) (i64c (a := 6) rfl) q279 (fun y281 h282 => ?_)
 obtain rfl := h282
 unfold sealK; simp only [go_sem, ↓reduceIte, reduceCtorEq, Nat.reduceEqDiff, Nat.reduceLT, Nat.reduceLeDiff, Nat.reduceAdd, Nat.reduceMul, Int.reduceLE, eqF z283, eqF z284, eqT z285]
 refine w_s_l3Txn i12 q286 (fun y288 h289 => ?_)
 obtain rfl := h289
 unfold sealK; simp only [go_sem, ↓reduceIte, reduceCtorEq, Nat.reduceEqDiff, Nat.reduceLT, Nat.reduceLeDiff, Nat.reduceAdd, Nat.reduceMul, Int.reduceLE, eqF z283, eqF z284, eqT z285, eqF z290]
 refine w_s_l1Key i13 q291 (fun y293 h294 => ?_)
 obtain rfl := h294
 unfold sealK; simp only [go_sem, ↓reduceIte, reduceCtorEq, Nat.reduceEqDiff, Nat.reduceLT, Nat.reduceLeDiff, Nat.reduceAdd, Nat.reduceMul, Int.reduceLE, eqF z283, eqF z284, eqT z285, eqF z290, eqF z295]
 refine w_s_l1Value i14 q296 (fun y298 h299 => ?_)
 obtain rfl := h299
 unfold sealK; simp only [go_sem, ↓reduceIte, reduceCtorEq, Nat.reduceEqDiff, Nat.reduceLT, Nat.reduceLeDiff, Nat.reduceAdd, Nat.reduceMul, Int.reduceLE, eqF z283, eqF z284, eqT z285, eqF z290, eqF z295, eqF z300]
 refine w_s_l1Value i15 q301 (fun y303 h304 => ?_)
 obtain rfl := h304
 unfold sealK; simp only [go_sem, ↓reduceIte, reduceCtorEq, Nat.reduceEqDiff, Nat.reduceLT, Nat.reduceLeDiff, Nat.reduceAdd, Nat.reduceMul, Int.reduceLE, eqF z283, eqF z284, eqT z285, eqF z290, eqF z295, eqF z300, eqF z305]
 refine w_s_l1In i16 (i64c (a := 0) rfl) (i64c (a := 1000) rfl) q306 (fun y308 h309 => ?_)
 obtain rfl := h309
 unfold sealK; simp only [go_sem, ↓reduceIte, reduceCtorEq, Nat.reduceEqDiff, Nat.reduceLT, Nat.reduceLeDiff, Nat.reduceAdd, Nat.reduceMul, Int.reduceLE, eqF z283, eqF z284, eqT z285, eqF z290, eqF z295, eqF z300, eqF z305]
 refine j180 _ _ _ (!v307) ?_ hm
 refine Norm.mkL (js := [0]) (m := 1) [1, 51] [(.ep 8 (.sl 8 n 0 1 1 true) 0 0), (.bool (!v307))] (of_decide_eq_true rfl) ?_ (RnL.cons (Rn.ptr (js := [0]) 0 0) (RnL.cons (.keep _ (.bool _)) RnL.nil)) (RowsR.row 0 _ _ _ _ hp_get0 (RnL.cons (.keep _ (tyRec_76.lt _ _ _ gh0)) RnL.nil) RowsR.nil) rfl
 kernel_rfl
 replace hm := ifF z285 hm
 obtain ⟨v311, q310, hm⟩ := obs hm
 rcases Bool.eq_false_or_eq_true (!v311) with z314 | z314
 replace hm := ifT z314 hm
 refine WQ.region hT rfl ?_
 simp only [go_sem, ↓reduceIte, reduceCtorEq, Nat.reduceEqDiff, Nat.reduceLT, Nat.reduceLeDiff, Nat.reduceAdd, Nat.reduceMul, Int.reduceLE]
 refine w_s_l1In i11 (i64c (a := 1) rfl) (i64c (a := 6) rfl) q279 (fun y281 h282 => ?_)
 obtain rfl := h282
 unfold sealK; simp only [go_sem, ↓reduceIte, reduceCtorEq, Nat.reduceEqDiff, Nat.reduceLT, Nat.reduceLeDiff, Nat.reduceAdd, Nat.reduceMul, Int.reduceLE, eqF z283, eqF z284, eqF z285]
 refine w_s_l1Key i13 q310 (fun y312 h313 => ?_)
 obtain rfl := h313
 unfold sealK; simp only [go_sem, ↓reduceIte, reduceCtorEq, Nat.reduceEqDiff, Nat.reduceLT, Nat.reduceLeDiff, Nat.reduceAdd, Nat.reduceMul, Int.reduceLE, eqF z283, eqF z284, eqF z285, eqT z314]
 refine j180 _ _ _ true ?_ hm
 refine Norm.mkL (js := [0]) (m := 1) [1, 51] [(.ep 8 (.sl 8 n 0 1 1 true) 0 0), (.bool true)] (of_decide_eq_true rfl) ?_ (RnL.cons (Rn.ptr (js := [0]) 0 0) (RnL.cons (.keep _ (.bool _)) RnL.nil)) (RowsR.row 0 _ _ _ _ hp_get0 (RnL.cons (.keep _ (tyRec_76.lt _ _ _ gh0)) RnL.nil) RowsR.nil) rfl
 kernel_rfl
 replace hm := ifF z314 hm
 obtain ⟨v316, q315, hm⟩ := obs hm
 rcases Bool.eq_false_or_eq_true (!v316) with z319 | z319
 replace hm := ifT z319 hm
 refine WQ.region hT rfl ?_
 simp only [go_sem, ↓reduceIte, reduceCtorEq, Nat.reduceEqDiff, Nat.reduceLT, Nat.reduceLeDiff, Nat.reduceAdd, Nat.reduceMul, Int.reduceLE]
 refine w_s_l1In i11 (i64c (a := 1) rfl) (i64c (a := 6) rfl) q279 (fun y281 h282 => ?_)
 obtain rfl := h282
 unfold sealK; simp only [go_sem, ↓reduceIte, reduceCtorEq, Nat.reduceEqDiff, Nat.reduceLT, Nat.reduceLeDiff, Nat.reduceAdd, Nat.reduceMul, Int.reduceLE, eqF z283, eqF z284, eqF z285]
 refine w_s_l1Key i13 q310 (fun y312 h313 => ?_)
 obtain rfl := h313
 unfold sealK; simp only [go_sem, ↓reduceIte, reduceCtorEq, Nat.reduceEqDiff, Nat.reduceLT, Nat.reduceLeDiff, Nat.reduceAdd, Nat.reduceMul, Int.reduceLE, eqF z283, eqF z284, eqF z285, eqF z314]
 refine w_s_l1Value i14 q315 (fun y317 h318 => ?_)
 obtain rfl := h318
 unfold sealK; simp only [go_sem, ↓reduceIte, reduceCtorEq, Nat.reduceEqDiff, Nat.reduceLT, Nat.reduceLeDiff, Nat.reduceAdd, Nat.reduceMul, Int.reduceLE, eqF z283, eqF z284, eqF z285, eqF z314, eqT z319]
 refine j180 _ _ _ true ?_ hm
 refine Norm.mkL (js := [0]) (m := 1) [1, 51] [(.ep 8 (.sl 8 n 0 1 1 true) 0 0), (.bool true)] (of_decide_eq_true rfl) ?_ (RnL.cons (Rn.ptr (js := [0]) 0 0) (RnL.cons (.keep _ (.bool _)) RnL.nil)) (RowsR.row 0 _ _ _ _ hp_get0 (RnL.cons (.keep _ (tyRec_76.lt _ _ _ gh0)) RnL.nil) RowsR.nil) rfl
 kernel_rfl
 replace hm := ifF z319 hm
 obtain ⟨v321, q320, hm⟩ := obs hm
 rcases Bool.eq_false_or_eq_true (!v321) with z324 | z324
 replace hm := ifT z324 hm
 refine WQ.region hT rfl ?_
 simp only [go_sem, ↓reduceIte, reduceCtorEq, Nat.reduceEqDiff, Nat.reduceLT, Nat.reduceLeDiff, Nat.reduceAdd, Nat.reduceMul, Int.reduceLE]
 refine w_s_l1In i11 (i64c (a := 1) rfl) (i64c (a := 6) rfl) q279 (fun y281 h282 => ?_)
 obtain rfl := h282
 unfold sealK; simp only [go_sem, ↓reduceIte, reduceCtorEq, Nat.reduceEqDiff, Nat.reduceLT, Nat.reduceLeDiff, Nat.reduceAdd, Nat.reduceMul, Int.reduceLE, eqF z283, eqF z284, eqF z285]
 refine w_s_l1Key i13 q310 (fun y312 h313 => ?_)
 obtain rfl := h313
 unfold sealK; simp only [go_sem, ↓reduceIte, reduceCtorEq, Nat.reduceEqDiff, Nat.reduceLT, Nat.reduceLeDiff, Nat.reduceAdd, Nat.reduceMul, Int.reduceLE, eqF z283, eqF z284, eqF z285, eqF z314]
 refine w_s_l1Value i14 q315 (fun y317 h318 => ?_)
 obtain rfl := h318
 unfold sealK; simp only [go_sem, ↓reduceIte, reduceCtorEq, Nat.reduceEqDiff, Nat.reduceLT, Nat.reduceLeDiff, Nat.reduceAdd, Nat.reduceMul, Int.reduceLE, eqF z283, eqF z284, eqF z285, eqF z314, eqF z319]
 refine w_s_l1Value i15 q320 (fun y322 h323 => ?_)
 obtain rfl := h323
 unfold sealK; simp only [go_sem, ↓reduceIte, reduceCtorEq, Nat.reduceEqDiff, Nat.reduceLT, Nat.reduceLeDiff, Nat.reduceAdd, Nat.reduceMul, Int.reduceLE, eqF z283, eqF z284, eqF z285, eqF z314, eqF z319, eqT z324]
 refine j180 _ _ _ true ?_ hm
 refine Norm.mkL (js := [0]) (m := 1) [1, 51] [(.ep 8 (.sl 8 n 0 1 1 true) 0 0), (.bool true)] (of_decide_eq_true rfl) ?_ (RnL.cons (Rn.ptr (js := [0]) 0 0) (RnL.cons (.keep _ (.bool _)) RnL.nil)) (RowsR.row 0 _ _ _ _ hp_get0 (RnL.cons (.keep _ (tyRec_76.lt _ _ _ gh0)) RnL.nil) RowsR.nil) rfl
 kernel_rfl
 replace hm := ifF z324 hm
 obtain ⟨v326, q325, hm⟩ := obs hm
 refine WQ.region hT rfl ?_
 simp only [go_sem, ↓reduceIte, reduceCtorEq, Nat.reduceEqDiff, Nat.reduceLT, Nat.reduceLeDiff, Nat.reduceAdd, Nat.reduceMul, Int.reduceLE]
 refine w_s_l1In i11 (i64c (a := 1) rfl) (i64c (a := 6) rfl) q279 (fun y281 h282 => ?_)
 obtain rfl := h282
 unfold sealK; simp only [go_sem, ↓reduceIte, reduceCtorEq, Nat.reduceEqDiff, Nat.reduceLT, Nat.reduceLeDiff, Nat.reduceAdd, Nat.reduceMul, Int.reduceLE, eqF z283, eqF z284, eqF z285]
 refine w_s_l1Key i13 q310 (fun y312 h313 => ?_)
 obtain rfl := h313
 unfold sealK; simp only [go_sem, ↓reduceIte, reduceCtorEq, Nat.reduceEqDiff, Nat.reduceLT, Nat.reduceLeDiff, Nat.reduceAdd, Nat.reduceMul, Int.reduceLE, eqF z283, eqF z284, eqF z285, eqF z314]
 refine w_s_l1Value i14 q315 (fun y317 h318 => ?_)
 obtain rfl := h318
 unfold sealK; simp only [go_sem, ↓reduceIte, reduceCtorEq, Nat.reduceEqDiff, Nat.reduceLT, Nat.reduceLeDiff, Nat.reduceAdd, Nat.reduceMul, Int.reduceLE, eqF z283, eqF z284, eqF z285, eqF z314, eqF z319]
 refine w_s_l1Value i15 q320 (fun y322 h323 => ?_)
 obtain rfl := h323
 unfold sealK; simp only [go_sem, ↓reduceIte, reduceCtorEq, Nat.reduceEqDiff, Nat.reduceLT, Nat.reduceLeDiff, Nat.reduceAdd, Nat.reduceMul, Int.reduceLE, eqF z283, eqF z284, eqF z285, eqF z314, eqF z319, eqF z324]
 refine w_s_l1In i16 (i64c (a := 0) rfl) (i64c (a := 1000) rfl) q325 (fun y327 h328 => ?_)
 obtain rfl := h328
 unfold sealK; simp only [go_sem, ↓reduceIte, reduceCtorEq, Nat.reduceEqDiff, Nat.reduceLT, Nat.reduceLeDiff, Nat.reduceAdd, Nat.reduceMul, Int.reduceLE, eqF z283, eqF z284, eqF z285, eqF z314, eqF z319, eqF z324]
 refine j180 _ _ _ (!v326) ?_ hm
 refine Norm.mkL (js := [0]) (m := 1) [1, 51] [(.ep 8 (.sl 8 n 0 1 1 true) 0 0), (.bool (!v326))] (of_decide_eq_true rfl) ?_ (RnL.cons (Rn.ptr (js := [0]) 0 0) (RnL.cons (.keep _ (.bool _)) RnL.nil)) (RowsR.row 0 _ _ _ _ hp_get0 (RnL.cons (.keep _ (tyRec_76.lt _ _ _ gh0)) RnL.nil) RowsR.nil) rfl
 kernel_rfl
end
end Go.Proofs.Ytcngfjmfgeckmaa
end
namespace Go.Proofs.Ytcngfjmfgeckmaa
open Go
def within (x lo hi : Int) : Bool := decide (lo ≤ x) && decide (x ≤ hi)
def RecD.turns (r : RecD) : Bool := decide (r.kind = 2) || decide (r.kind = 5)
def RecD.bad1 (r : RecD) : Bool := ((((!within r.kind 1 6 || !(if r.kind = 6 then decide (r.txn = 0) else within r.txn 1 999)) || !within r.key 0 31) || !within r.old 0 9999) || !within r.new 0 9999) || !within r.back 0 1000
def RecD.bad2 (r : RecD) : Bool := !r.turns && ((((decide (r.key ≠ 0) || r.had) || decide (r.old ≠ 0)) || r.has) || decide (r.new ≠ 0))
def RecD.bad3 (r : RecD) : Bool := ((!r.had && decide (r.old ≠ 0)) || (!r.has && decide (r.new ≠ 0))) || !(decide (r.kind = 5) == decide (r.back ≠ 0))
def recFault (r : RecD) : Int := if r.bad1 = true then 3 else if r.bad2 = true then 1 else if r.bad3 = true then 1 else 0
theorem bad1_spec (r : RecD) : r.bad1 = (((((((!within r.kind 1 6) || !(decide (r.kind = 6) == decide (r.txn = 0))) || (decide (r.txn ≠ 0) && !within r.txn 1 999)) || !within r.key 0 31) || !within r.old 0 9999) || !within r.new 0 9999) || !within r.back 0 1000) := by
  unfold RecD.bad1
  have : ((!within r.kind 1 6) || !(if r.kind = 6 then decide (r.txn = 0) else within r.txn 1 999)) = (((!within r.kind 1 6) || !(decide (r.kind = 6) == decide (r.txn = 0))) || (decide (r.txn ≠ 0) && !within r.txn 1 999)) := by
    by_cases h1 : r.kind = 6 <;> by_cases h2 : r.txn = 0 <;> simp [h1, h2, within]
  rw [this]
section
variable {fu : Nat}
theorem m_i_within_eq {x lo hi : Int} : m_i_within fu x lo hi = some (within x lo hi) := by
  unfold m_i_within m_i_within_a1 within; cases decide (lo ≤ x) <;> rfl
theorem m_s_l1In_eq {x lo hi : Int} : m_s_l1In fu x lo hi = some (within x lo hi) := by
  unfold m_s_l1In m_s_l1In_a1 within; cases decide (lo ≤ x) <;> rfl
theorem m_i_isTxn_eq {x : Int} : m_i_isTxn fu x = some (within x 1 999) := by unfold m_i_isTxn; rw [m_i_within_eq]; rfl
theorem m_i_isKey_eq {x : Int} : m_i_isKey fu x = some (within x 0 31) := by unfold m_i_isKey; rw [m_i_within_eq]; rfl
theorem m_i_isValue_eq {x : Int} : m_i_isValue fu x = some (within x 0 9999) := by unfold m_i_isValue; rw [m_i_within_eq]; rfl
theorem m_s_l3Txn_eq {x : Int} : m_s_l3Txn fu x = some (within x 1 999) := by unfold m_s_l3Txn; rw [m_s_l1In_eq]; rfl
theorem m_s_l1Key_eq {x : Int} : m_s_l1Key fu x = some (within x 0 31) := by unfold m_s_l1Key; rw [m_s_l1In_eq]; rfl
theorem m_s_l1Value_eq {x : Int} : m_s_l1Value fu x = some (within x 0 9999) := by unfold m_s_l1Value; rw [m_s_l1In_eq]; rfl
theorem m_i_Rec_turns_eq {r : RecD} : m_i_Rec_turns fu r = some r.turns := by
  unfold m_i_Rec_turns m_i_Rec_turns_a1 RecD.turns; cases decide (r.kind = 2) <;> rfl
theorem m_i_RecFault_eq {r : RecD} : m_i_RecFault fu r = some (recFault r) := by
  have e5 : ∀ b, m_i_RecFault_a5 fu r b = some (if b = true then 3 else if r.bad2 = true then 1 else if r.bad3 = true then 1 else 0) := fun b => by
    unfold m_i_RecFault_a5 m_i_RecFault_a4 m_i_RecFault_a3 m_i_RecFault_a2 m_i_RecFault_a1 RecD.bad2 RecD.bad3
    rw [m_i_Rec_turns_eq, Option.bind_some]
    cases b
    · cases r.turns <;> cases decide (r.key ≠ 0) <;> cases r.had <;> cases decide (r.old ≠ 0) <;> cases r.has <;> cases decide (r.new ≠ 0) <;> cases (decide (r.kind = 5) == decide (r.back ≠ 0)) <;> rfl
    · rfl
  have e6 : ∀ b, m_i_RecFault_a6 fu r b = some (if (((((!within r.kind 1 6 || !b) || !within r.key 0 31) || !within r.old 0 9999) || !within r.new 0 9999) || !within r.back 0 1000) = true then 3 else if r.bad2 = true then 1 else if r.bad3 = true then 1 else 0) := fun b => by
    unfold m_i_RecFault_a6
    rw [m_i_within_eq, Option.bind_some, m_i_isKey_eq, Option.bind_some, m_i_isValue_eq, Option.bind_some, m_i_isValue_eq, Option.bind_some, m_i_within_eq, Option.bind_some]
    rw [e5, e5]
    cases within r.kind 1 6 <;> cases b <;> cases within r.key 0 31 <;> cases within r.old 0 9999 <;> cases within r.new 0 9999 <;> cases within r.back 0 1000 <;> rfl
  unfold m_i_RecFault recFault RecD.bad1
  rw [m_i_isTxn_eq, Option.bind_some, e6, e6]
  by_cases h6 : r.kind = 6
  · rw [if_pos (decide_eq_true h6), if_pos h6]
  · rw [if_neg (by simp [h6]), if_neg h6]
theorem m_s_RecFault_eq {r : RecD} : m_s_RecFault fu r = some (recFault r) := by
  have e3 : ∀ b, m_s_RecFault_a3 fu r b = some (if (!b && ((((decide (r.key ≠ 0) || r.had) || decide (r.old ≠ 0)) || r.has) || decide (r.new ≠ 0))) = true then 1 else if r.bad3 = true then 1 else 0) := fun b => by
    unfold m_s_RecFault_a3 m_s_RecFault_a2 m_s_RecFault_a1 RecD.bad3
    cases b <;> cases decide (r.key ≠ 0) <;> cases r.had <;> cases decide (r.old ≠ 0) <;> cases r.has <;> cases decide (r.new ≠ 0) <;> cases (decide (r.kind = 5) == decide (r.back ≠ 0)) <;> rfl
  have e4 : ∀ b, m_s_RecFault_a4 fu r b = some (if b = true then 3 else if r.bad2 = true then 1 else if r.bad3 = true then 1 else 0) := fun b => by
    unfold m_s_RecFault_a4 RecD.bad2 RecD.turns
    rw [e3, e3]
    cases b
    · cases decide (r.kind = 2) <;> rfl
    · rfl
  unfold m_s_RecFault recFault
  rw [bad1_spec, m_s_l1In_eq, m_s_l3Txn_eq, m_s_l1Key_eq, m_s_l1Value_eq, m_s_l1Value_eq, m_s_l1In_eq]
  simp only [Option.bind_some]
  rw [e4, e4]
  cases within r.kind 1 6 <;> cases (decide (r.kind = 6) == decide (r.txn = 0)) <;> cases decide (r.txn ≠ 0) <;> cases within r.txn 1 999 <;> cases within r.key 0 31 <;> cases within r.old 0 9999 <;> cases within r.new 0 9999 <;> cases within r.back 0 1000 <;> rfl
end
section
variable {h : Heap} {n : Nat} {K : AV → Heap → Nat → Prop}
theorem c55 {e : AV} {r : RecD} (hr : RecR e r) (hk : K (.bool r.turns) h n) : CA Try.prog 55 [e] h n K := w_i_Rec_turns hr (fu := 0) m_i_Rec_turns_eq fun y hy => by obtain rfl := hy; exact hk
theorem c92 {e : AV} {r : RecD} (hr : RecR e r) (hk : K (.int .i64 (recFault r)) h n) : CA Try.prog 92 [e] h n K := w_s_RecFault hr (fu := 0) m_s_RecFault_eq fun y hy => by obtain ⟨rfl, _⟩ := hy; exact hk
theorem c53 {e : AV} {r : RecD} (hr : RecR e r) (hk : K (.int .i64 (recFault r)) h n) : CA Try.prog 53 [e] h n K := w_i_RecFault hr (fu := 0) m_i_RecFault_eq fun y hy => by obtain ⟨rfl, _⟩ := hy; exact hk
end
end Go.Proofs.Ytcngfjmfgeckmaa
namespace Go.Proofs.Ytcngfjmfgeckmaa
open Go
section
variable {h : Heap} {n : Nat} {K : AV → Heap → Nat → Prop}
def has (l : List Int) (v : Int) : Bool := l.any fun a => decide (a = v)
theorem all2_drop {α β : Type} {Q : α → β → Prop} {a : List α} {b : List β} (h : All2 Q a b) (i : Nat) : All2 Q (a.drop i) (b.drop i) := by
  induction h generalizing i with
  | nil => simp; exact .nil
  | cons h1 h2 ih => cases i with | zero => exact .cons h1 h2 | succ i => simpa using ih i
theorem all2_take {α β : Type} {Q : α → β → Prop} {a : List α} {b : List β} (h : All2 Q a b) (i : Nat) : All2 Q (a.take i) (b.take i) := by
  induction h generalizing i with
  | nil => simp; exact .nil
  | cons h1 h2 ih => cases i with | zero => exact .nil | succ i => simpa using All2.cons h1 (ih i)
end
end Go.Proofs.Ytcngfjmfgeckmaa
namespace Go.Proofs.Ytcngfjmfgeckmaa
open Go
section
variable {h : Heap} {n : Nat} {K : AV → Heap → Nat → Prop}
def undoes (txn m : Int) (r : RecD) : Bool := (decide (r.kind = 5) && decide (r.txn = txn)) && decide (r.back = m)
def chainG (txn : Int) : Nat → List RecD → List Int
  | _, [] => []
  | k, r :: rest => chainG txn (k + 1) rest ++ (if ((decide (r.kind = 2) && decide (r.txn = txn)) && !rest.any (undoes txn ((k : Int) + 1))) = true then [(k : Int) + 1] else [])
theorem chainG_len (txn : Int) : ∀ (l : List RecD) (k : Nat), (chainG txn k l).length ≤ l.length
  | [], _ => Nat.le_refl _
  | r :: rest, k => by
    have := chainG_len txn rest (k + 1)
    unfold chainG
    split <;> simp <;> omega
theorem chainG_mem (txn : Int) : ∀ (l : List RecD) (k : Nat) (a : Int), a ∈ chainG txn k l → ∃ i r, l[i]? = some r ∧ a = ((k + i : Nat) : Int) + 1 ∧ r.kind = 2 ∧ r.txn = txn
  | [], _, a, h => by cases h
  | r :: rest, k, a, h => by
    unfold chainG at h
    rcases List.mem_append.1 h with h | h
    · obtain ⟨i, x, h1, h2, h3⟩ := chainG_mem txn rest (k + 1) a h
      exact ⟨i + 1, x, by simpa using h1, by rw [h2]; congr 1; omega, h3⟩
    · split at h
      · rename_i hc
        simp only [Bool.and_eq_true, decide_eq_true_eq] at hc
        exact ⟨0, r, rfl, by rw [List.mem_singleton.1 h]; rfl, hc.1⟩
      · cases h
theorem chainG_bd {txn : Int} {l : List RecD} {k : Nat} {a : Int} (h : a ∈ chainG txn k l) : 1 ≤ a ∧ a ≤ k + l.length := by
  obtain ⟨i, r, h1, h2, _⟩ := chainG_mem txn l k a h
  have := (List.getElem?_eq_some_iff.1 h1).1
  omega
theorem chainG_step {txn : Int} {l : List RecD} {j : Nat} {r : RecD} (hr : l[j]? = some r) :
    chainG txn j (l.drop j) = chainG txn (j + 1) (l.drop (j + 1)) ++ (if ((decide (r.kind = 2) && decide (r.txn = txn)) && !(l.drop (j + 1)).any (undoes txn ((j : Int) + 1))) = true then [(j : Int) + 1] else []) := by
  have : l.drop j = r :: l.drop (j + 1) := by
    obtain ⟨hj, rfl⟩ := List.getElem?_eq_some_iff.1 hr
    exact List.drop_eq_getElem_cons hj
  rw [this, chainG]
def goneG (txn : Int) : List RecD → List Int
  | [] => []
  | r :: rest => goneG txn rest ++ (if (decide (r.txn = txn) && decide (r.kind = 5)) = true then [r.back] else [])
theorem goneG_len (txn : Int) : ∀ l : List RecD, (goneG txn l).length ≤ l.length
  | [] => Nat.le_refl _
  | r :: rest => by have := goneG_len txn rest; unfold goneG; split <;> simp <;> omega
theorem goneG_has (txn m : Int) : ∀ l : List RecD, has (goneG txn l) m = l.any (undoes txn m)
  | [] => rfl
  | r :: rest => by
    have ih := goneG_has txn m rest
    unfold goneG
    unfold has at ih ⊢
    rw [List.any_append, ih, List.any_cons, Bool.or_comm]
    congr 1
    unfold undoes
    by_cases h1 : r.txn = txn <;> by_cases h2 : r.kind = 5 <;> simp [h1, h2]
theorem goneG_step {txn : Int} {l : List RecD} {j : Nat} {r : RecD} (hr : l[j]? = some r) :
    goneG txn (l.drop j) = goneG txn (l.drop (j + 1)) ++ (if (decide (r.txn = txn) && decide (r.kind = 5)) = true then [r.back] else []) := by
  have : l.drop j = r :: l.drop (j + 1) := by
    obtain ⟨hj, rfl⟩ := List.getElem?_eq_some_iff.1 hr
    exact List.drop_eq_getElem_cons hj
  rw [this, goneG]
end
end Go.Proofs.Ytcngfjmfgeckmaa
namespace Go.Proofs.Ytcngfjmfgeckmaa
open Go
structure IntResultD where
  code : Int
  value : Int
  deriving DecidableEq
def IntResultR (e : AV) (a : IntResultD) : Prop := e = .agg [.int .i64 a.code, .int .i64 a.value] ∧ I64 a.code ∧ I64 a.value
theorem intResult_lt (e : AV) (a : IntResultD) (n : Nat) (h : IntResultR e a) : e.Lt n := by
  obtain ⟨rfl, _, _⟩ := h
  rw [lt_agg]; intro u hu
  simp only [List.mem_cons, List.not_mem_nil, or_false] at hu
  rcases hu with rfl | rfl
  · exact .int _ _
  · exact .int _ _
structure SimD where
  cells : List CellD
  begun : List Int
  ended : List Int
  undid : List Int
  held : List HeldD
def SimR (e : AV) (a : SimD) : Prop := ∃ x0 x1 x2 x3 x4, e = .agg [x0, x1, x2, x3, x4] ∧ SlR 2 CellR x0 a.cells ∧ SlR 1 Int64R x1 a.begun ∧ SlR 1 Int64R x2 a.ended ∧ SlR 1 Int64R x3 a.undid ∧ SlR 2 HeldR x4 a.held
theorem sim_lt (e : AV) (a : SimD) (n : Nat) (h : SimR e a) : e.Lt n := by
  obtain ⟨x0, x1, x2, x3, x4, rfl, h0, h1, h2, h3, h4⟩ := h
  rw [lt_agg]; intro u hu
  simp only [List.mem_cons, List.not_mem_nil, or_false] at hu
  rcases hu with rfl | rfl | rfl | rfl | rfl
  · exact slr_lt h0 n
  · exact slr_lt h1 n
  · exact slr_lt h2 n
  · exact slr_lt h3 n
  · exact slr_lt h4 n
def SimRH (h : Heap) (n : Nat) (e : AV) (a : SimD) : Prop := ∃ x0 x1 x2 x3 x4, e = .agg [x0, x1, x2, x3, x4] ∧ SlH h n 2 CellR x0 a.cells ∧ SlH h n 1 Int64R x1 a.begun ∧ SlH h n 1 Int64R x2 a.ended ∧ SlH h n 1 Int64R x3 a.undid ∧ SlH h n 2 HeldR x4 a.held
theorem SimRH.up {h : Heap} {n : Nat} {rows : List (Option (List AV))} {e : AV} {a : SimD} (he : SimRH h n e a) (m : Nat) : SimRH (hp h n rows) (n + m) e a := by
  obtain ⟨x0, x1, x2, x3, x4, rfl, h0, h1, h2, h3, h4⟩ := he
  exact ⟨x0, x1, x2, x3, x4, rfl, h0.up m, h1.up m, h2.up m, h3.up m, h4.up m⟩
theorem recFault_rng (r : RecD) : I64 (recFault r) := by
  unfold recFault
  repeat' split
  all_goals decide
end Go.Proofs.Ytcngfjmfgeckmaa
namespace Go.Proofs.Ytcngfjmfgeckmaa
open Go
section
variable {P : Program} {T : TE} {c : Cfg} {h : Heap} {n : Nat} {K : AV → Heap → Nat → Prop}
theorem CA.wide {f : FuncId} {sz id off len lo : Nat} {ex : Bool} {rest : List AV} {K : AV → Heap → Nat → Prop} (hg : Goes P f) (hc : ∀ cap, lo ≤ cap → cap ≤ maxLen → CA P f (.sl sz id off len cap true :: rest) h n K) : CA P f (.sl sz id off len lo ex :: rest) h n K := by
  refine ⟨hg, fun c vals hh hf hs hv => ?_⟩
  have h0 : 0 < vals.size := by rw [hs]; exact Nat.succ_pos _
  have hv0 := hv 0 _ _ rfl (Array.getElem?_eq_getElem h0)
  generalize hq : vals[0] = v0 at hv0
  cases hv0 with
  | sl _ _ _ _ _ _ b base cap hι hlen hlo hex hmax hroom ad had =>
    refine (hc cap hlo hmax).2 c vals hh hf hs fun i u v h1 h2 => ?_
    cases i with
    | succ i => exact hv (i + 1) u v h1 h2
    | zero =>
      obtain rfl := Option.some.inj h1
      rw [Array.getElem?_eq_getElem h0, hq] at h2
      obtain rfl := Option.some.inj h2
      exact .sl _ _ _ _ _ _ b base cap hι (Nat.le_trans hlen hlo) (Nat.le_refl _) (fun _ => rfl) hmax hroom ad had
theorem PostR.rename {v : Value} {w' : World} {sz id len lo n' : Nat} {ex : Bool} {h' : Heap} {b : List AV} (hp : PostR c h n v w' (.sl sz id 0 len lo ex) h' n') (hb : h' id = some b) : PostR c h n v w' (.sl sz n' 0 len lo ex) ((h'.del id).upd n' b) (n' + 1) := by
  obtain ⟨c', rfl, e, hh, hfr, hv, hn⟩ := hp
  obtain ⟨f, hf⟩ : ∃ f : Nat → Option (Nat × Nat × Nat), f = fun x => if x = n' then c'.ι id else c'.ι x := ⟨_, rfl⟩
  have fn' : f n' = c'.ι id := by rw [hf]; exact if_pos rfl
  have fo : ∀ x, x ≠ n' → f x = c'.ι x := fun x hx => by rw [hf]; exact if_neg hx
  have get : ∀ j b2, ((h'.del id).upd n' b) j = some b2 → (j = n' ∧ b2 = b) ∨ (j ≠ n' ∧ j ≠ id ∧ h' j = some b2) := fun j b2 hq => by
    by_cases hj : j = n'
    · subst hj; rw [Heap.upd_same] at hq; exact .inl ⟨rfl, (Option.some.inj hq).symm⟩
    · rw [Heap.upd_ne _ _ hj] at hq
      unfold Heap.del at hq
      split at hq
      · cases hq
      · exact .inr ⟨hj, by assumption, hq⟩
  have e2 : Ext c' h' (fun x => x = n') ⟨f, c'.Fz, c'.w⟩ ((h'.del id).upd n' b) := by
    refine ⟨rfl, rfl, rfl, Nat.le_refl _, fun j x hx => ?_, fun j x hx => ?_, fun _ hq => hq, fun _ arr _ _ hq => ⟨arr, hq, rfl⟩, fun _ _ _ => rfl, fun j blk x h1 h2 => ?_, fun _ hq => .inl hq⟩
    · have hj : j ≠ n' := fun hq => by subst hq; rw [hfr j (Nat.le_refl _)] at hx; cases hx
      exact (fo j hj).trans hx
    · by_cases hj : j = n'
      · exact .inr hj
      · exact .inl ((fo j hj).symm.trans hx)
    · rcases get j blk h1 with ⟨rfl, rfl⟩ | ⟨g1, g2, g3⟩
      · exact .inr ⟨id, blk, x, hb, fn'.symm.trans h2, rfl⟩
      · exact .inr ⟨j, blk, x, g3, (fo j g1).symm.trans h2, rfl⟩
  refine ⟨⟨f, c'.Fz, c'.w⟩, rfl, e.trans e2 (fun i hi => ⟨hi.1, by omega⟩) (fun i hi => ⟨by omega, by omega⟩), ⟨fun j blk hj => ?_, fun j1 j2 b1 b2 x y h1 h2 h3 h4 h5 => ?_, hh.fzlt⟩, fun j hj => ?_, ?_, by omega⟩
  · rcases get j blk hj with ⟨rfl, rfl⟩ | ⟨g1, g2, g3⟩
    · obtain ⟨bb, base, sz0, arr, E, hB⟩ := hh.blk id blk hb
      exact ⟨bb, base, sz0, arr, E, fn'.trans hB.ι, hB.heap, hB.nfz, hB.size, hB.one, fun i x j u q1 q2 => by
        obtain ⟨v, r1, r2⟩ := hB.cell i x j u q1 q2
        exact ⟨v, r1, r2.mono e2 hh⟩⟩
    · obtain ⟨bb, base, sz0, arr, E, hB⟩ := hh.blk j blk g3
      exact ⟨bb, base, sz0, arr, E, (fo j g1).trans hB.ι, hB.heap, hB.nfz, hB.size, hB.one, fun i x j u q1 q2 => by
        obtain ⟨v, r1, r2⟩ := hB.cell i x j u q1 q2
        exact ⟨v, r1, r2.mono e2 hh⟩⟩
  · rcases get j1 b1 h1 with ⟨p1, p2⟩ | ⟨g1, g2, g3⟩
    · rcases get j2 b2 h2 with ⟨q1, q2⟩ | ⟨q1, q2, q3⟩
      · omega
      · subst p1
        exact absurd (hh.inj id j2 b b2 x y hb q3 (fn'.symm.trans h3) ((fo j2 q1).symm.trans h4) h5).symm q2
    · rcases get j2 b2 h2 with ⟨q1, q2⟩ | ⟨q1, q2, q3⟩
      · subst q1
        exact absurd (hh.inj j1 id b1 b x y g3 hb ((fo j1 g1).symm.trans h3) (fn'.symm.trans h4) h5) g2
      · exact hh.inj j1 j2 b1 b2 x y g3 q3 ((fo j1 g1).symm.trans h3) ((fo j2 q1).symm.trans h4) h5
  · exact (fo j (by omega)).trans (hfr j (by omega))
  · cases hv with
    | sl _ _ _ _ _ _ bb base cap hι hlen hlo hex hmax hroom ad had => exact VR.sl (c := ⟨f, c'.Fz, c'.w⟩) sz n' 0 len lo ex bb base cap (fn'.trans hι) hlen hlo hex hmax hroom ad had
theorem CA.rename {f : FuncId} {args : List AV} {K : AV → Heap → Nat → Prop} (hc : CA P f args h n fun r h' n' => K r h' n' ∨ ∃ sz id len lo ex b, r = .sl sz id 0 len lo ex ∧ h' id = some b ∧ K (.sl sz n' 0 len lo ex) ((h'.del id).upd n' b) (n' + 1)) : CA P f args h n K := by
  refine ⟨hc.1, fun c vals hh hf hs hv => Calls.mono (hc.2 c vals hh hf hs hv) fun e w' he => ?_⟩
  obtain ⟨v, r, h', n', rfl, hp, hq⟩ := he
  rcases hq with hK | ⟨sz, id, len, lo, ex, b, rfl, hb, hK⟩
  · exact ⟨v, _, _, _, rfl, hp, hK⟩
  · exact ⟨v, _, _, _, rfl, hp.rename hb, hK⟩
end
end Go.Proofs.Ytcngfjmfgeckmaa
