import Derived.Test.YtcngfjmfgeckmaaChecked
import Derived.Test.YtcngfjmfgeckmaaZ19c
set_option linter.unusedSimpArgs false
set_option linter.unusedVariables false
set_option linter.unusedSectionVars false
namespace Go.Proofs.Ytcngfjmfgeckmaa
open Go
theorem MarkC.mono {P : Program} {f : FuncId} {H H' : AV → Nat → Int → Prop} {x' : AV} {w : Nat} (hm : MarkC P f H x' w) (hh : ∀ e k, H e w k → H' e w k) : MarkC P f H' x' w :=
  fun h n K x I k ht hk hkw hK => hm h n K x I k ht hk hkw fun x'' h' n' h1 h2 h3 h4 => hK x'' h' n' h1 h2 h3 (hh _ _ h4)
theorem one_cells {e : AV} (h : e.one = true) : e.cells = [e] := by cases e <;> first | rfl | (simp [AV.one] at h)
theorem Tree.slOne {α : Type} {sz : Nat} {R : AV → α → Prop} {h : Heap} {e e' : AV} {J : List Nat} {l : List α} (ht : Tree h e e' J) (hs : SlR sz R e' l) : e.cells = [e] := by
  obtain ⟨es, hes, _, _, hlt, _⟩ := hs
  cases ht with
  | atom u hu hn =>
    cases hu <;> first | rfl | (cases hes; done)
  | sl => rfl
  | agg => cases hes
section
variable {T : TE} {E : Env} {h : Heap} {n : Nat} {K : AV → Heap → Nat → Prop}
theorem frzL1 {a a' : AV} (ha : a = a' ∨ Frz 0 h a a') : ∀ (i : Nat) (u u' : AV), [a][i]? = some u → [a'][i]? = some u' → u = u' ∨ Frz 0 h u u' := fun i u u' h1 h2 => by
  match i with
  | 0 => simp at h1 h2; subst h1; subst h2; exact ha
  | i + 1 => simp at h1
theorem frzL2 {a a' b b' : AV} (ha : a = a' ∨ Frz 0 h a a') (hb : b = b' ∨ Frz 0 h b b') : ∀ (i : Nat) (u u' : AV), [a, b][i]? = some u → [a', b'][i]? = some u' → u = u' ∨ Frz 0 h u u' := fun i u u' h1 h2 => by
  match i with
  | 0 => simp at h1 h2; subst h1; subst h2; exact ha
  | 1 => simp at h1 h2; subst h1; subst h2; exact hb
  | i + 2 => simp at h1
theorem OwnRes.frz0 {β : Type} {U : AV → β → Prop} {r : AV} {b : β} {h' : Heap} {n' : Nat} (ho : OwnRes U h n r b h' n') : ∃ r' I, Tree h' r r' I ∧ U r' b ∧ (∀ i, i ∈ I → n ≤ i ∧ i < n') := by
  obtain ⟨⟨r', I, h1, h2, h3, _⟩, _, _⟩ := ho
  exact ⟨r', I, h1, h2, h3⟩
theorem Tree.frz00 {x x' : AV} {I : List Nat} (ht : Tree h x x' I) : Frz 0 h x x' := ht.frz fun _ _ _ hb => ⟨Nat.zero_le _, hb⟩
theorem len2 {α : Type} {l : List α} (h : l.length = 2) : ∃ a b, l = [a, b] := by
  match l, h with
  | [a, b], _ => exact ⟨a, b, rfl⟩
theorem op_slice_ro {e : Operand → AV} {t el : TypeId} {x : Operand} {lo hi mx : Option Operand} {ex : Bool} {l : List AV} {i j m : Nat} (ht : (T t).ty = .slice el) (hpos : 0 < (T el).sz) (hx : e x = .ro (T el).sz ex l) (hmh : mx.isSome = true → hi.isSome = true)
    (hlo : bnd (lo.map e) 0 i) (hhi : bnd (hi.map e) l.length j) (hmx : bnd (mx.map e) l.length m) (h1 : i ≤ j) (h2 : j ≤ m) (h3 : m ≤ l.length) (hk : K (.ro (T el).sz (if mx.isSome then decide (m = j) else (ex && decide (j = l.length))) ((l.drop i).take (j - i))) h n) : opP T (.slice t x lo hi mx) e h n K := by
  simp only [opP, hx]
  refine ⟨el, ht, hpos, hmh, rfl, i, j, m, hlo, hhi, hmx, h1, h2, h3, ?_⟩
  cases mx <;> simpa using hk
theorem e_bs0 {e : Operand → AV} (t : TypeId) : opP T (.buildSlice t 0 #[]) e h n K = (match (T t).ty with
    | .slice el => 0 < (T el).sz ∧ K (.sl (T el).sz n 0 0 0 true) (h.upd n []) (n + 1)
    | _ => False) := by
  rw [e_buildSlice]
  cases (T t).ty <;> simp only
  rename_i el
  exact propEq (fun ⟨h1, _, _, _, h5⟩ => ⟨h1, h5⟩) (fun ⟨h1, h5⟩ => ⟨h1, by simp, rfl, fun p hp => by simp at hp, h5⟩)
theorem slr_cases {α : Type} {sz : Nat} {R : AV → α → Prop} {x : AV} {l : List α} (h : SlR sz R x l) : (x = .nils ∧ l = []) ∨ ∃ ex es, x = .ro sz ex es ∧ All2 R es l := by
  obtain ⟨es, hes, hal, hml, hlt, ho⟩ := h
  cases x <;> first | (cases hes; done) | skip
  case nils =>
    obtain rfl : es = [] := by simpa [rdSl] using hes.symm
    cases hal; exact .inl ⟨rfl, rfl⟩
  case ro s ex l' =>
    unfold rdSl at hes
    simp only at hes
    split at hes
    · rename_i hs
      obtain rfl := Option.some.inj hes
      subst hs
      exact .inr ⟨ex, _, rfl, hal⟩
    · cases hes
  case sl s id off len lo ex =>
    have := hlt 0
    cases this with
    | sl _ _ _ _ _ _ hq => omega
theorem own_done {β : Type} {U : AV → β → Prop} {hF : Heap} {nF : Nat} {r r' : AV} {b : β} {I : List Nat} (_ : h.below n) (ht : Tree hF r r' I) (hU : U r' b) (hI : ∀ i, i ∈ I → n ≤ i ∧ i < nF) (hb : ∀ id, id < n → hF id = h id) (hle : n ≤ nF)
    (hk : ∀ r h' n', OwnRes U h n r b h' n' → K r h' n') : ∃ r2 h2 n2, Conv n h r hF nF r2 h2 n2 ∧ K r2 h2 n2 := by
  let g : Heap := fun id => if id < n ∨ id ∈ I then hF id else none
  refine ⟨_, g, nF, .keep _ _ _ _ (fun id b hb => ?_), hk _ _ _ ⟨⟨r', I, ht.keep fun i hi => ?_, hU, hI, fun id hid hni => ?_⟩, fun id hid => ?_, hle⟩⟩
  · simp only [g] at hb
    split at hb
    · exact hb
    · cases hb
  · simp only [g]; rw [if_pos (.inr hi)]
  · simp only [g]
    rw [if_neg]
    rintro (hq | hq)
    · omega
    · exact hni hq
  · simp only [g]
    rw [if_pos (.inl hid)]
    exact hb id hid
theorem SlR.ltn {α : Type} {sz : Nat} {R : AV → α → Prop} {x : AV} {l : List α} (h : SlR sz R x l) (n : Nat) : x.Lt n := by
  obtain ⟨_, _, _, _, h, _⟩ := h; exact h n
theorem SlR.isOne {α : Type} {sz : Nat} {R : AV → α → Prop} {x : AV} {l : List α} (h : SlR sz R x l) : x.one = true := by
  obtain ⟨_, _, _, _, _, h⟩ := h; exact h
theorem Tree.slGood {α : Type} {sz : Nat} {R : AV → α → Prop} {h : Heap} {e e' : AV} {J : List Nat} {l : List α} (ht : Tree h e e' J) (hs : SlR sz R e' l) : e.good = true := by
  obtain ⟨es, hes, _, _, hlt, _⟩ := hs
  cases ht with
  | atom u hu hn => cases hu <;> first | rfl | (cases hes; done)
  | sl => rfl
  | agg => cases hes
theorem TyO.slice {β : Type} {T : TE} {t e : TypeId} {sz : Nat} {U : AV → β → Prop} (_ht : (T t).ty = .slice e) (h1 : (T t).sz = 1) (hz : (T t).zero = .nils) (hp : ∀ (off : Nat) (x : AV), Go.Proofs.Ytcngfjmfgeckmaa.part T t off x = x.cells[off]?) : TyO T t (SlR sz U) where
  len := fun h r r' I b ht hu => by rw [ht.slOne hu, h1]; rfl
  good := fun h r r' I b ht hu => ht.slGood hu
  setz := fun h r r' I b _ _ => by rw [hz]; rfl
  part := fun h r r' I b ht hu => by rw [hp, ht.slOne hu]; rfl
theorem TyO.struct {β : Type} {T : TE} {t : TypeId} {zs : List AV} {U : AV → β → Prop} (hz : (T t).zero = .agg zs) (hzl : zs.length = (T t).sz) (hp : ∀ (off : Nat) (x : AV), Go.Proofs.Ytcngfjmfgeckmaa.part T t off x = if off + (T t).sz ≤ x.cells.length then some (.agg ((x.cells.drop off).take (T t).sz)) else none)
    (hU : ∀ r b, U r b → ∃ cs, r = .agg cs ∧ cs.length = (T t).sz) : TyO T t U := by
  have key : ∀ h r r' I b, Tree h r r' I → U r' b → ∃ cs, r = .agg cs ∧ cs.length = (T t).sz := fun h r r' I b ht hu => by
    obtain ⟨cs, rfl, hl⟩ := hU _ _ hu
    obtain ⟨cs', rfl, hl'⟩ := ht.aggE
    exact ⟨cs', rfl, by rw [← hl, hl'.length]⟩
  refine ⟨fun h r r' I b ht hu => ?_, fun h r r' I b ht hu => ?_, fun h r r' I b ht hu => ?_, fun h r r' I b ht hu => ?_⟩
  all_goals obtain ⟨cs, rfl, hl⟩ := key h r r' I b ht hu
  · exact hl
  · rfl
  · rw [hz, setPart_agg]
    have : List.drop (0 + (AV.agg cs).cells.length) zs = [] := List.drop_eq_nil_of_le (by simp [AV.cells]; omega)
    rw [this]; simp [AV.cells]
  · rw [hp]
    simp only [AV.cells, Nat.zero_add, List.drop_zero]
    rw [if_pos (by omega), List.take_of_length_le (by omega)]
theorem resA_one {a t sz id : Nat} {v : AV} (hE : E.get a = .ep sz (.sl sz id 0 1 1 true) 0 0) (hh : h id = some [v]) (hp : part T t 0 v = some v) (hc : cellOk T t = true) : resA T E h [.cell a t] = some [v] := by
  simp only [resA, hc, if_true, cellA, hE, rdSl_sl, hh]
  simp [hp]
theorem ret_cell {a t sz id n' : Nat} {v : AV} (hE : E.get a = .ep sz (.sl sz id 0 1 1 true) 0 0) (hh : h id = some [v]) (hp : part T t 0 v = some v) (hc : cellOk T t = true) (hk : K v h n') : retA T [.cell a t] K .ret E h n' :=
  ⟨[v], resA_one hE hh hp hc, hk⟩
end
end Go.Proofs.Ytcngfjmfgeckmaa
namespace Go.Proofs.Ytcngfjmfgeckmaa
open Go
def srcOf (n0 : Nat) (sel : List Nat) (id : Nat) : Option Nat := if id < n0 then some id else sel[id - n0]?
inductive Rn (n0 : Nat) (h : Heap) (sel : List Nat) : AV → AV → Prop
  | keep (u) (hu : u.Lt n0) : Rn n0 h sel u u
  | sl (sz old new off len lo ex ex') (hs : srcOf n0 sel new = some old) (hx : ex' = true → ex = true) : Rn n0 h sel (.sl sz old off len lo ex) (.sl sz new off len lo ex')
  | frz (sz old off len lo ex ex') (b l' : List AV) (ho : n0 ≤ old) (hb : h old = some b) (hn : old ∉ sel) (hle : off + len ≤ b.length) (hl : l'.length = len) (hx : ex' = true → ex = true ∧ lo = len)
      (he : ∀ (i : Nat) (e e' : AV), b[off + i]? = some e → l'[i]? = some e' → Rn n0 h sel e e') : Rn n0 h sel (.sl sz old off len lo ex) (.ro sz ex' l')
  | ep (sz sz2 old new o len lo ex ex' i off) (hs : srcOf n0 sel new = some old) : Rn n0 h sel (.ep sz (.sl sz2 old o len lo ex) i off) (.ep sz (.sl sz2 new o len lo ex') i off)
  | fn (f) (cs cs' : List AV) (hl : cs'.length = cs.length) (he : ∀ (i : Nat) (u u' : AV), cs[i]? = some u → cs'[i]? = some u' → Rn n0 h sel u u') : Rn n0 h sel (.fn f cs) (.fn f cs')
  | agg (cs cs' : List AV) (hl : cs'.length = cs.length) (he : ∀ (i : Nat) (u u' : AV), cs[i]? = some u → cs'[i]? = some u' → Rn n0 h sel u u') : Rn n0 h sel (.agg cs) (.agg cs')
  | tup (cs cs' : List AV) (hl : cs'.length = cs.length) (he : ∀ (i : Nat) (u u' : AV), cs[i]? = some u → cs'[i]? = some u' → Rn n0 h sel u u') : Rn n0 h sel (.tup cs) (.tup cs')
section
variable {c c' : Cfg} {h h2 : Heap} {n n2 n0 : Nat} {sel : List Nat} {u u' : AV}
theorem Rn.one (hz : Rn n0 h sel u u') (hu : u.one = true) : u'.one = true := by
  cases hz with
  | keep => exact hu
  | sl => rfl
  | frz => rfl
  | ep => rfl
  | fn => rfl
  | agg => simp [AV.one] at hu
  | tup => simp [AV.one] at hu
theorem Rn.cells (hz : Rn n0 h sel u u') : u'.cells.length = u.cells.length ∧ ∀ (j : Nat) (x x' : AV), u.cells[j]? = some x → u'.cells[j]? = some x' → Rn n0 h sel x x' := by
  have single : ∀ {a a' : AV}, Rn n0 h sel a a' → ∀ (j : Nat) (x x' : AV), [a][j]? = some x → [a'][j]? = some x' → Rn n0 h sel x x' := fun hr j x x' h1 h2 => by
    cases j with
    | zero => simp at h1 h2; subst h1; subst h2; exact hr
    | succ j => simp at h1
  cases hz with
  | keep _ hu =>
    refine ⟨rfl, fun j x x' h1 h2 => ?_⟩
    rw [h1] at h2
    obtain rfl := Option.some.inj h2
    refine .keep _ ?_
    cases hu with
    | agg cs hl => exact hl j _ h1
    | _ => cases j <;> simp [AV.cells] at h1; subst h1; constructor <;> assumption
  | sl sz old new off len lo ex ex' hs hx => exact ⟨rfl, single (.sl sz old new off len lo ex ex' hs hx)⟩
  | frz sz old off len lo ex ex' b l' ho hb hn hle hl hx he => exact ⟨rfl, single (.frz sz old off len lo ex ex' b l' ho hb hn hle hl hx he)⟩
  | ep sz sz2 old new o len lo ex ex' i off hs => exact ⟨rfl, single (.ep sz sz2 old new o len lo ex ex' i off hs)⟩
  | fn f cs cs' hl he => exact ⟨rfl, single (.fn f cs cs' hl he)⟩
  | agg cs cs' hl he => exact ⟨hl, he⟩
  | tup cs cs' hl he => exact ⟨rfl, single (.tup cs cs' hl he)⟩
theorem Rn.rel (hz : Rn n0 h sel u u') (hh : HR c h) (hw : c'.w = c.w) (hfz : ∀ b, c.Fz b → c'.Fz b) (hsel : ∀ new old x, srcOf n0 sel new = some old → c.ι old = some x → c'.ι new = some x)
    (hfr : ∀ id blk x, n0 ≤ id → h id = some blk → id ∉ sel → c.ι id = some x → c'.Fz x.1) : ∀ {v : Value}, VR c u v → VR c' u' v := by
  have hlow : ∀ id x, id < n0 → c.ι id = some x → c'.ι id = some x := fun id x h1 h2 => hsel id id x (by unfold srcOf; rw [if_pos h1]) h2
  induction hz with
  | keep u hu => exact fun hv => hv.relabel hu hw hfz hlow
  | sl sz old new off len lo ex ex' hs hx =>
    intro v hv
    cases hv with
    | sl _ _ _ _ _ _ bb base cap hι hlen hlo hex hmax hroom a ha => exact .sl sz new off len lo ex' bb base cap (hsel _ _ _ hs hι) hlen hlo (fun q => hex (hx q)) hmax (by rw [hw]; exact hroom) a ha
  | ep sz sz2 old new o len lo ex ex' i off hs =>
    intro v hv
    cases hv with
    | ep_sl _ _ _ _ _ _ _ _ bb base hι => exact .ep_sl sz new o len lo ex' i off bb base (hsel _ _ _ hs hι)
  | fn f cs cs' hl he ih =>
    intro v hv
    cases hv with
    | fn _ _ vs hs hv =>
      refine .fn f cs' vs (by omega) (fun i x y hx hy => ?_)
      have hlt := (List.getElem?_eq_some_iff.1 hx).1
      have h1 : cs[i]? = some (cs[i]'(by omega)) := List.getElem?_eq_getElem (by omega)
      exact ih i _ _ h1 hx (hv i _ _ h1 hy)
  | frz sz old off len lo ex ex' b l' ho hb hn hle hl hx he ih =>
    intro v hv
    cases hv with
    | sl _ _ _ _ _ _ bb base cap hι hlen hlo hex hmax hroom a ha =>
      obtain ⟨bb', base', sz', arr, E, hB⟩ := hh.blk old b hb
      have hi' := hB.ι
      rw [hι] at hi'
      obtain ⟨rfl, rfl, rfl⟩ : bb = bb' ∧ base = base' ∧ sz = sz' := by simpa using hi'
      have at_ : ∀ (i : Nat) (e' : AV), l'[i]? = some e' → ∃ e, b[off + i]? = some e ∧ Rn n0 h sel e e' ∧ i < len := fun i e' hi => by
        have hlt := (List.getElem?_eq_some_iff.1 hi).1
        have hx : b[off + i]? = some (b[off + i]'(by omega)) := List.getElem?_eq_getElem (by omega)
        exact ⟨_, hx, he i _ _ hx hi, by omega⟩
      have cell : ∀ (i : Nat) (e' : AV) (j : Nat) (x' : AV), l'[i]? = some e' → e'.cells[j]? = some x' → ∃ e x y, b[off + i]? = some e ∧ e.cells[j]? = some x ∧ c.w.cell? (a.add (i * sz + j)) = some y ∧ VR c x y := fun i e' j x' hi hj => by
        obtain ⟨e, q1, q2, q3⟩ := at_ i e' hi
        have hjl : j < e.cells.length := by rw [← q2.cells.1]; exact (List.getElem?_eq_some_iff.1 hj).1
        obtain ⟨y, g1, g2⟩ := hB.cell _ _ _ _ q1 (List.getElem?_eq_getElem hjl)
        refine ⟨e, _, y, q1, List.getElem?_eq_getElem hjl, ?_, g2⟩
        have hc0 : cap ≠ 0 := by omega
        rw [ha hc0, add_off _ _ rfl]
        simp only [World.cell?, hB.heap]
        simp only [Option.isSome_none, Bool.false_eq_true, if_false]
        rw [← g1]
        congr 1
        rw [Nat.add_mul]; omega
      have hlen' : l'.length ≤ cap := by omega
      rw [← hl]
      refine VR.ro (c := c') sz ex' l' a cap (fun i j => ((c.w.cell? (a.add (i * sz + j))).getD undef)) hlen' hmax (fun q => by obtain ⟨q1, q2⟩ := hx q; rw [hex q1, q2, hl]) (fun hne => ?_) (fun i e' hi => ?_) (fun i e' j x' hi hj => ?_) (fun i e' j x' hi hj => ?_) (fun i e' j x' hi hj => ?_)
      · have hc0 : cap ≠ 0 := by
          have : 0 < l'.length := List.length_pos_iff.2 hne
          omega
        rw [ha hc0]
        exact hfr old b _ ho hb hn hι
      · obtain ⟨e, q1, q2, _⟩ := at_ i e' hi
        rw [q2.cells.1]; exact hB.size _ _ q1
      · obtain ⟨e, q1, q2, _⟩ := at_ i e' hi
        obtain ⟨e2, x, y, g1, g2, _⟩ := cell i e' j x' hi hj
        rw [q1] at g1
        obtain rfl := Option.some.inj g1
        exact (q2.cells.2 j x x' g2 hj).one (hB.one _ _ _ _ q1 g2)
      · obtain ⟨e, x, y, g1, g2, g3, g4⟩ := cell i e' j x' hi hj
        rw [hw, g3]; rfl
      · obtain ⟨e, x, y, g1, g2, g3, g4⟩ := cell i e' j x' hi hj
        simp only [g3, Option.getD_some]
        have hE : ∀ {v : Value}, VR c e v → VR c' e' v := fun hv => ih i e e' g1 hi hv
        have q2 := he i e e' g1 hi
        have single : e.cells = [e] → e'.cells = [e'] → VR c' x' y := fun s1 s2 => by
          rw [s1] at g2
          rw [s2] at hj
          cases j with
          | zero =>
            simp only [List.getElem?_cons_zero, Option.some.injEq] at g2 hj
            subst g2; subst hj
            exact hE g4
          | succ j => simp at g2
        have many : ∀ cs, e = .agg cs → VR c' x' y := fun cs hcs => by
          have hall : ∀ (j : Nat) (u : AV), cs[j]? = some u → ∃ x, c.w.cell? (a.add (i * sz + j)) = some x ∧ VR c u x := fun j u hu => by
            have hl1 : j < e'.cells.length := by rw [q2.cells.1, hcs]; exact (List.getElem?_eq_some_iff.1 hu).1
            obtain ⟨e2, x2, y2, k1, k2, k3, k4⟩ := cell i e' j _ hi (List.getElem?_eq_getElem hl1)
            rw [g1] at k1
            obtain rfl := Option.some.inj k1
            rw [hcs] at k2
            have k2' : cs[j]? = some x2 := k2
            rw [hu] at k2'
            obtain rfl := Option.some.inj k2'
            exact ⟨y2, k3, k4⟩
          obtain ⟨vs, v1, v2, v3⟩ := vals_of (c := c) (us := cs) (q := fun j x => c.w.cell? (a.add (i * sz + j)) = some x) hall
          subst hcs
          have hvc : VR c (.agg cs) (.agg vs.toArray) := .agg _ _ (by simpa using v1) (fun x hx => by
            obtain ⟨j, hj, rfl⟩ := List.mem_iff_getElem.1 hx
            exact hB.one _ _ j _ g1 (List.getElem?_eq_getElem hj)) (fun j x y h1 h2 => v3 j x y h1 (by simpa using h2))
          have hfin := hE hvc
          obtain ⟨cs', rfl⟩ : ∃ cs', e' = .agg cs' := by cases q2 <;> exact ⟨_, rfl⟩
          cases hfin with
          | agg _ _ _ _ hv' =>
            have hjl : j < vs.length := by rw [v1]; exact (List.getElem?_eq_some_iff.1 g2).1
            have hvj := List.getElem?_eq_getElem hjl
            have hq := v2 j _ hvj
            rw [g3] at hq
            have hy : vs[j] = y := (Option.some.inj hq).symm
            exact hv' j x' y hj (by rw [List.getElem?_toArray, hvj, hy])
        cases e with
        | agg cs => exact many cs rfl
        | _ =>
          refine single rfl ?_
          cases q2 <;> rfl
  | agg cs cs' hl he ih =>
    intro v hv
    cases hv with
    | agg _ vs hs hone hv =>
      refine .agg _ vs (by omega) (fun x hx => ?_) (fun i x y hx hy => ?_)
      · obtain ⟨i, hi, rfl⟩ := List.mem_iff_getElem.1 hx
        have h1 : cs[i]? = some (cs[i]'(by omega)) := List.getElem?_eq_getElem (by omega)
        exact (he i _ _ h1 (List.getElem?_eq_getElem hi)).one (hone _ (List.getElem_mem _))
      · have hlt := (List.getElem?_eq_some_iff.1 hx).1
        have h1 : cs[i]? = some (cs[i]'(by omega)) := List.getElem?_eq_getElem (by omega)
        exact ih i _ _ h1 hx (hv i _ _ h1 hy)
  | tup cs cs' hl he ih =>
    intro v hv
    cases hv with
    | tup _ vs hs hv =>
      refine .tup _ vs (by omega) (fun i x y hx hy => ?_)
      have hlt := (List.getElem?_eq_some_iff.1 hx).1
      have h1 : cs[i]? = some (cs[i]'(by omega)) := List.getElem?_eq_getElem (by omega)
      exact ih i _ _ h1 hx (hv i _ _ h1 hy)
structure Bs (n0 : Nat) (h0 : Heap) (b : Base) : Prop where
  n : b.n = n0
  h : b.h = h0
  fr : Fresh b.c b.n
theorem lt_of_cells {u : AV} (hu : ∀ x, x ∈ u.cells → x.Lt n) : u.Lt n := by
  cases u with
  | agg cs => exact .agg _ fun i x hx => hu x (List.mem_of_getElem? hx)
  | _ => exact hu _ (by simp [AV.cells])
theorem srcOf_inj (hnd : sel.Nodup) (hge : ∀ o, o ∈ sel → n0 ≤ o) {i j o : Nat} (h1 : srcOf n0 sel i = some o) (h2 : srcOf n0 sel j = some o) : i = j := by
  unfold srcOf at h1 h2
  split at h1 <;> split at h2
  · exact (Option.some.inj h1).trans (Option.some.inj h2).symm
  · obtain rfl := Option.some.inj h1
    have := hge _ (List.mem_of_getElem? h2); omega
  · obtain rfl := Option.some.inj h2
    have := hge _ (List.mem_of_getElem? h1); omega
  · obtain ⟨l1, e1⟩ := List.getElem?_eq_some_iff.1 h1
    obtain ⟨l2, e2⟩ := List.getElem?_eq_some_iff.1 h2
    have := (List.getElem_inj hnd (h₀ := l1) (h₁ := l2)).1 (e1.trans e2.symm)
    omega
theorem SR.norm {b : Base} {N : Nat} {E E2 : Env} {a : Act} {w : World} {h0 : Heap} (hs : SR b N E h n a w) (hbs : Bs n0 h0 b)
    (hE : ∀ t, E2.get t = .undef ∨ Rn n0 h sel (E.get t) (E2.get t))
    (hH0 : ∀ id b2, h2 id = some b2 → (id < n0 ∧ h id = some b2 ∧ h0 id = some b2) ∨ ∃ o b1, srcOf n0 sel id = some o ∧ h o = some b1 ∧ b2.length = b1.length ∧ ∀ (i : Nat) (e e' : AV), b1[i]? = some e → b2[i]? = some e' → Rn n0 h sel e e')
    (hnd : sel.Nodup) (hge : ∀ o, o ∈ sel → n0 ≤ o) (hn2 : n2 = n0 + sel.length) : SR b N E2 h2 n2 a w := by
  obtain ⟨c, rfl, e0, hh, hf, hn, hbb, hd, hN, ht⟩ := hs
  obtain ⟨hb, hb0, hfb⟩ := hbs
  subst hb
  subst hb0
  have hH : ∀ id b2, h2 id = some b2 → ∃ o b1, srcOf b.n sel id = some o ∧ h o = some b1 ∧ b2.length = b1.length ∧ ∀ (i : Nat) (e e' : AV), b1[i]? = some e → b2[i]? = some e' → Rn b.n h sel e e' := fun id b2 hid => by
    rcases hH0 id b2 hid with ⟨q1, q2, q3⟩ | q
    · refine ⟨id, b2, by unfold srcOf; rw [if_pos q1], q2, rfl, fun i e e' k1 k2 => ?_⟩
      rw [k1] at k2
      obtain rfl := Option.some.inj k2
      obtain ⟨bb, base, sz, arr, E', hB⟩ := hbb.blk id b2 q3
      refine .keep _ (lt_of_cells fun x hx => ?_)
      obtain ⟨j, hj, rfl⟩ := List.mem_iff_getElem.1 hx
      obtain ⟨v, _, hv⟩ := hB.cell i e j _ k1 (List.getElem?_eq_getElem hj)
      exact hv.lt hfb
    · exact q
  let Z : Nat → Prop := fun bb => c.Fz bb ∨ ∃ id blk x, b.n ≤ id ∧ id ∉ sel ∧ h id = some blk ∧ c.ι id = some x ∧ x.1 = bb
  let f : Nat → Option (Nat × Nat × Nat) := fun id => (srcOf b.n sel id).bind c.ι
  have fsel : ∀ new old x, srcOf b.n sel new = some old → c.ι old = some x → f new = some x := fun new old x h1 h2 => by simp only [f, h1, Option.bind_some, h2]
  have fi : ∀ id x, f id = some x → ∃ o, srcOf b.n sel id = some o ∧ c.ι o = some x := fun id x hx => by
    simp only [f] at hx
    exact Option.bind_eq_some_iff.1 hx
  have low : ∀ id, id < b.n → srcOf b.n sel id = some id := fun id hid => by unfold srcOf; rw [if_pos hid]
  have rel : ∀ {u u' : AV} {v : Value}, Rn b.n h sel u u' → VR c u v → VR ⟨f, Z, c.w⟩ u' v := fun hr hv =>
    Rn.rel (c := c) (c' := ⟨f, Z, c.w⟩) hr hh rfl (fun _ h => .inl h) fsel (fun id blk x h1 h2 h3 h4 => .inr ⟨id, blk, x, h1, h3, h2, h4, rfl⟩) hv
  refine ⟨⟨f, Z, c.w⟩, rfl, ⟨e0.os, e0.tape, e0.output, e0.size, fun id x hx => ?_, fun id x hx => ?_, fun bb hbz => .inl (e0.fz bb hbz), e0.shape, e0.frame, fun id blk x h1 h2 => ?_, fun bb hbz => ?_⟩, ⟨fun id blk hid => ?_, fun i j bi bj x y h1 h2 h3 h4 h5 => ?_, fun bb hbz => ?_⟩, fun id hid => ?_, by omega, hbb, hd, hN, fun t => ?_⟩
  · have hlt : id < b.n := by
      rcases Nat.lt_or_ge id b.n with h1 | h1
      · exact h1
      · rw [hfb id h1] at hx; cases hx
    exact fsel id id x (low id hlt) (e0.ι id x hx)
  · obtain ⟨o, h1, h2⟩ := fi id x hx
    rcases Nat.lt_or_ge id b.n with h3 | h3
    · rw [low id h3] at h1
      obtain rfl := Option.some.inj h1
      rcases e0.dom id x h2 with h4 | h4
      · exact .inl h4
      · omega
    · refine .inr ⟨h3, ?_⟩
      unfold srcOf at h1
      rw [if_neg (by omega)] at h1
      have := (List.getElem?_eq_some_iff.1 h1).1
      omega
  · obtain ⟨o, b1, k1, k2, _⟩ := hH id blk h1
    obtain ⟨o', k3, k4⟩ := fi id x h2
    rw [k1] at k3
    obtain rfl := Option.some.inj k3
    exact e0.own o b1 x k2 k4
  · rcases hbz with hbz | ⟨id, blk, x, h1, _, h2, h3, rfl⟩
    · exact e0.fzb bb hbz
    · exact .inr (e0.own id blk x h2 h3)
  · obtain ⟨o, b1, k1, k2, k3, k4⟩ := hH id blk hid
    obtain ⟨bb, base, sz, arr, E', hB⟩ := hh.blk o b1 k2
    refine ⟨bb, base, sz, arr, E', fsel id o _ k1 hB.ι, hB.heap, ?_, fun i x hx => ?_, fun i x j u hx hu => ?_, fun i x j u hx hu => ?_⟩
    · rintro (hq | ⟨id2, blk2, x2, q1, q2, q3, q4, q5⟩)
      · exact hB.nfz hq
      · have := hh.inj id2 o blk2 b1 _ _ q3 k2 q4 hB.ι q5
        subst this
        unfold srcOf at k1
        split at k1
        · have := Option.some.inj k1; omega
        · exact q2 (List.mem_of_getElem? k1)
    all_goals
      have hlt := (List.getElem?_eq_some_iff.1 hx).1
      have hx0 : b1[i]? = some (b1[i]'(by omega)) := List.getElem?_eq_getElem (by omega)
      have hre := k4 i _ _ hx0 hx
      have hcl := hre.cells
    · rw [hcl.1]; exact hB.size _ _ hx0
    · have hjl : j < (b1[i]'(by omega)).cells.length := by rw [← hcl.1]; exact (List.getElem?_eq_some_iff.1 hu).1
      exact (hcl.2 j _ _ (List.getElem?_eq_getElem hjl) hu).one (hB.one _ _ _ _ hx0 (List.getElem?_eq_getElem hjl))
    · have hjl : j < (b1[i]'(by omega)).cells.length := by rw [← hcl.1]; exact (List.getElem?_eq_some_iff.1 hu).1
      obtain ⟨v, q1, q2⟩ := hB.cell _ _ _ _ hx0 (List.getElem?_eq_getElem hjl)
      exact ⟨v, q1, rel (hcl.2 j _ _ (List.getElem?_eq_getElem hjl) hu) q2⟩
  · obtain ⟨o1, b1, k1, k2, _⟩ := hH i bi h1
    obtain ⟨o2, b2, r1, r2, _⟩ := hH j bj h2
    obtain ⟨o1', k3, k4⟩ := fi i x h3
    obtain ⟨o2', r3, r4⟩ := fi j y h4
    rw [k1] at k3; obtain rfl := Option.some.inj k3
    rw [r1] at r3; obtain rfl := Option.some.inj r3
    have := hh.inj o1 o2 b1 b2 x y k2 r2 k4 r4 h5
    subst this
    exact srcOf_inj hnd hge k1 r1
  · rcases hbz with hbz | ⟨id, blk, x, h1, _, h2, h3, rfl⟩
    · exact hh.fzlt bb hbz
    · obtain ⟨bb, base, sz, arr, E', hB⟩ := hh.blk id blk h2
      rw [hB.ι] at h3
      obtain rfl := Option.some.inj h3
      exact heap_lt hB.heap
  · show f id = none
    simp only [f, srcOf]
    rw [if_neg (by omega), List.getElem?_eq_none (by omega)]
    rfl
  · rcases hE t with h1 | h1
    · rw [h1]; exact .undef _
    · exact rel h1 (ht t)
def Norm (n0 : Nat) (h0 : Heap) (E : Env) (h : Heap) (n : Nat) (E2 : Env) (h2 : Heap) (n2 : Nat) : Prop := ∀ b N a w, Bs n0 h0 b → SR b N E h n a w → SR b N E2 h2 n2 a w
theorem Norm.refl {E : Env} {h0 : Heap} : Norm n0 h0 E h n E h n := fun _ _ _ _ _ hs => hs
theorem Norm.trans {E E2 E3 : Env} {h0 h3 : Heap} {n3 : Nat} (x : Norm n0 h0 E h n E2 h2 n2) (y : Norm n0 h0 E2 h2 n2 E3 h3 n3) : Norm n0 h0 E h n E3 h3 n3 := fun b N a w h1 hs => y b N a w h1 (x b N a w h1 hs)
def WQ (P : Program) (N n0 : Nat) (h0 : Heap) (code : Code) (Q : Exit → Env → Heap → Nat → Prop) (E : Env) (h : Heap) (n : Nat) : Prop :=
  ∀ b a w, Bs n0 h0 b → SR b N E h n a w → code.wp P (fun e a' w' => ∃ E' h' n', SR b N E' h' n' a' w' ∧ Q e E' h' n') a w
variable {P : Program} {T : TE} {N : Nat} {E : Env} {h0 : Heap} {Q : Exit → Env → Heap → Nat → Prop}
theorem WP.toQ {code : Code} (hw : WP P N code Q E h n) : WQ P N n0 h0 code Q E h n := fun b a w _ hs => hw b a w hs
theorem WQ.norm {code : Code} {E2 : Env} (hm : Norm n0 h0 E h n E2 h2 n2) (hw : WQ P N n0 h0 code Q E2 h2 n2) : WQ P N n0 h0 code Q E h n := fun b a w h1 hs => hw b a w h1 (hm b N a w h1 hs)
theorem WQ.skip (hq : Q .normal E h n) : WQ P N n0 h0 .skip Q E h n := (WP.skip hq).toQ
theorem WQ.ret (hq : Q .ret E h n) : WQ P N n0 h0 .ret Q E h n := (WP.ret hq).toQ
theorem WQ.exit {id : Nat} (hq : Q (.exit id) E h n) : WQ P N n0 h0 (.exit id) Q E h n := (WP.exit hq).toQ
theorem WQ.region (hT : TEOk P T) {id : Nat} {l : List Oper} (hd : l.all (dstIn N) = true) (hc : opsA P T l l E h n (Q .normal)) : WQ P N n0 h0 (.region id l.toArray false) Q E h n := (WP.region hT hd hc).toQ
theorem WQ.seq {x y : Code} (hx : WQ P N n0 h0 x (thenA (fun E h n => ∃ E2 h2 n2, Norm n0 h0 E h n E2 h2 n2 ∧ WQ P N n0 h0 y Q E2 h2 n2) Q) E h n) : WQ P N n0 h0 (.seq x y) Q E h n := fun b a w hb hs =>
  wp_seq (wp_mono (hx b a w hb hs) fun e a' w' ⟨E', h', n', q1, q2⟩ => by
    cases e with
    | normal =>
      obtain ⟨E2, h2, n2, m1, m2⟩ := q2
      exact m2 b a' w' hb (m1 b N a' w' hb q1)
    | _ => exact ⟨E', h', n', q1, q2⟩)
theorem WQ.seq_k {x y : Code} (hx : ∀ K : Env → Heap → Nat → Prop, (∀ E h n E2 h2 n2, Norm n0 h0 E h n E2 h2 n2 → WQ P N n0 h0 y Q E2 h2 n2 → K E h n) → WQ P N n0 h0 x (thenA K Q) E h n) : WQ P N n0 h0 (.seq x y) Q E h n :=
  WQ.seq (hx _ fun _ _ _ E2 h2 n2 m1 m2 => ⟨E2, h2, n2, m1, m2⟩)
theorem WQ.cond {c : Operand} {x y : Code} {t : Bool} (hc : ev E c = .bool t) (ht : t = true → WQ P N n0 h0 x Q E h n) (hf : t = false → WQ P N n0 h0 y Q E h n) : WQ P N n0 h0 (.cond c x y) Q E h n := fun b a w hb hs => by
  have hs0 := hs
  obtain ⟨cf, rfl, e0, hh, hfr, hn, hbb, hdf, hN, hv⟩ := hs
  have hv := SR.eval hv c
  rw [hc] at hv
  obtain ⟨v, hv'⟩ : ∃ v, a.eval c = v := ⟨_, rfl⟩
  rw [hv'] at hv
  cases hv
  exact wp_cond_split hv' (fun q => ht q b a _ hb hs0) (fun q => hf q b a _ hb hs0)
theorem WQ.block {id : Nat} {c : Code} (hc : WQ P N n0 h0 c (blockA id Q) E h n) : WQ P N n0 h0 (.block id c) Q E h n := fun b a w hb hs =>
  wp_block (wp_mono (hc b a w hb hs) fun e a' w' ⟨E', h', n', q1, q2⟩ => by
    cases e with
    | exit id' =>
      simp only [blockA] at q2
      simp only [Exit.inBlock]
      split
      · rename_i hid; rw [if_pos hid] at q2; exact ⟨E', h', n', q1, q2⟩
      · rename_i hid; rw [if_neg hid] at q2; exact ⟨E', h', n', q1, q2⟩
    | _ => exact ⟨E', h', n', q1, q2⟩)
def iterN {σ ρ : Type} (step : σ → Option (σ ⊕ ρ)) : Nat → σ → Option ρ
  | 0, _ => none
  | k + 1, s => match step s with
    | none => none
    | some (.inl s') => iterN step k s'
    | some (.inr r) => some r
theorem WQ.iter {σ ρ : Type} {c : Code} {step : σ → Option (σ ⊕ ρ)} (I : σ → Env → Heap → Nat → Prop) {r : ρ} {k : Nat} {s0 : σ} (hr : iterN step k s0 = some r) (hi0 : I s0 E h n)
    (round : ∀ s E h n o, I s E h n → step s = some o → (∀ r', o = .inr r' → r' = r) → WQ P N n0 h0 c (thenA (fun E' h' n' => ∃ s' E2 h2 n2, o = .inl s' ∧ Norm n0 h0 E' h' n' E2 h2 n2 ∧ I s' E2 h2 n2) Q) E h n) : WQ P N n0 h0 (.loop c) Q E h n := fun b a w hb hs => by
  intro fb kk cs
  have key : ∀ k s E h n a w, SR b N E h n a w → I s E h n → iterN step k s = some r →
      ∃ e a' w', (∃ E' h' n', SR b N E' h' n' a' w' ∧ Q e E' h' n') ∧ Arrives P (lone (fb.at a (.code c :: .inLoop c :: kk)) cs w) fb kk cs e a' w' := by
    intro k
    induction k with
    | zero => intro s E h n a w _ _ hk; simp [iterN] at hk
    | succ k ih =>
      intro s E h n a w hs hI hk
      unfold iterN at hk
      have hstep : ∃ o, step s = some o ∧ (∀ r', o = .inr r' → r' = r) ∧ (∀ s', o = .inl s' → iterN step k s' = some r) := by
        split at hk
        · cases hk
        · rename_i s' hq; exact ⟨_, hq, fun r' h => (by cases h), fun s'' h => (by cases h; exact hk)⟩
        · rename_i r' hq; exact ⟨_, hq, fun r'' h => (by cases h; exact Option.some.inj hk), fun s'' h => (by cases h)⟩
      obtain ⟨o, ho1, ho2, ho3⟩ := hstep
      obtain ⟨e, a₁, w₁, ⟨E1, h1, n1, hq1, hq⟩, harr⟩ := round s E h n o hI ho1 ho2 b a w hb hs fb (.inLoop c :: kk) cs
      cases e with
      | normal =>
        obtain ⟨s', E2, h2, n2, hos, hm, hI₁⟩ := hq
        obtain ⟨e₂, a₂, w₂, hq₂, harr₂⟩ := ih s' E2 h2 n2 a₁ w₁ (hm b N a₁ w₁ hb hq1) hI₁ (ho3 s' hos)
        exact ⟨e₂, a₂, w₂, hq₂, .of_steps (Steps.trans harr (.one step_inLoop)) harr₂⟩
      | exit id => exact ⟨_, a₁, w₁, ⟨E1, h1, n1, hq1, hq⟩, .pass (x := .inLoop c) rfl (fun _ _ => .inl (by simp)) harr⟩
      | goto l => exact ⟨_, a₁, w₁, ⟨E1, h1, n1, hq1, hq⟩, .pass (x := .inLoop c) rfl (fun _ _ => .inl (by simp)) harr⟩
      | ret => exact ⟨_, a₁, w₁, ⟨E1, h1, n1, hq1, hq⟩, .pass (x := .inLoop c) rfl (fun _ _ => .inl (by simp)) harr⟩
      | panic ch => exact ⟨_, a₁, w₁, ⟨E1, h1, n1, hq1, hq⟩, .pass (x := .inLoop c) rfl (fun _ _ => .inl (by simp)) harr⟩
      | outgrown => exact ⟨_, a₁, w₁, ⟨E1, h1, n1, hq1, hq⟩, .pass (x := .inLoop c) rfl (fun _ _ => .inl (by simp)) harr⟩
  obtain ⟨e, a', w', hq, harr⟩ := key k s0 E h n a w hs hi0 hr
  exact ⟨e, a', w', hq, .of_steps (.one step_loop) harr⟩
end
end Go.Proofs.Ytcngfjmfgeckmaa
namespace Go.Proofs.Ytcngfjmfgeckmaa
open Go
def hp (h : Heap) (n : Nat) (rows : List (Option (List AV))) : Heap := fun id => if id < n then h id else (rows[id - n]?).getD none
def setR : List (Option (List AV)) → Nat → List AV → List (Option (List AV))
  | [], 0, b => [some b]
  | [], k + 1, b => none :: setR [] k b
  | _ :: rs, 0, b => some b :: rs
  | r :: rs, k + 1, b => r :: setR rs k b
theorem setR_nil0 (b : List AV) : setR [] 0 b = [some b] := rfl
theorem setR_zero (r : Option (List AV)) (rs : List (Option (List AV))) (b : List AV) : setR (r :: rs) 0 b = some b :: rs := rfl
theorem setR_succ (r : Option (List AV)) (rs : List (Option (List AV))) (k : Nat) (b : List AV) : setR (r :: rs) (k + 1) b = r :: setR rs k b := rfl
theorem setR_get : ∀ (rs : List (Option (List AV))) (k : Nat) (b : List AV) (j : Nat), ((setR rs k b)[j]?).getD none = if j = k then some b else (rs[j]?).getD none
  | [], 0, b, 0 => rfl
  | [], 0, b, j + 1 => by simp [setR]
  | [], k + 1, b, 0 => by simp [setR]
  | [], k + 1, b, j + 1 => by simpa [setR] using setR_get [] k b j
  | r :: rs, 0, b, 0 => rfl
  | r :: rs, 0, b, j + 1 => by simp [setR]
  | r :: rs, k + 1, b, 0 => by simp [setR]
  | r :: rs, k + 1, b, j + 1 => by simpa [setR] using setR_get rs k b j
section
variable {h : Heap} {n : Nat} {rows : List (Option (List AV))} {b : List AV}
theorem hp_upd (k : Nat) : (hp h n rows).upd (n + k) b = hp h n (setR rows k b) := by
  funext x
  unfold Heap.upd hp
  by_cases hx : x < n
  · rw [if_neg (by omega), if_pos hx, if_pos hx]
  · rw [if_neg hx, if_neg hx, setR_get]
    by_cases hk : x = n + k
    · rw [if_pos hk, if_pos (by omega)]
    · rw [if_neg hk, if_neg (by omega)]
theorem hp_upd0 : (hp h n rows).upd n b = hp h n (setR rows 0 b) := hp_upd 0
def delR : List (Option (List AV)) → Nat → List (Option (List AV))
  | [], _ => []
  | _ :: rs, 0 => none :: rs
  | r :: rs, k + 1 => r :: delR rs k
theorem delR_zero (r : Option (List AV)) (rs : List (Option (List AV))) : delR (r :: rs) 0 = none :: rs := rfl
theorem delR_succ (r : Option (List AV)) (rs : List (Option (List AV))) (k : Nat) : delR (r :: rs) (k + 1) = r :: delR rs k := rfl
theorem delR_get : ∀ (rs : List (Option (List AV))) (k j : Nat), ((delR rs k)[j]?).getD none = if j = k then none else (rs[j]?).getD none
  | [], k, j => by simp [delR]
  | r :: rs, 0, 0 => rfl
  | r :: rs, 0, j + 1 => by simp [delR]
  | r :: rs, k + 1, 0 => by simp [delR]
  | r :: rs, k + 1, j + 1 => by simpa [delR] using delR_get rs k j
theorem hp_del (k : Nat) : (hp h n rows).del (n + k) = hp h n (delR rows k) := by
  funext x
  unfold Heap.del hp
  by_cases hx : x < n
  · rw [if_neg (by omega), if_pos hx, if_pos hx]
  · rw [if_neg hx, if_neg hx, delR_get]
    by_cases hk : x = n + k
    · rw [if_pos hk, if_pos (by omega)]
    · rw [if_neg hk, if_neg (by omega)]
theorem hp_del0 : (hp h n rows).del n = hp h n (delR rows 0) := hp_del 0
theorem hp_get (k : Nat) : hp h n rows (n + k) = (rows[k]?).getD none := by
  unfold hp
  rw [if_neg (by omega)]
  congr 2
  omega
theorem hp_get0 : hp h n rows n = (rows[0]?).getD none := hp_get 0
theorem hp_low {id : Nat} (hid : id < n) : hp h n rows id = h id := by unfold hp; rw [if_pos hid]
theorem hp_nil (hlt : ∀ id b, h id = some b → id < n) : hp h n [] = h := by
  funext x
  unfold hp
  by_cases hx : x < n
  · rw [if_pos hx]
  · rw [if_neg hx]
    cases hb : h x with
    | none => rfl
    | some b => exact absurd (hlt x b hb) hx
theorem hp_hp {m : Nat} {rs : List (Option (List AV))} (hm : rows.length = m) : hp (hp h n rows) (n + m) rs = hp h n (rows ++ rs) := by
  subst hm
  funext x
  unfold hp
  by_cases h1 : x < n
  · rw [if_pos (by omega), if_pos h1, if_pos h1]
  · by_cases h2 : x < n + rows.length
    · rw [if_pos h2, if_neg h1, if_neg h1, List.getElem?_append_left (by omega)]
    · rw [if_neg h2, if_neg h1, List.getElem?_append_right (by omega)]
      congr 2
      omega
theorem hp_hp0 {rs : List (Option (List AV))} : hp (hp h n []) n rs = hp h n rs := hp_hp (m := 0) rfl
theorem CA.enterQ {P : Program} {T : TE} {N : Nat} (hT : TEOk P T) {f : FuncId} {fn : Func} {code : Code} {args : List AV} {K : AV → Heap → Nat → Prop} (hg : Goes P f) (hf : P.funcs[f]? = some fn) (hb : fn.body = some code) (hN : fn.ntmps = N) (hl : args.length ≤ N) {rs : List ResultVar} (hrs : fn.results.toList = rs)
    (hw : (∀ id b, h id = some b → id < n) → WQ P N n h code (retA T rs fun r h' n' => ∃ r2 h2 n2, Conv n h r h' n' r2 h2 n2 ∧ K r2 h2 n2) (envOf args) (hp h n []) n) : CA P f args h n K := by
  refine CA.conv ?_
  refine ⟨hg, fun c vals hh hfr hs hv => calls_of_wp hf hb ?_⟩
  have hlt : ∀ id b, h id = some b → id < n := fun id b hid => by
    obtain ⟨b', base, sz, arr, E, hB⟩ := hh.blk id b hid
    rcases Nat.lt_or_ge id n with h1 | h1
    · exact h1
    · have := hB.ι; rw [hfr id h1] at this; cases this
  have hw' := hw hlt
  rw [hp_nil hlt] at hw'
  have hsr : SR ⟨c, h, n⟩ N (envOf args) h n { tmps := vals ++ Array.replicate (fn.ntmps - vals.size) undef, defers := [] } c.w := by
    refine ⟨c, rfl, Ext.refl _ _ _, hh, hfr, Nat.le_refl _, hh, rfl, by simp; omega, fun t => ?_⟩
    show VR c ((args[t]?).getD .undef) _
    by_cases ht : t < args.length
    · have h1 : args[t]? = some args[t] := List.getElem?_eq_getElem ht
      have h2 : vals[t]? = some (vals[t]'(by omega)) := Array.getElem?_eq_getElem (by omega)
      rw [Array.getD_eq_getD_getElem?, Array.getElem?_append_left (by omega), h2, h1]
      exact hv t _ _ h1 h2
    · rw [List.getElem?_eq_none (by omega)]
      exact .undef _
  refine wp_mono (hw' ⟨c, h, n⟩ _ _ ⟨rfl, rfl, hfr⟩ hsr) fun e a w ⟨E', h', n', q1, q2⟩ => ?_
  obtain ⟨c', rfl, e0, hh', hf', hn', _, hd, hN', ht'⟩ := q1
  have fin : ∀ l, resA T E' h' rs = some l → (∃ r2 h2 n2, Conv n h (resV l) h' n' r2 h2 n2 ∧ K r2 h2 n2) → a.defers = [] ∧ ∃ v, (results fn a.tmps).run P c'.w = .ok v c'.w ∧ ∃ v_1 r h'_1 n'_1, Ending.returned v = .returned v_1 ∧ PostR c h n v_1 c'.w r h'_1 n'_1 ∧ ∃ r2 h2 n2, Conv n h r h'_1 n'_1 r2 h2 n2 ∧ K r2 h2 n2 := fun l h1 h2 => by
    subst hrs
    obtain ⟨v, g1, g2⟩ := results_ok (P := P) hT hh' ht' h1
    exact ⟨hd, v, g1, v, _, _, _, rfl, ⟨c', rfl, e0, hh', hf', g2, hn'⟩, h2⟩
  cases e with
  | normal => obtain ⟨l, h1, h2⟩ := q2; exact fin l h1 h2
  | ret => obtain ⟨l, h1, h2⟩ := q2; exact fin l h1 h2
  | _ => exact q2.elim
def EnvOk (n0 : Nat) (h : Heap) (sel : List Nat) (E E2 : Env) : Prop := ∀ t, E2.get t = .undef ∨ Rn n0 h sel (E.get t) (E2.get t)
theorem EnvOk.nil {n0 : Nat} {sel : List Nat} {E : Env} : EnvOk n0 h sel E (envOf []) := fun _ => .inl rfl
theorem EnvOk.put {n0 : Nat} {sel : List Nat} {E E2 : Env} (hE : EnvOk n0 h sel E E2) {d : Nat} {v : AV} (hv : Rn n0 h sel (E.get d) v) : EnvOk n0 h sel E (E2.put (some d) v) := fun t => by
  rw [Env.get_put_some]
  split
  · rename_i hd; subst hd; exact .inr hv
  · exact hE t
theorem EnvOk.put3 {n0 : Nat} {sel : List Nat} {E E2 : Env} (hE : EnvOk n0 h sel E E2) {d : Nat} {v : AV} (u : AV) (hu : E.get d = u) (hv : Rn n0 h sel u v) : EnvOk n0 h sel E (E2.put (some d) v) := hE.put (by rw [hu]; exact hv)
def RnL (n0 : Nat) (h : Heap) (sel : List Nat) (b b' : List AV) : Prop := b'.length = b.length ∧ ∀ (i : Nat) (e e' : AV), b[i]? = some e → b'[i]? = some e' → Rn n0 h sel e e'
theorem RnL.nil {n0 : Nat} {sel : List Nat} : RnL n0 h sel [] [] := ⟨rfl, fun i e e' h => by simp at h⟩
theorem RnL.cons {n0 : Nat} {sel : List Nat} {e e' : AV} {b b' : List AV} (he : Rn n0 h sel e e') (hl : RnL n0 h sel b b') : RnL n0 h sel (e :: b) (e' :: b') := by
  refine ⟨by simp [hl.1], fun i x x' h1 h2 => ?_⟩
  cases i with
  | zero => simp at h1 h2; subst h1; subst h2; exact he
  | succ i => exact hl.2 i x x' (by simpa using h1) (by simpa using h2)
theorem RnL.keep {n0 : Nat} {sel : List Nat} {b : List AV} (hb : ∀ e, e ∈ b → e.Lt n0) : RnL n0 h sel b b := ⟨rfl, fun i e e' h1 h2 => by
  rw [h1] at h2
  obtain rfl := Option.some.inj h2
  exact .keep _ (hb _ (List.mem_of_getElem? h1))⟩
theorem RnL.all2 {n0 : Nat} {sel : List Nat} {α : Type} {R : AV → α → Prop} {b : List AV} {l : List α} (ha : All2 R b l) (hlt : ∀ e a n, R e a → e.Lt n) : RnL n0 h sel b b := RnL.keep fun e he => by
  obtain ⟨i, hi, rfl⟩ := List.mem_iff_getElem.1 he
  obtain ⟨y, _, h2⟩ := all2_get ha i _ (List.getElem?_eq_getElem hi)
  exact hlt _ _ _ h2
theorem Rn.agg' {n0 : Nat} {sel : List Nat} {b b' : List AV} (hl : RnL n0 h sel b b') : Rn n0 h sel (.agg b) (.agg b') := .agg _ _ hl.1 hl.2
def envZ : List Nat → List AV → Env
  | d :: ds, v :: vs => (envZ ds vs).put (some d) v
  | _, _ => envOf []
theorem EnvOk.list {n0 : Nat} {sel : List Nat} {E : Env} : ∀ (ds : List Nat) (us vs : List AV), ds.map (fun d => E.get d) = us → RnL n0 h sel us vs → EnvOk n0 h sel E (envZ ds vs)
  | [], _, _, _, _ => fun _ => .inl rfl
  | d :: ds, [], _, hg, _ => by cases hg
  | d :: ds, u :: us, [], _, hr => by have := hr.1; simp at this
  | d :: ds, u :: us, v :: vs, hg, hr => by
    simp only [List.map_cons, List.cons.injEq] at hg
    refine EnvOk.put3 (EnvOk.list ds us vs hg.2 ⟨by have := hr.1; simpa using this, fun i e e' h1 h2 => hr.2 (i + 1) e e' (by simpa using h1) (by simpa using h2)⟩) u hg.1 (hr.2 0 u v rfl rfl)
def jsel (n0 : Nat) (js : List Nat) : List Nat := js.map (n0 + ·)
theorem src_jsel {n0 : Nat} {js : List Nat} {k j : Nat} (hk : js[k]? = some j) : srcOf n0 (jsel n0 js) (n0 + k) = some (n0 + j) := by
  unfold srcOf jsel
  rw [if_neg (by omega), List.getElem?_map]
  rw [show n0 + k - n0 = k by omega, hk]
  rfl
theorem Rn.own {n0 : Nat} {js : List Nat} (j k : Nat) {sz off len lo : Nat} {ex : Bool} (hk : js[k]? = some j := by rfl) : Rn n0 h (jsel n0 js) (.sl sz (n0 + j) off len lo ex) (.sl sz (n0 + k) off len lo ex) := .sl _ _ _ _ _ _ _ _ (src_jsel hk) id
theorem Rn.ownF {n0 : Nat} {js : List Nat} (j k : Nat) {sz off len lo : Nat} {ex : Bool} (hk : js[k]? = some j := by rfl) : Rn n0 h (jsel n0 js) (.sl sz (n0 + j) off len lo ex) (.sl sz (n0 + k) off len lo false) := .sl _ _ _ _ _ _ _ _ (src_jsel hk) (fun h => by cases h)
theorem Rn.ownE {n0 : Nat} {js : List Nat} (j k : Nat) {sz off len len' : Nat} {ex : Bool} (he : len' = len) (hk : js[k]? = some j := by rfl) : Rn n0 h (jsel n0 js) (.sl sz (n0 + j) off len len ex) (.sl sz (n0 + k) off len' len' false) := by
  subst he; exact Rn.ownF j k hk
theorem Rn.ptr {n0 : Nat} {js : List Nat} (j k : Nat) {sz sz2 o len lo i off : Nat} {ex : Bool} (hk : js[k]? = some j := by rfl) : Rn n0 h (jsel n0 js) (.ep sz (.sl sz2 (n0 + j) o len lo ex) i off) (.ep sz (.sl sz2 (n0 + k) o len lo ex) i off) := .ep _ _ _ _ _ _ _ _ _ _ _ (src_jsel hk)
theorem Rn.frzA {n0 : Nat} {h0 : Heap} {rows : List (Option (List AV))} {js : List Nat} (j : Nat) {sz len : Nat} {ex : Bool} {b b' : List AV} (hb : rows[j]? = some (some b)) (hj : j ∉ js) (hl : RnL n0 (hp h0 n0 rows) (jsel n0 js) b b') (hlen : len = b.length) :
    Rn n0 (hp h0 n0 rows) (jsel n0 js) (.sl sz (n0 + j) 0 len len ex) (.ro sz false b') := by
  refine .frz sz (n0 + j) 0 len len ex false b b' (by omega) (by rw [hp_get, hb]; rfl) (fun hm => ?_) (by omega) (by rw [hl.1, hlen]) (fun h => by cases h) (fun i e e' h1 h2 => hl.2 i e e' (by simpa using h1) h2)
  unfold jsel at hm
  obtain ⟨k, hk, hkj⟩ := List.mem_map.1 hm
  have : k = j := by omega
  subst this
  exact hj hk
inductive RowsR (n0 : Nat) (h : Heap) (js : List Nat) : List (Option (List AV)) → List Nat → Prop
  | nil : RowsR n0 h js [] []
  | row (j : Nat) (b b' : List AV) (rs : List (Option (List AV))) (js' : List Nat) (hb : h (n0 + j) = some b) (hl : RnL n0 h (jsel n0 js) b b') (hr : RowsR n0 h js rs js') : RowsR n0 h js (some b' :: rs) (j :: js')
  | opt (j : Nat) (rw : Option (List AV)) (rs : List (Option (List AV))) (js' : List Nat) (hb : rw = none ∨ h (n0 + j) = rw) (hl : ∀ b, rw = some b → RnL n0 h (jsel n0 js) b b) (hr : RowsR n0 h js rs js') : RowsR n0 h js (rw :: rs) (j :: js')
theorem RowsR.get {n0 : Nat} {js : List Nat} {rs : List (Option (List AV))} {js' : List Nat} (hr : RowsR n0 h js rs js') : rs.length = js'.length ∧ ∀ (k : Nat) (b' : List AV), rs[k]? = some (some b') → ∃ j b, js'[k]? = some j ∧ h (n0 + j) = some b ∧ RnL n0 h (jsel n0 js) b b' := by
  induction hr with
  | nil => exact ⟨rfl, fun k b' hk => by simp at hk⟩
  | row j b b' rs js' hb hl _ ih =>
    refine ⟨by simp [ih.1], fun k x hk => ?_⟩
    cases k with
    | zero => simp at hk; subst hk; exact ⟨j, b, rfl, hb, hl⟩
    | succ k => exact ih.2 k x (by simpa using hk)
  | opt j rw rs js' hb hl _ ih =>
    refine ⟨by simp [ih.1], fun k x hk => ?_⟩
    cases k with
    | zero =>
      have hrw : rw = some x := by simpa using hk
      rcases hb with hb | hb
      · rw [hb] at hrw; cases hrw
      · exact ⟨j, x, rfl, by rw [hb, hrw], hl x hrw⟩
    | succ k => exact ih.2 k x (by simpa using hk)
theorem Norm.mk {n0 : Nat} {h0 : Heap} {E E2 : Env} {rows : List (Option (List AV))} {js : List Nat} {m : Nat} (hnd : js.Nodup) (hlow : ∀ id, id < n0 → h id = h0 id) (hE : EnvOk n0 h (jsel n0 js) E E2) (hR : RowsR n0 h js rows js) (hm : m = js.length) :
    Norm n0 h0 E h n E2 (hp h0 n0 rows) (n0 + m) := fun b N a w hb hs => by
  subst hm
  refine hs.norm (sel := jsel n0 js) hb hE (fun id b2 hid => ?_) ?_ ?_ (by simp [jsel])
  · by_cases hlt : id < n0
    · rw [hp_low hlt] at hid
      exact .inl ⟨hlt, by rw [hlow id hlt]; exact hid, hid⟩
    · refine .inr ?_
      obtain ⟨k, rfl⟩ : ∃ k, id = n0 + k := ⟨id - n0, by omega⟩
      rw [hp_get] at hid
      cases hk : rows[k]? with
      | none => rw [hk] at hid; cases hid
      | some r =>
        rw [hk] at hid
        have hid' : r = some b2 := hid
        subst hid'
        obtain ⟨j, b1, q1, q2, q3⟩ := hR.get.2 k b2 hk
        exact ⟨n0 + j, b1, src_jsel q1, q2, q3.1, q3.2⟩
  · unfold jsel
    exact List.pairwise_map.2 (List.Pairwise.imp (fun hab he => hab (by omega)) hnd)
  · intro o ho
    unfold jsel at ho
    obtain ⟨k, _, rfl⟩ := List.mem_map.1 ho
    omega
theorem hp_lows {n0 : Nat} {h0 : Heap} (id : Nat) (hid : id < n0) : hp h0 n0 rows id = h0 id := hp_low hid
theorem ret_hp {K : AV → Heap → Nat → Prop} {n' : Nat} {r : AV} (hlt : ∀ id b, h id = some b → id < n) (hr : r.Lt n) (hk : K r h n) : ∃ r2 h2 n2, Conv n h r (hp h n rows) n' r2 h2 n2 ∧ K r2 h2 n2 :=
  ret_p ⟨fun id b hb => ⟨hlt id b hb, by rw [hp_low (hlt id b hb)]; exact hb⟩, fun id b hb => .inl hb⟩ hr hk
theorem ltL_nil {n : Nat} : ∀ u, u ∈ ([] : List AV) → u.Lt n := fun u h => by simp at h
theorem ltL_cons {n : Nat} {a : AV} {l : List AV} (ha : a.Lt n) (hl : ∀ u, u ∈ l → u.Lt n) : ∀ u, u ∈ a :: l → u.Lt n := fun u h => by
  rcases List.mem_cons.1 h with rfl | h
  · exact ha
  · exact hl u h
theorem lt_fn {n : Nat} {f : FuncId} {l : List AV} (hl : ∀ u, u ∈ l → u.Lt n) : (AV.fn f l).Lt n := .fn f l fun i u hu => hl u (List.mem_of_getElem? hu)
theorem lt_tupL {n : Nat} {l : List AV} (hl : ∀ u, u ∈ l → u.Lt n) : (AV.tup l).Lt n := .tup l fun i u hu => hl u (List.mem_of_getElem? hu)
theorem lt_aggL {n : Nat} {l : List AV} (hl : ∀ u, u ∈ l → u.Lt n) : (AV.agg l).Lt n := .agg l fun i u hu => hl u (List.mem_of_getElem? hu)
def atL {α : Type} (l : List α) (i : Int) : Option α := if 0 ≤ i then l[i.toNat]? else none
theorem at_ok {α : Type} {R : AV → α → Prop} {es : List AV} {l : List α} {i : Int} {a : α} (ha : atL l i = some a) (hal : All2 R es l) : 0 ≤ i ∧ i < (l.length : Int) ∧ ∃ e, es[i.toNat]? = some e ∧ R e a := by
  unfold atL at ha
  split at ha
  · rename_i h0
    have hi : i.toNat < l.length := (List.getElem?_eq_some_iff.1 ha).1
    have hlen := all2_length hal
    obtain ⟨x, y, h1, h2, h3⟩ := all2_at hal hi
    rw [ha] at h2
    obtain rfl := Option.some.inj h2
    exact ⟨h0, by omega, x, h1, h3⟩
  · cases ha
def roomL (bytes len : Nat) : Bool := decide (len * bytes ≤ 140737488355328) && decide (len ≤ 140737488355328)
def snocL {α : Type} (bytes : Nat) (l : List α) (a : α) : Option (List α) := if roomL bytes (l.length + 1) = true then some (l ++ [a]) else none
theorem snoc_ok {α : Type} {R : AV → α → Prop} {bytes : Nat} {es : List AV} {e : AV} {l r : List α} {a : α} (hs : snocL bytes l a = some r) (hal : All2 R es l) (he : R e a) : (es.length + 1) * bytes ≤ 140737488355328 ∧ es.length + 1 ≤ 140737488355328 ∧ All2 R (es ++ [e]) r := by
  unfold snocL at hs
  split at hs
  · rename_i hr
    obtain rfl := Option.some.inj hs
    rw [← all2_length hal] at hr
    unfold roomL at hr
    simp only [Bool.and_eq_true, decide_eq_true_eq] at hr
    exact ⟨hr.1, hr.2, all2_snoc hal he⟩
  · cases hs
theorem slr_open {α : Type} {sz : Nat} {R : AV → α → Prop} {x : AV} {l : List α} (hx : SlR sz R x l) : ∃ es, rdSl Heap.emp sz x = some es ∧ All2 R es l ∧ es.length = l.length ∧ es.length ≤ 9223372036854775807 ∧ x.cells = [x] ∧ x.good = true := by
  obtain ⟨es, h1, h2, h3, h4, h5⟩ := hx
  exact ⟨es, h1, h2, all2_length h2, h3, one_cells h5, by cases x <;> first | rfl | (simp [AV.one] at h5)⟩
theorem slr_lt {α : Type} {sz : Nat} {R : AV → α → Prop} {x : AV} {l : List α} (hx : SlR sz R x l) (n : Nat) : x.Lt n := by
  obtain ⟨es, h1, h2, h3, h4, h5⟩ := hx
  exact h4 n
theorem slr_ltA {α : Type} {sz : Nat} {R : AV → α → Prop} (x : AV) (l : List α) (n : Nat) (hx : SlR sz R x l) : x.Lt n := slr_lt hx n
theorem slr_nil {α : Type} {sz : Nat} {R : AV → α → Prop} : SlR sz R .nils [] := ⟨[], rfl, .nil, Nat.zero_le _, fun _ => .nils, rfl⟩
end
def I64 (a : Int) : Prop := -9223372036854775808 ≤ a ∧ a ≤ 9223372036854775807
def U8 (a : Int) : Prop := 0 ≤ a ∧ a ≤ 255
instance (a : Int) : Decidable (I64 a) := by unfold I64; infer_instance
instance (a : Int) : Decidable (U8 a) := by unfold U8; infer_instance
def Int64R (e : AV) (a : Int) : Prop := e = .int .i64 a ∧ I64 a
def BoolR (e : AV) (a : Bool) : Prop := e = .bool a
theorem int64_lt (e : AV) (a : Int) (n : Nat) (h : Int64R e a) : e.Lt n := by rw [h.1]; exact .int _ _
theorem i64c {a : Int} (h : (decide (-9223372036854775808 ≤ a) && decide (a ≤ 9223372036854775807)) = true) : I64 a := by
  simp only [Bool.and_eq_true, decide_eq_true_eq] at h; exact h
theorem int64R {a : Int} (h : I64 a) : Int64R (.int .i64 a) a := ⟨rfl, h⟩
theorem lt_row {n j m : Nat} (h : Nat.blt j m = true) : n + j < n + m := by
  have : j + 1 ≤ m := by simpa [Nat.blt, Nat.ble_eq] using h
  omega
theorem rng_wrap64 (a : Int) : I64 (IntKind.i64.wrap a) := by unfold I64; rw [IntKind.wrap_i64]; omega
section
variable {h : Heap} {n : Nat} {rows : List (Option (List AV))} {α : Type} {R : AV → α → Prop} {es : List AV} {l : List α}
theorem i64_len (hl : es.length = l.length) (hm : es.length ≤ 9223372036854775807) : I64 (l.length : Int) := by unfold I64; omega
theorem len_snoc {e : AV} (hm : es.length + 1 ≤ 140737488355328) : (es ++ [e]).length ≤ 140737488355328 := by simpa using hm
theorem own_fro {sz : Nat} (ha : All2 R es l) (hb : es.length ≤ 140737488355328) (hlt : ∀ e a n, R e a → e.Lt n) : SlR sz R (.ro sz false es) l :=
  .mk_ro ha (by have := all2_length ha; unfold maxLen; omega) hlt
theorem own_take (ha : All2 R es l) : es.take l.length = es := List.take_of_length_le (by rw [all2_length ha]; exact Nat.le_refl _)
theorem ifT {β : Type} {c : Bool} (hc : c = true) {a b : Option β} {r : Option β} (h : (if c = true then a else b) = r) : a = r := by rwa [if_pos hc] at h
theorem ifF {β : Type} {c : Bool} (hc : c = false) {a b : Option β} {r : Option β} (h : (if c = true then a else b) = r) : b = r := by
  rwa [if_neg (by rw [hc]; decide)] at h
theorem app_mv {T : TE} {el : TypeId} {sz j len : Nat} {H : Heap} {m : Nat} {y e : AV} {r : List α} {K : AV → Heap → Nat → Prop} (hsz : sz = (T el).sz) (hpos : 0 < sz) (hy : rdSl H sz y = some [e]) (hb : H (n + j) = some es) (hlen : es.length = len) (h1 : (es.length + 1) * (T el).bytes ≤ 140737488355328) (h2 : es.length + 1 ≤ 140737488355328) (ha : All2 R (es ++ [e]) r)
    (hk : K (.sl sz m 0 r.length r.length false) ((H.del (n + j)).upd m (es ++ [e])) (m + 1)) : appendP T el (.sl sz (n + j) 0 len len false) y H m K := by
  subst hsz; subst hlen
  have hr := all2_length ha
  refine ⟨[e], hy, hpos, rfl, by simpa using h1, by simpa using h2, es, hb, by omega, ?_⟩
  rw [if_neg (by simp), if_neg (by decide)]
  rw [← hr] at hk
  simpa using hk
theorem app_ex {T : TE} {el : TypeId} {sz j len : Nat} {H : Heap} {m : Nat} {y e : AV} {r : List α} {K : AV → Heap → Nat → Prop} (hsz : sz = (T el).sz) (hpos : 0 < sz) (hy : rdSl H sz y = some [e]) (hb : H (n + j) = some es) (hlen : es.length = len) (h1 : (es.length + 1) * (T el).bytes ≤ 140737488355328) (h2 : es.length + 1 ≤ 140737488355328) (ha : All2 R (es ++ [e]) r)
    (hk : K (.sl sz m 0 r.length r.length false) (H.upd m (es ++ [e])) (m + 1)) : appendP T el (.sl sz (n + j) 0 len len true) y H m K := by
  subst hsz; subst hlen
  have hr := all2_length ha
  refine ⟨[e], hy, hpos, rfl, by simpa using h1, by simpa using h2, es, hb, by omega, ?_⟩
  rw [if_neg (by simp), if_pos rfl]
  rw [← hr] at hk
  simpa using hk
theorem resA_cell {T : TE} {E : Env} {H : Heap} {a sz id : Nat} {t : TypeId} {v w : AV} (hE : E.get a = .ep sz (.sl sz id 0 1 1 true) 0 0) (hh : H id = some [v]) (hp : part T t 0 v = some w) (hc : cellOk T t = true) : resA T E H [.cell a t] = some [w] := by
  simp [resA, hc, cellA, hE, rdSl, hh, hp]
def SubR : List (Option (List AV)) → List (Option (List AV)) → Prop
  | [], _ => True
  | r :: rs, r' :: rs' => (r = none ∨ r = r') ∧ SubR rs rs'
  | _ :: _, [] => False
theorem sub_hp {rs rs' : List (Option (List AV))} (hs : SubR rs rs') : (hp h n rs).Sub (hp h n rs') := fun id b hb => by
  have key : ∀ (rs rs' : List (Option (List AV))), SubR rs rs' → ∀ (k : Nat) (b : List AV), (rs[k]?).getD none = some b → (rs'[k]?).getD none = some b := by
    intro rs
    induction rs with
    | nil => intro rs' _ k b hk; simp at hk
    | cons r rs ih =>
      intro rs' hs k b hk
      cases rs' with
      | nil => exact hs.elim
      | cons r' rs' =>
        obtain ⟨h1, hs⟩ := hs
        cases k with
        | zero =>
          rcases h1 with rfl | rfl
          · cases hk
          · exact hk
        | succ k => simpa using ih rs' hs k b (by simpa using hk)
  unfold hp at hb ⊢
  by_cases hid : id < n
  · rw [if_pos hid] at hb ⊢; exact hb
  · rw [if_neg hid] at hb ⊢; exact key rs rs' hs _ b hb
theorem subR_eq {rs rs' : List (Option (List AV))} (hs : SubR rs rs') : (hp h n rs).Sub (hp h n rs') = True := propEq (fun _ => trivial) (fun _ => sub_hp hs)
theorem subR_refl {H : Heap} : H.Sub H = True := propEq (fun _ => trivial) (fun _ => Heap.Sub.refl H)
theorem WQ.drawL {P : Program} {T : TE} {N n0 : Nat} {h0 : Heap} {Q : Exit → Env → Heap → Nat → Prop} {E : Env} (hT : TEOk P T) (hm : P.follows .mixedOrders = true) {id : Nat} {l : List Oper} (plan : List (Nat × Nat)) (D : List Nat) (hS : Heap) (hp : (plan.length == l.length && planOk l.toArray D plan (Array.replicate l.toArray.size false)) = true) (hd : l.all (dstIn N) = true)
    (hsub : hS.Sub h) (hc : (∀ id b, h id = some b → id < n) → planL P T l D hS (Q .normal) plan false E h n) : WQ P N n0 h0 (.region id l.toArray true) Q E h n := (WP.drawL hT hm plan D hS hp hd hsub hc).toQ
theorem e_bl1 {T : TE} {e : Operand → AV} {K : AV → Heap → Nat → Prop} (t : TypeId) (x0 : Operand) : opP T (.buildSlice t 1 #[(0, x0)]) e h n K = (match (T t).ty with
    | .slice el => 0 < (T el).sz ∧ 1 * (T el).sz ≤ 16777216 ∧ ((e x0).cells.length = (T el).sz ∧ (e x0).good = true) ∧ K (.sl (T el).sz n 0 1 1 true) (h.upd n [e x0]) (n + 1)
    | _ => False) := by
  rw [e_buildSlice]
  cases (T t).ty <;> simp only
  rename_i el
  refine propEq (fun ⟨h1, h2, _, h4, h5⟩ => ?_) (fun hq => ?_)
  · exact ⟨h1, h2, h4 (0, x0) (by simp), by simpa using h5⟩
  · obtain ⟨h1, h2, q0, h5⟩ := hq
    exact ⟨h1, h2, rfl, fun p hp => by simp at hp; rcases hp with rfl <;> assumption, by simpa using h5⟩
theorem e_bl2 {T : TE} {e : Operand → AV} {K : AV → Heap → Nat → Prop} (t : TypeId) (x0 x1 : Operand) : opP T (.buildSlice t 2 #[(0, x0), (1, x1)]) e h n K = (match (T t).ty with
    | .slice el => 0 < (T el).sz ∧ 2 * (T el).sz ≤ 16777216 ∧ ((e x0).cells.length = (T el).sz ∧ (e x0).good = true) ∧ ((e x1).cells.length = (T el).sz ∧ (e x1).good = true) ∧ K (.sl (T el).sz n 0 2 2 true) (h.upd n [e x0, e x1]) (n + 1)
    | _ => False) := by
  rw [e_buildSlice]
  cases (T t).ty <;> simp only
  rename_i el
  refine propEq (fun ⟨h1, h2, _, h4, h5⟩ => ?_) (fun hq => ?_)
  · exact ⟨h1, h2, h4 (0, x0) (by simp), h4 (1, x1) (by simp), by simpa using h5⟩
  · obtain ⟨h1, h2, q0, q1, h5⟩ := hq
    exact ⟨h1, h2, rfl, fun p hp => by simp at hp; rcases hp with rfl | rfl <;> assumption, by simpa using h5⟩
theorem e_bl3 {T : TE} {e : Operand → AV} {K : AV → Heap → Nat → Prop} (t : TypeId) (x0 x1 x2 : Operand) : opP T (.buildSlice t 3 #[(0, x0), (1, x1), (2, x2)]) e h n K = (match (T t).ty with
    | .slice el => 0 < (T el).sz ∧ 3 * (T el).sz ≤ 16777216 ∧ ((e x0).cells.length = (T el).sz ∧ (e x0).good = true) ∧ ((e x1).cells.length = (T el).sz ∧ (e x1).good = true) ∧ ((e x2).cells.length = (T el).sz ∧ (e x2).good = true) ∧ K (.sl (T el).sz n 0 3 3 true) (h.upd n [e x0, e x1, e x2]) (n + 1)
    | _ => False) := by
  rw [e_buildSlice]
  cases (T t).ty <;> simp only
  rename_i el
  refine propEq (fun ⟨h1, h2, _, h4, h5⟩ => ?_) (fun hq => ?_)
  · exact ⟨h1, h2, h4 (0, x0) (by simp), h4 (1, x1) (by simp), h4 (2, x2) (by simp), by simpa using h5⟩
  · obtain ⟨h1, h2, q0, q1, q2, h5⟩ := hq
    exact ⟨h1, h2, rfl, fun p hp => by simp at hp; rcases hp with rfl | rfl | rfl <;> assumption, by simpa using h5⟩
theorem e_bl4 {T : TE} {e : Operand → AV} {K : AV → Heap → Nat → Prop} (t : TypeId) (x0 x1 x2 x3 : Operand) : opP T (.buildSlice t 4 #[(0, x0), (1, x1), (2, x2), (3, x3)]) e h n K = (match (T t).ty with
    | .slice el => 0 < (T el).sz ∧ 4 * (T el).sz ≤ 16777216 ∧ ((e x0).cells.length = (T el).sz ∧ (e x0).good = true) ∧ ((e x1).cells.length = (T el).sz ∧ (e x1).good = true) ∧ ((e x2).cells.length = (T el).sz ∧ (e x2).good = true) ∧ ((e x3).cells.length = (T el).sz ∧ (e x3).good = true) ∧ K (.sl (T el).sz n 0 4 4 true) (h.upd n [e x0, e x1, e x2, e x3]) (n + 1)
    | _ => False) := by
  rw [e_buildSlice]
  cases (T t).ty <;> simp only
  rename_i el
  refine propEq (fun ⟨h1, h2, _, h4, h5⟩ => ?_) (fun hq => ?_)
  · exact ⟨h1, h2, h4 (0, x0) (by simp), h4 (1, x1) (by simp), h4 (2, x2) (by simp), h4 (3, x3) (by simp), by simpa using h5⟩
  · obtain ⟨h1, h2, q0, q1, q2, q3, h5⟩ := hq
    exact ⟨h1, h2, rfl, fun p hp => by simp at hp; rcases hp with rfl | rfl | rfl | rfl <;> assumption, by simpa using h5⟩
theorem e_bl5 {T : TE} {e : Operand → AV} {K : AV → Heap → Nat → Prop} (t : TypeId) (x0 x1 x2 x3 x4 : Operand) : opP T (.buildSlice t 5 #[(0, x0), (1, x1), (2, x2), (3, x3), (4, x4)]) e h n K = (match (T t).ty with
    | .slice el => 0 < (T el).sz ∧ 5 * (T el).sz ≤ 16777216 ∧ ((e x0).cells.length = (T el).sz ∧ (e x0).good = true) ∧ ((e x1).cells.length = (T el).sz ∧ (e x1).good = true) ∧ ((e x2).cells.length = (T el).sz ∧ (e x2).good = true) ∧ ((e x3).cells.length = (T el).sz ∧ (e x3).good = true) ∧ ((e x4).cells.length = (T el).sz ∧ (e x4).good = true) ∧ K (.sl (T el).sz n 0 5 5 true) (h.upd n [e x0, e x1, e x2, e x3, e x4]) (n + 1)
    | _ => False) := by
  rw [e_buildSlice]
  cases (T t).ty <;> simp only
  rename_i el
  refine propEq (fun ⟨h1, h2, _, h4, h5⟩ => ?_) (fun hq => ?_)
  · exact ⟨h1, h2, h4 (0, x0) (by simp), h4 (1, x1) (by simp), h4 (2, x2) (by simp), h4 (3, x3) (by simp), h4 (4, x4) (by simp), by simpa using h5⟩
  · obtain ⟨h1, h2, q0, q1, q2, q3, q4, h5⟩ := hq
    exact ⟨h1, h2, rfl, fun p hp => by simp at hp; rcases hp with rfl | rfl | rfl | rfl | rfl <;> assumption, by simpa using h5⟩
theorem nil_or (l : List α) : l = [] ∨ l ≠ [] := by cases l with | nil => exact .inl rfl | cons a l => exact .inr (by simp)
theorem all2_nil {es2 : List AV} {l2 : List α} (hz : l2 = []) (h2 : All2 R es2 l2) : es2 = [] := by subst hz; cases h2; rfl
theorem all2_set {es : List AV} {l : List α} (h : All2 R es l) {i : Nat} {e : AV} {a : α} (he : R e a) : All2 R (es.set i e) (l.set i a) := by
  induction h generalizing i with
  | nil => exact .nil
  | cons h1 h2 ih => cases i with | zero => exact .cons he h2 | succ i => exact .cons h1 ih
theorem len_set {es : List AV} {i : Nat} {e : AV} (h : es.length ≤ 140737488355328) : (es.set i e).length ≤ 140737488355328 := by simpa using h
def planTW (P : Program) (T : TE) (l : List Oper) (D : List Nat) (hS : Heap) (K : Env → Heap → Nat → Prop) (r : PlanT) (hd dirty : Bool) (E : Env) (h : Heap) (n : Nat) : Prop := planT P T l D hS K r hd dirty E h n
theorem planT_alt {P : Program} {T : TE} {l : List Oper} {D : List Nat} {hS : Heap} {i : Nat} {a r : PlanT} {hd dirty : Bool} {E : Env} {K : Env → Heap → Nat → Prop} (h1 : planTW P T l D hS K (.op i 2 a) true dirty E h n) (h2 : planTW P T l D hS K r false dirty E h n) : planTW P T l D hS K (.alt i a r) hd dirty E h n := ⟨h1, h2⟩
theorem planT_end {P : Program} {T : TE} {l : List Oper} {D : List Nat} {hS : Heap} {dirty : Bool} {E : Env} {K : Env → Heap → Nat → Prop} : planTW P T l D hS K .nil false dirty E h n := trivial
def sliceL (l : List α) (lo hi : Int) : Option (List α) := if decide (0 ≤ lo) && decide (lo ≤ hi) && decide (hi ≤ (l.length : Int)) = true then some ((l.drop lo.toNat).take (hi.toNat - lo.toNat)) else none
theorem sliceL_ok {lo hi : Int} {r : List α} (hs : sliceL l lo hi = some r) : 0 ≤ lo ∧ lo ≤ hi ∧ hi ≤ (l.length : Int) ∧ r = (l.drop lo.toNat).take (hi.toNat - lo.toNat) := by
  unfold sliceL at hs
  split at hs
  · rename_i hc
    simp only [Bool.and_eq_true, decide_eq_true_eq] at hc
    exact ⟨hc.1.1, hc.1.2, hc.2, (Option.some.inj hs).symm⟩
  · cases hs
theorem all2_drop2 {es : List AV} {l : List α} (h : All2 R es l) (i : Nat) : All2 R (es.drop i) (l.drop i) := by
  induction h generalizing i with
  | nil => simp; exact .nil
  | cons h1 h2 ih => cases i with | zero => exact .cons h1 h2 | succ i => simpa using ih i
theorem all2_take2 {es : List AV} {l : List α} (h : All2 R es l) (i : Nat) : All2 R (es.take i) (l.take i) := by
  induction h generalizing i with
  | nil => simp; exact .nil
  | cons h1 h2 ih => cases i with | zero => exact .nil | succ i => simpa using All2.cons h1 (ih i)
theorem op_part {T : TE} {t el : TypeId} {e : Operand → AV} {X : AV} {x : Operand} {lo hi : Option Operand} {a b : Int} {r : List α} {K : AV → Heap → Nat → Prop} (hT : (T t).ty = .slice el) (hX : e x = X) (hx : SlR (T el).sz R X l) (hpos : 0 < (T el).sz) (hlt : ∀ e a n, R e a → e.Lt n)
    (hlo : match lo with | some o => e o = .int .i64 a | none => a = 0) (hhi : match hi with | some o => e o = .int .i64 b | none => b = (l.length : Int)) (hr : sliceL l a b = some r) (hk : ∀ y, SlR (T el).sz R y r → K y h n) : opP T (.slice t x lo hi none) e h n K := by
  obtain ⟨h1, h2, h3, rfl⟩ := sliceL_ok hr
  rcases slr_cases hx with ⟨rfl, rfl⟩ | ⟨ex, es, rfl, hal⟩
  · have ha : a = 0 := by simp at h3; omega
    have hb : b = 0 := by simp at h3; omega
    subst ha; subst hb
    have hk' := hk .nils (by simpa using slr_nil)
    simp only [opP, hX]
    refine ⟨el, hT, hpos, by simp, ?_, ?_, rfl, by simpa using hk'⟩
    · cases lo with
      | none => rfl
      | some o => simp only [Option.map_some, bnd, hlo]; simp
    · cases hi with
      | none => rfl
      | some o => simp only [Option.map_some, bnd, hhi]; simp
  · have hlen := all2_length hal
    refine op_slice_ro (el := el) (ex := ex) (l := es) (i := a.toNat) (j := b.toNat) (m := es.length) hT hpos hX (fun h => by cases h) ?_ ?_ rfl (by omega) (by omega) (Nat.le_refl _) (hk _ ?_)
    · cases lo with
      | none => subst hlo; rfl
      | some o => simp only [Option.map_some, bnd, hlo]; exact ⟨by omega, trivial⟩
    · cases hi with
      | none => subst hhi; simp only [Option.map_none, bnd]; omega
      | some o => simp only [Option.map_some, bnd, hhi]; exact ⟨by omega, trivial⟩
    · obtain ⟨es2, q1, _, q3, _, _⟩ := hx
      rw [rdSl_ro] at q1
      obtain rfl := Option.some.inj q1
      refine .mk_ro (all2_take2 (all2_drop2 hal _) _) ?_ hlt
      simp; omega
def appL (bytes : Nat) (l l2 : List α) : Option (List α) := if roomL bytes (l.length + l2.length) = true then some (l ++ l2) else none
theorem all2_app {es es2 : List AV} {l l2 : List α} (h : All2 R es l) (h2 : All2 R es2 l2) : All2 R (es ++ es2) (l ++ l2) := by
  induction h with
  | nil => exact h2
  | cons h1 _ ih => exact .cons h1 ih
theorem app_ok {bytes : Nat} {es es2 : List AV} {l l2 r : List α} (hs : appL bytes l l2 = some r) (hal : All2 R es l) (hal2 : All2 R es2 l2) : (es.length + es2.length) * bytes ≤ 140737488355328 ∧ es.length + es2.length ≤ 140737488355328 ∧ All2 R (es ++ es2) r := by
  unfold appL at hs
  split at hs
  · rename_i hr
    obtain rfl := Option.some.inj hs
    rw [← all2_length hal, ← all2_length hal2] at hr
    unfold roomL at hr
    simp only [Bool.and_eq_true, decide_eq_true_eq] at hr
    exact ⟨hr.1, hr.2, all2_app hal hal2⟩
  · cases hs
theorem len_app {es es2 : List AV} (hm : es.length + es2.length ≤ 140737488355328) : (es ++ es2).length ≤ 140737488355328 := by simpa using hm
theorem app_mvsC {T : TE} {el : TypeId} {sz j len : Nat} {H : Heap} {m : Nat} {y : AV} {es2 : List AV} {r : List α} {K : AV → Heap → Nat → Prop} (hsz : sz = (T el).sz) (hpos : 0 < sz) (hy : rdSl H sz y = some es2) (hb : H (n + j) = some es) (hlen : es.length = len) (h1 : (es.length + es2.length) * (T el).bytes ≤ 140737488355328) (h2 : es.length + es2.length ≤ 140737488355328) (ha : All2 R (es ++ es2) r)
    (hk0 : es2 = [] → K (.sl sz (n + j) 0 r.length r.length false) H m) (hk : es2 ≠ [] → K (.sl sz m 0 r.length r.length false) ((H.del (n + j)).upd m (es ++ es2)) (m + 1)) : appendP T el (.sl sz (n + j) 0 len len false) y H m K := by
  subst hsz; subst hlen
  have hr := all2_length ha
  refine ⟨es2, hy, hpos, rfl, by simpa using h1, by simpa using h2, es, hb, by omega, ?_⟩
  by_cases he : es2 = []
  · subst he
    rw [if_pos (by simp)]
    have hu : H.upd (n + j) (es.take (0 + es.length) ++ [] ++ es.drop (0 + es.length + ([] : List AV).length)) = H := by
      funext x; unfold Heap.upd; split
      · rename_i hx; subst hx; rw [hb]; simp
      · rfl
    rw [hu]
    have := hk0 rfl
    rw [← hr] at this
    simpa using this
  · have hpos2 : 0 < es2.length := List.length_pos_iff.2 he
    rw [if_neg (by omega), if_neg (by decide)]
    have hk := hk he
    rw [← hr] at hk
    simpa using hk
theorem app_exsC {T : TE} {el : TypeId} {sz j len : Nat} {H : Heap} {m : Nat} {y : AV} {es2 : List AV} {r : List α} {K : AV → Heap → Nat → Prop} (hsz : sz = (T el).sz) (hpos : 0 < sz) (hy : rdSl H sz y = some es2) (hb : H (n + j) = some es) (hlen : es.length = len) (h1 : (es.length + es2.length) * (T el).bytes ≤ 140737488355328) (h2 : es.length + es2.length ≤ 140737488355328) (ha : All2 R (es ++ es2) r)
    (hk0 : es2 = [] → K (.sl sz (n + j) 0 r.length r.length true) H m) (hk : es2 ≠ [] → K (.sl sz m 0 r.length r.length false) (H.upd m (es ++ es2)) (m + 1)) : appendP T el (.sl sz (n + j) 0 len len true) y H m K := by
  subst hsz; subst hlen
  have hr := all2_length ha
  refine ⟨es2, hy, hpos, rfl, by simpa using h1, by simpa using h2, es, hb, by omega, ?_⟩
  by_cases he : es2 = []
  · subst he
    rw [if_pos (by simp)]
    have hu : H.upd (n + j) (es.take (0 + es.length) ++ [] ++ es.drop (0 + es.length + ([] : List AV).length)) = H := by
      funext x; unfold Heap.upd; split
      · rename_i hx; subst hx; rw [hb]; simp
      · rfl
    rw [hu]
    have := hk0 rfl
    rw [← hr] at this
    simpa using this
  · have hpos2 : 0 < es2.length := List.length_pos_iff.2 he
    rw [if_neg (by omega), if_pos rfl]
    have hk := hk he
    rw [← hr] at hk
    simpa using hk
theorem WQ.drawT {P : Program} {T : TE} {N n0 : Nat} {h0 : Heap} {Q : Exit → Env → Heap → Nat → Prop} {E : Env} (hT : TEOk P T) (hm : P.follows .mixedOrders = true) {id : Nat} {l : List Oper} (plan : PlanT) (D : List Nat) (hS : Heap) (hp : plan.ok l.toArray D true l.length (Array.replicate l.toArray.size false) = true) (hd : l.all (dstIn N) = true)
    (hsub : hS.Sub h) (hc : (∀ id b, h id = some b → id < n) → planTW P T l D hS (Q .normal) plan true false E h n) : WQ P N n0 h0 (.region id l.toArray true) Q E h n := (WP.drawT hT hm plan D hS hp hd hsub hc).toQ
theorem app_mv_nil {T : TE} {el : TypeId} {sz j len : Nat} {H : Heap} {m : Nat} {y : AV} {es es2 : List AV} {l2 r : List α} {K : AV → Heap → Nat → Prop} (hsz : sz = (T el).sz) (hpos : 0 < sz) (hy : rdSl H sz y = some es2) (hb : H (n + j) = some es) (hlen : es.length = len) (h1 : (es.length + es2.length) * (T el).bytes ≤ 140737488355328) (h2 : es.length + es2.length ≤ 140737488355328) (hal : All2 R es2 l2) (hz : l2 = []) (ha : All2 R (es ++ es2) r)
    (hk : K (.sl sz (n + j) 0 r.length r.length false) H m) : appendP T el (.sl sz (n + j) 0 len len false) y H m K := app_mvsC hsz hpos hy hb hlen h1 h2 ha (fun _ => hk) (fun he => absurd (all2_nil hz hal) he)
theorem app_mv_cons {T : TE} {el : TypeId} {sz j len : Nat} {H : Heap} {m : Nat} {y : AV} {es es2 : List AV} {l2 r : List α} {K : AV → Heap → Nat → Prop} (hsz : sz = (T el).sz) (hpos : 0 < sz) (hy : rdSl H sz y = some es2) (hb : H (n + j) = some es) (hlen : es.length = len) (h1 : (es.length + es2.length) * (T el).bytes ≤ 140737488355328) (h2 : es.length + es2.length ≤ 140737488355328) (hal : All2 R es2 l2) (hz : l2 ≠ []) (ha : All2 R (es ++ es2) r)
    (hk : K (.sl sz m 0 r.length r.length false) ((H.del (n + j)).upd m (es ++ es2)) (m + 1)) : appendP T el (.sl sz (n + j) 0 len len false) y H m K := app_mvsC hsz hpos hy hb hlen h1 h2 ha (fun he => by subst he; cases hal; exact absurd rfl hz) (fun _ => hk)
theorem app_ex_nil {T : TE} {el : TypeId} {sz j len : Nat} {H : Heap} {m : Nat} {y : AV} {es es2 : List AV} {l2 r : List α} {K : AV → Heap → Nat → Prop} (hsz : sz = (T el).sz) (hpos : 0 < sz) (hy : rdSl H sz y = some es2) (hb : H (n + j) = some es) (hlen : es.length = len) (h1 : (es.length + es2.length) * (T el).bytes ≤ 140737488355328) (h2 : es.length + es2.length ≤ 140737488355328) (hal : All2 R es2 l2) (hz : l2 = []) (ha : All2 R (es ++ es2) r)
    (hk : K (.sl sz (n + j) 0 r.length r.length true) H m) : appendP T el (.sl sz (n + j) 0 len len true) y H m K := app_exsC hsz hpos hy hb hlen h1 h2 ha (fun _ => hk) (fun he => absurd (all2_nil hz hal) he)
theorem app_ex_cons {T : TE} {el : TypeId} {sz j len : Nat} {H : Heap} {m : Nat} {y : AV} {es es2 : List AV} {l2 r : List α} {K : AV → Heap → Nat → Prop} (hsz : sz = (T el).sz) (hpos : 0 < sz) (hy : rdSl H sz y = some es2) (hb : H (n + j) = some es) (hlen : es.length = len) (h1 : (es.length + es2.length) * (T el).bytes ≤ 140737488355328) (h2 : es.length + es2.length ≤ 140737488355328) (hal : All2 R es2 l2) (hz : l2 ≠ []) (ha : All2 R (es ++ es2) r)
    (hk : K (.sl sz m 0 r.length r.length false) (H.upd m (es ++ es2)) (m + 1)) : appendP T el (.sl sz (n + j) 0 len len true) y H m K := app_exsC hsz hpos hy hb hlen h1 h2 ha (fun he => by subst he; cases hal; exact absurd rfl hz) (fun _ => hk)
end
end Go.Proofs.Ytcngfjmfgeckmaa
namespace Go.Proofs.Ytcngfjmfgeckmaa
open Go
theorem wrap_succ {i : Nat} (h : i < 9223372036854775807) : IntKind.i64.wrap ((i : Int) + 1) = ((i + 1 : Nat) : Int) := by
  rw [wrap_in (by omega) (by omega)]; rfl
theorem atL_nat {α : Type} (l : List α) (i : Nat) : atL l (i : Int) = l[i]? := by
  unfold atL
  rw [if_pos (Int.natCast_nonneg _)]
  rfl
def searchStep {α : Type} (l : List α) (f : α → Option Bool) (v : Int) : Option (Int ⊕ (Unit ⊕ Option Int)) :=
  (if (decide (v < (l.length : Int))) = true then (Option.bind (atL l v) fun a => (Option.bind (f a) fun b => (if b = true then some (Sum.inr (Sum.inr (some v))) else some (Sum.inl (IntKind.i64.wrap (v + 1)))))) else some (Sum.inr (Sum.inl ())))
theorem iter_search {α : Type} {l : List α} {f : α → Option Bool} {g : α → Bool} (hf : ∀ a, a ∈ l → f a = some (g a)) (hl : l.length < 9223372036854775807) :
    ∀ (k i : Nat), i ≤ l.length → l.length - i < k → iterN (searchStep l f) k (i : Int) = some (match (l.drop i).findIdx? g with | some j => Sum.inr (some ((i + j : Nat) : Int)) | none => Sum.inl ()) := by
  intro k
  induction k with
  | zero => intro i _ h; omega
  | succ k ih =>
    intro i hi hk
    unfold iterN searchStep
    by_cases hlt : i < l.length
    · rw [if_pos (decide_eq_true (Int.ofNat_lt.2 hlt)), atL_nat, List.getElem?_eq_getElem hlt]
      simp only [Option.bind_some]
      rw [hf _ (List.getElem_mem hlt), List.drop_eq_getElem_cons hlt, List.findIdx?_cons]
      simp only [Option.bind_some]
      cases hg : g l[i] with
      | true => simp
      | false =>
        simp only [Bool.false_eq_true, if_false]
        rw [wrap_succ (by omega)]
        refine (ih (i + 1) hlt (by omega)).trans ?_
        cases (l.drop (i + 1)).findIdx? g with
        | none => rfl
        | some j => simp only [Option.map_some]; congr 4; omega
    · rw [if_neg (by simp; omega), List.drop_of_length_le (by omega)]
      rfl
theorem search_any {α : Type} {l : List α} {f : α → Option Bool} {g : α → Bool} {fu : Nat} (hf : ∀ a, a ∈ l → f a = some (g a)) (hl : l.length < 9223372036854775807) (hfu : l.length < fu) :
    (Option.bind (Option.bind (iterN (searchStep l f) fu 0) fun q => Sum.elim (fun (_ : Unit) => some (-1)) (fun x => x) q) fun v => some (decide (0 ≤ v))) = some (l.any g) := by
  have h := iter_search hf hl fu 0 (Nat.zero_le _) (by omega)
  rw [show ((0 : Nat) : Int) = 0 from rfl] at h
  rw [h, List.drop_zero]
  cases hx : l.findIdx? g with
  | none =>
    have : l.any g = false := by
      rw [List.findIdx?_eq_none_iff] at hx
      rw [List.any_eq_false]
      exact fun a ha => by rw [hx a ha]; decide
    rw [this]; rfl
  | some j =>
    have : l.any g = true := by
      obtain ⟨h1, h2, _⟩ := List.findIdx?_eq_some_iff_getElem.1 hx
      exact List.any_eq_true.2 ⟨_, List.getElem_mem h1, h2⟩
    rw [this]
    simp only [Option.bind_some, Sum.elim_inr]
    rw [decide_eq_true (by omega)]
end Go.Proofs.Ytcngfjmfgeckmaa
section
namespace Go.Proofs.Ytcngfjmfgeckmaa
open Go
set_option maxRecDepth 100000
theorem tok1 : TIOk Try.prog 1 ⟨.func, 1, 8, .nilf, false⟩ := TIOk.func Try.underlying1 (by kernel_rfl : Try.prog.info? 1 = some Try.t1) rfl rfl rfl
theorem tok2 : TIOk Try.prog 2 ⟨.int .i64, 1, 8, .int .i64 0, false⟩ := TIOk.int Try.underlying2 (by kernel_rfl : Try.prog.info? 2 = some Try.t2) rfl rfl rfl
theorem tok3 : TIOk Try.prog 3 ⟨.int .i64, 1, 8, .int .i64 0, false⟩ := TIOk.int Try.underlying3 (by kernel_rfl : Try.prog.info? 3 = some Try.t3) rfl rfl rfl
theorem tok4 : TIOk Try.prog 4 ⟨.bool, 1, 1, .bool false, false⟩ := TIOk.bool Try.underlying4 (by kernel_rfl : Try.prog.info? 4 = some Try.t4) rfl rfl rfl
theorem tok5 : TIOk Try.prog 5 ⟨.int .u8, 1, 1, .int .u8 0, false⟩ := TIOk.int Try.underlying5 (by kernel_rfl : Try.prog.info? 5 = some Try.t5) rfl rfl rfl
theorem tok6 : TIOk Try.prog 6 ⟨.int .u8, 1, 1, .int .u8 0, false⟩ := TIOk.int Try.underlying6 (by kernel_rfl : Try.prog.info? 6 = some Try.t6) rfl rfl rfl
theorem tok9 : TIOk Try.prog 9 ⟨.str, 1, 16, .str ⟨#[]⟩, false⟩ := TIOk.str Try.underlying9 (by kernel_rfl : Try.prog.info? 9 = some Try.t9) rfl rfl rfl
theorem tok10 : TIOk Try.prog 10 ⟨.str, 1, 16, .str ⟨#[]⟩, false⟩ := TIOk.str Try.underlying10 (by kernel_rfl : Try.prog.info? 10 = some Try.t10) rfl rfl rfl
theorem tok11 : TIOk Try.prog 11 ⟨.str, 1, 16, .str ⟨#[]⟩, false⟩ := TIOk.str Try.underlying11 (by kernel_rfl : Try.prog.info? 11 = some Try.t11) rfl rfl rfl
theorem tok12 : TIOk Try.prog 12 ⟨.int .u64, 1, 8, .int .u64 0, false⟩ := TIOk.int Try.underlying12 (by kernel_rfl : Try.prog.info? 12 = some Try.t12) rfl rfl rfl
theorem tok21 : TIOk Try.prog 21 ⟨.int .i32, 1, 4, .int .i32 0, false⟩ := TIOk.int Try.underlying21 (by kernel_rfl : Try.prog.info? 21 = some Try.t21) rfl rfl rfl
theorem tok22 : TIOk Try.prog 22 ⟨.slice 64, 1, 24, .nils, false⟩ := TIOk.slice Try.underlying22 (by kernel_rfl : Try.prog.info? 22 = some Try.t22) rfl rfl rfl
theorem tok23 : TIOk Try.prog 23 ⟨.slice 95, 1, 24, .nils, false⟩ := TIOk.slice Try.underlying23 (by kernel_rfl : Try.prog.info? 23 = some Try.t23) rfl rfl rfl
theorem tok24 : TIOk Try.prog 24 ⟨.struct [(0, 22), (1, 23)], 2, 48, .agg [.nils, .nils], false⟩ := TIOk.struct Try.underlying24 rfl (by kernel_rfl : Try.prog.info? 24 = some Try.t24) rfl rfl rfl rfl rfl rfl (fun h => by cases h)
theorem tok25 : TIOk Try.prog 25 ⟨.struct [(0, 22), (1, 23)], 2, 48, .agg [.nils, .nils], false⟩ := TIOk.struct Try.underlying25 rfl (by kernel_rfl : Try.prog.info? 25 = some Try.t25) rfl rfl rfl rfl rfl rfl (fun h => by cases h)
theorem tok26 : TIOk Try.prog 26 ⟨.func, 1, 8, .nilf, false⟩ := TIOk.func Try.underlying26 (by kernel_rfl : Try.prog.info? 26 = some Try.t26) rfl rfl rfl
theorem tok27 : TIOk Try.prog 27 ⟨.func, 1, 8, .nilf, false⟩ := TIOk.func Try.underlying27 (by kernel_rfl : Try.prog.info? 27 = some Try.t27) rfl rfl rfl
theorem tok28 : TIOk Try.prog 28 ⟨.slice 97, 1, 24, .nils, false⟩ := TIOk.slice Try.underlying28 (by kernel_rfl : Try.prog.info? 28 = some Try.t28) rfl rfl rfl
theorem tok29 : TIOk Try.prog 29 ⟨.struct [(0, 22), (1, 28)], 2, 48, .agg [.nils, .nils], false⟩ := TIOk.struct Try.underlying29 rfl (by kernel_rfl : Try.prog.info? 29 = some Try.t29) rfl rfl rfl rfl rfl rfl (fun h => by cases h)
theorem tok30 : TIOk Try.prog 30 ⟨.struct [(0, 22), (1, 28)], 2, 48, .agg [.nils, .nils], false⟩ := TIOk.struct Try.underlying30 rfl (by kernel_rfl : Try.prog.info? 30 = some Try.t30) rfl rfl rfl rfl rfl rfl (fun h => by cases h)
theorem tok31 : TIOk Try.prog 31 ⟨.func, 1, 8, .nilf, false⟩ := TIOk.func Try.underlying31 (by kernel_rfl : Try.prog.info? 31 = some Try.t31) rfl rfl rfl
theorem tok32 : TIOk Try.prog 32 ⟨.func, 1, 8, .nilf, false⟩ := TIOk.func Try.underlying32 (by kernel_rfl : Try.prog.info? 32 = some Try.t32) rfl rfl rfl
theorem tok33 : TIOk Try.prog 33 ⟨.slice 78, 1, 24, .nils, false⟩ := TIOk.slice Try.underlying33 (by kernel_rfl : Try.prog.info? 33 = some Try.t33) rfl rfl rfl
theorem tok34 : TIOk Try.prog 34 ⟨.func, 1, 8, .nilf, false⟩ := TIOk.func Try.underlying34 (by kernel_rfl : Try.prog.info? 34 = some Try.t34) rfl rfl rfl
theorem tok35 : TIOk Try.prog 35 ⟨.func, 1, 8, .nilf, false⟩ := TIOk.func Try.underlying35 (by kernel_rfl : Try.prog.info? 35 = some Try.t35) rfl rfl rfl
theorem tok36 : TIOk Try.prog 36 ⟨.slice 76, 1, 24, .nils, false⟩ := TIOk.slice Try.underlying36 (by kernel_rfl : Try.prog.info? 36 = some Try.t36) rfl rfl rfl
theorem tok37 : TIOk Try.prog 37 ⟨.func, 1, 8, .nilf, false⟩ := TIOk.func Try.underlying37 (by kernel_rfl : Try.prog.info? 37 = some Try.t37) rfl rfl rfl
theorem tok38 : TIOk Try.prog 38 ⟨.func, 1, 8, .nilf, false⟩ := TIOk.func Try.underlying38 (by kernel_rfl : Try.prog.info? 38 = some Try.t38) rfl rfl rfl
theorem tok39 : TIOk Try.prog 39 ⟨.func, 1, 8, .nilf, false⟩ := TIOk.func Try.underlying39 (by kernel_rfl : Try.prog.info? 39 = some Try.t39) rfl rfl rfl
theorem tok40 : TIOk Try.prog 40 ⟨.slice 2, 1, 24, .nils, false⟩ := TIOk.slice Try.underlying40 (by kernel_rfl : Try.prog.info? 40 = some Try.t40) rfl rfl rfl
theorem tok42 : TIOk Try.prog 42 ⟨.struct [(0, 2), (1, 40)], 2, 32, .agg [.int .i64 0, .nils], false⟩ := TIOk.struct Try.underlying42 rfl (by kernel_rfl : Try.prog.info? 42 = some Try.t42) rfl rfl rfl rfl rfl rfl (fun h => by cases h)
theorem tok43 : TIOk Try.prog 43 ⟨.func, 1, 8, .nilf, false⟩ := TIOk.func Try.underlying43 (by kernel_rfl : Try.prog.info? 43 = some Try.t43) rfl rfl rfl
theorem tok44 : TIOk Try.prog 44 ⟨.func, 1, 8, .nilf, false⟩ := TIOk.func Try.underlying44 (by kernel_rfl : Try.prog.info? 44 = some Try.t44) rfl rfl rfl
theorem tok45 : TIOk Try.prog 45 ⟨.func, 1, 8, .nilf, false⟩ := TIOk.func Try.underlying45 (by kernel_rfl : Try.prog.info? 45 = some Try.t45) rfl rfl rfl
theorem tok46 : TIOk Try.prog 46 ⟨.func, 1, 8, .nilf, false⟩ := TIOk.func Try.underlying46 (by kernel_rfl : Try.prog.info? 46 = some Try.t46) rfl rfl rfl
theorem tok47 : TIOk Try.prog 47 ⟨.slice 123, 1, 24, .nils, false⟩ := TIOk.slice Try.underlying47 (by kernel_rfl : Try.prog.info? 47 = some Try.t47) rfl rfl rfl
theorem tok48 : TIOk Try.prog 48 ⟨.struct [(0, 2), (1, 47)], 2, 32, .agg [.int .i64 0, .nils], false⟩ := TIOk.struct Try.underlying48 rfl (by kernel_rfl : Try.prog.info? 48 = some Try.t48) rfl rfl rfl rfl rfl rfl (fun h => by cases h)
theorem tok49 : TIOk Try.prog 49 ⟨.struct [(0, 2), (1, 47)], 2, 32, .agg [.int .i64 0, .nils], false⟩ := TIOk.struct Try.underlying49 rfl (by kernel_rfl : Try.prog.info? 49 = some Try.t49) rfl rfl rfl rfl rfl rfl (fun h => by cases h)
theorem tok50 : TIOk Try.prog 50 ⟨.func, 1, 8, .nilf, false⟩ := TIOk.func Try.underlying50 (by kernel_rfl : Try.prog.info? 50 = some Try.t50) rfl rfl rfl
theorem tok51 : TIOk Try.prog 51 ⟨.func, 1, 8, .nilf, false⟩ := TIOk.func Try.underlying51 (by kernel_rfl : Try.prog.info? 51 = some Try.t51) rfl rfl rfl
theorem tok52 : TIOk Try.prog 52 ⟨.func, 1, 8, .nilf, false⟩ := TIOk.func Try.underlying52 (by kernel_rfl : Try.prog.info? 52 = some Try.t52) rfl rfl rfl
theorem tok53 : TIOk Try.prog 53 ⟨.func, 1, 8, .nilf, false⟩ := TIOk.func Try.underlying53 (by kernel_rfl : Try.prog.info? 53 = some Try.t53) rfl rfl rfl
theorem tok54 : TIOk Try.prog 54 ⟨.func, 1, 8, .nilf, false⟩ := TIOk.func Try.underlying54 (by kernel_rfl : Try.prog.info? 54 = some Try.t54) rfl rfl rfl
theorem tok55 : TIOk Try.prog 55 ⟨.func, 1, 8, .nilf, false⟩ := TIOk.func Try.underlying55 (by kernel_rfl : Try.prog.info? 55 = some Try.t55) rfl rfl rfl
theorem tok56 : TIOk Try.prog 56 ⟨.func, 1, 8, .nilf, false⟩ := TIOk.func Try.underlying56 (by kernel_rfl : Try.prog.info? 56 = some Try.t56) rfl rfl rfl
theorem tok57 : TIOk Try.prog 57 ⟨.struct [(0, 2), (1, 2), (2, 47)], 3, 40, .agg [.int .i64 0, .int .i64 0, .nils], false⟩ := TIOk.struct Try.underlying57 rfl (by kernel_rfl : Try.prog.info? 57 = some Try.t57) rfl rfl rfl rfl rfl rfl (fun h => by cases h)
theorem tok58 : TIOk Try.prog 58 ⟨.struct [(0, 2), (1, 2), (2, 47)], 3, 40, .agg [.int .i64 0, .int .i64 0, .nils], false⟩ := TIOk.struct Try.underlying58 rfl (by kernel_rfl : Try.prog.info? 58 = some Try.t58) rfl rfl rfl rfl rfl rfl (fun h => by cases h)
theorem tok59 : TIOk Try.prog 59 ⟨.struct [(0, 2), (1, 58)], 4, 48, .agg [.int .i64 0, .int .i64 0, .int .i64 0, .nils], false⟩ := TIOk.struct Try.underlying59 rfl (by kernel_rfl : Try.prog.info? 59 = some Try.t59) rfl rfl rfl rfl rfl rfl (fun h => by cases h)
theorem tok60 : TIOk Try.prog 60 ⟨.struct [(0, 2), (1, 58)], 4, 48, .agg [.int .i64 0, .int .i64 0, .int .i64 0, .nils], false⟩ := TIOk.struct Try.underlying60 rfl (by kernel_rfl : Try.prog.info? 60 = some Try.t60) rfl rfl rfl rfl rfl rfl (fun h => by cases h)
theorem tok61 : TIOk Try.prog 61 ⟨.func, 1, 8, .nilf, false⟩ := TIOk.func Try.underlying61 (by kernel_rfl : Try.prog.info? 61 = some Try.t61) rfl rfl rfl
theorem tok62 : TIOk Try.prog 62 ⟨.func, 1, 8, .nilf, false⟩ := TIOk.func Try.underlying62 (by kernel_rfl : Try.prog.info? 62 = some Try.t62) rfl rfl rfl
theorem tok64 : TIOk Try.prog 64 ⟨.slice 5, 1, 24, .nils, false⟩ := TIOk.slice Try.underlying64 (by kernel_rfl : Try.prog.info? 64 = some Try.t64) rfl rfl rfl
theorem tok65 : TIOk Try.prog 65 ⟨.func, 1, 8, .nilf, false⟩ := TIOk.func Try.underlying65 (by kernel_rfl : Try.prog.info? 65 = some Try.t65) rfl rfl rfl
theorem tok66 : TIOk Try.prog 66 ⟨.func, 1, 8, .nilf, false⟩ := TIOk.func Try.underlying66 (by kernel_rfl : Try.prog.info? 66 = some Try.t66) rfl rfl rfl
theorem tok67 : TIOk Try.prog 67 ⟨.func, 1, 8, .nilf, false⟩ := TIOk.func Try.underlying67 (by kernel_rfl : Try.prog.info? 67 = some Try.t67) rfl rfl rfl
theorem tok68 : TIOk Try.prog 68 ⟨.func, 1, 8, .nilf, false⟩ := TIOk.func Try.underlying68 (by kernel_rfl : Try.prog.info? 68 = some Try.t68) rfl rfl rfl
theorem tok69 : TIOk Try.prog 69 ⟨.func, 1, 8, .nilf, false⟩ := TIOk.func Try.underlying69 (by kernel_rfl : Try.prog.info? 69 = some Try.t69) rfl rfl rfl
theorem tok70 : TIOk Try.prog 70 ⟨.func, 1, 8, .nilf, false⟩ := TIOk.func Try.underlying70 (by kernel_rfl : Try.prog.info? 70 = some Try.t70) rfl rfl rfl
theorem tok71 : TIOk Try.prog 71 ⟨.func, 1, 8, .nilf, false⟩ := TIOk.func Try.underlying71 (by kernel_rfl : Try.prog.info? 71 = some Try.t71) rfl rfl rfl
theorem tok72 : TIOk Try.prog 72 ⟨.func, 1, 8, .nilf, false⟩ := TIOk.func Try.underlying72 (by kernel_rfl : Try.prog.info? 72 = some Try.t72) rfl rfl rfl
theorem tok73 : TIOk Try.prog 73 ⟨.func, 1, 8, .nilf, false⟩ := TIOk.func Try.underlying73 (by kernel_rfl : Try.prog.info? 73 = some Try.t73) rfl rfl rfl
theorem tok74 : TIOk Try.prog 74 ⟨.func, 1, 8, .nilf, false⟩ := TIOk.func Try.underlying74 (by kernel_rfl : Try.prog.info? 74 = some Try.t74) rfl rfl rfl
theorem tok76 : TIOk Try.prog 76 ⟨.struct [(0, 2), (1, 2), (2, 2), (3, 4), (4, 2), (5, 4), (6, 2), (7, 2)], 8, 64, .agg [.int .i64 0, .int .i64 0, .int .i64 0, .bool false, .int .i64 0, .bool false, .int .i64 0, .int .i64 0], true⟩ := TIOk.struct Try.underlying76 rfl (by kernel_rfl : Try.prog.info? 76 = some Try.t76) rfl rfl rfl rfl rfl rfl (fun _ => ⟨Try.stoodInHeld76, Try.eqGuardType76, by decide, by decide⟩)
theorem tok77 : TIOk Try.prog 77 ⟨.func, 1, 8, .nilf, false⟩ := TIOk.func Try.underlying77 (by kernel_rfl : Try.prog.info? 77 = some Try.t77) rfl rfl rfl
theorem tok78 : TIOk Try.prog 78 ⟨.struct [(0, 2), (1, 2), (2, 2), (3, 4), (4, 2), (5, 4), (6, 2), (7, 2)], 8, 64, .agg [.int .i64 0, .int .i64 0, .int .i64 0, .bool false, .int .i64 0, .bool false, .int .i64 0, .int .i64 0], true⟩ := TIOk.struct Try.underlying78 rfl (by kernel_rfl : Try.prog.info? 78 = some Try.t78) rfl rfl rfl rfl rfl rfl (fun _ => ⟨Try.stoodInHeld78, Try.eqGuardType78, by decide, by decide⟩)
theorem tok79 : TIOk Try.prog 79 ⟨.func, 1, 8, .nilf, false⟩ := TIOk.func Try.underlying79 (by kernel_rfl : Try.prog.info? 79 = some Try.t79) rfl rfl rfl
theorem tok80 : TIOk Try.prog 80 ⟨.func, 1, 8, .nilf, false⟩ := TIOk.func Try.underlying80 (by kernel_rfl : Try.prog.info? 80 = some Try.t80) rfl rfl rfl
theorem tok81 : TIOk Try.prog 81 ⟨.func, 1, 8, .nilf, false⟩ := TIOk.func Try.underlying81 (by kernel_rfl : Try.prog.info? 81 = some Try.t81) rfl rfl rfl
theorem tok82 : TIOk Try.prog 82 ⟨.func, 1, 8, .nilf, false⟩ := TIOk.func Try.underlying82 (by kernel_rfl : Try.prog.info? 82 = some Try.t82) rfl rfl rfl
theorem tok83 : TIOk Try.prog 83 ⟨.func, 1, 8, .nilf, false⟩ := TIOk.func Try.underlying83 (by kernel_rfl : Try.prog.info? 83 = some Try.t83) rfl rfl rfl
theorem tok84 : TIOk Try.prog 84 ⟨.func, 1, 8, .nilf, false⟩ := TIOk.func Try.underlying84 (by kernel_rfl : Try.prog.info? 84 = some Try.t84) rfl rfl rfl
theorem tok85 : TIOk Try.prog 85 ⟨.func, 1, 8, .nilf, false⟩ := TIOk.func Try.underlying85 (by kernel_rfl : Try.prog.info? 85 = some Try.t85) rfl rfl rfl
theorem tok86 : TIOk Try.prog 86 ⟨.func, 1, 8, .nilf, false⟩ := TIOk.func Try.underlying86 (by kernel_rfl : Try.prog.info? 86 = some Try.t86) rfl rfl rfl
theorem tok87 : TIOk Try.prog 87 ⟨.func, 1, 8, .nilf, false⟩ := TIOk.func Try.underlying87 (by kernel_rfl : Try.prog.info? 87 = some Try.t87) rfl rfl rfl
theorem tok88 : TIOk Try.prog 88 ⟨.func, 1, 8, .nilf, false⟩ := TIOk.func Try.underlying88 (by kernel_rfl : Try.prog.info? 88 = some Try.t88) rfl rfl rfl
theorem tok89 : TIOk Try.prog 89 ⟨.func, 1, 8, .nilf, false⟩ := TIOk.func Try.underlying89 (by kernel_rfl : Try.prog.info? 89 = some Try.t89) rfl rfl rfl
theorem tok90 : TIOk Try.prog 90 ⟨.func, 1, 8, .nilf, false⟩ := TIOk.func Try.underlying90 (by kernel_rfl : Try.prog.info? 90 = some Try.t90) rfl rfl rfl
theorem tok91 : TIOk Try.prog 91 ⟨.func, 1, 8, .nilf, false⟩ := TIOk.func Try.underlying91 (by kernel_rfl : Try.prog.info? 91 = some Try.t91) rfl rfl rfl
theorem tok92 : TIOk Try.prog 92 ⟨.func, 1, 8, .nilf, false⟩ := TIOk.func Try.underlying92 (by kernel_rfl : Try.prog.info? 92 = some Try.t92) rfl rfl rfl
theorem tok93 : TIOk Try.prog 93 ⟨.func, 1, 8, .nilf, false⟩ := TIOk.func Try.underlying93 (by kernel_rfl : Try.prog.info? 93 = some Try.t93) rfl rfl rfl
theorem tok95 : TIOk Try.prog 95 ⟨.struct [(0, 2), (1, 2), (2, 64)], 3, 40, .agg [.int .i64 0, .int .i64 0, .nils], false⟩ := TIOk.struct Try.underlying95 rfl (by kernel_rfl : Try.prog.info? 95 = some Try.t95) rfl rfl rfl rfl rfl rfl (fun h => by cases h)
theorem tok96 : TIOk Try.prog 96 ⟨.func, 1, 8, .nilf, false⟩ := TIOk.func Try.underlying96 (by kernel_rfl : Try.prog.info? 96 = some Try.t96) rfl rfl rfl
theorem tok97 : TIOk Try.prog 97 ⟨.struct [(0, 2), (1, 2), (2, 64)], 3, 40, .agg [.int .i64 0, .int .i64 0, .nils], false⟩ := TIOk.struct Try.underlying97 rfl (by kernel_rfl : Try.prog.info? 97 = some Try.t97) rfl rfl rfl rfl rfl rfl (fun h => by cases h)
theorem tok98 : TIOk Try.prog 98 ⟨.func, 1, 8, .nilf, false⟩ := TIOk.func Try.underlying98 (by kernel_rfl : Try.prog.info? 98 = some Try.t98) rfl rfl rfl
theorem tok99 : TIOk Try.prog 99 ⟨.func, 1, 8, .nilf, false⟩ := TIOk.func Try.underlying99 (by kernel_rfl : Try.prog.info? 99 = some Try.t99) rfl rfl rfl
theorem tok100 : TIOk Try.prog 100 ⟨.func, 1, 8, .nilf, false⟩ := TIOk.func Try.underlying100 (by kernel_rfl : Try.prog.info? 100 = some Try.t100) rfl rfl rfl
theorem tok101 : TIOk Try.prog 101 ⟨.func, 1, 8, .nilf, false⟩ := TIOk.func Try.underlying101 (by kernel_rfl : Try.prog.info? 101 = some Try.t101) rfl rfl rfl
theorem tok102 : TIOk Try.prog 102 ⟨.func, 1, 8, .nilf, false⟩ := TIOk.func Try.underlying102 (by kernel_rfl : Try.prog.info? 102 = some Try.t102) rfl rfl rfl
theorem tok103 : TIOk Try.prog 103 ⟨.func, 1, 8, .nilf, false⟩ := TIOk.func Try.underlying103 (by kernel_rfl : Try.prog.info? 103 = some Try.t103) rfl rfl rfl
theorem tok104 : TIOk Try.prog 104 ⟨.func, 1, 8, .nilf, false⟩ := TIOk.func Try.underlying104 (by kernel_rfl : Try.prog.info? 104 = some Try.t104) rfl rfl rfl
theorem tok105 : TIOk Try.prog 105 ⟨.func, 1, 8, .nilf, false⟩ := TIOk.func Try.underlying105 (by kernel_rfl : Try.prog.info? 105 = some Try.t105) rfl rfl rfl
theorem tok106 : TIOk Try.prog 106 ⟨.slice 140, 1, 24, .nils, false⟩ := TIOk.slice Try.underlying106 (by kernel_rfl : Try.prog.info? 106 = some Try.t106) rfl rfl rfl
theorem tok107 : TIOk Try.prog 107 ⟨.struct [(0, 47), (1, 40), (2, 40), (3, 40), (4, 106)], 5, 120, .agg [.nils, .nils, .nils, .nils, .nils], false⟩ := TIOk.struct Try.underlying107 rfl (by kernel_rfl : Try.prog.info? 107 = some Try.t107) rfl rfl rfl rfl rfl rfl (fun h => by cases h)
theorem tok108 : TIOk Try.prog 108 ⟨.struct [(0, 47), (1, 40), (2, 40), (3, 40), (4, 106)], 5, 120, .agg [.nils, .nils, .nils, .nils, .nils], false⟩ := TIOk.struct Try.underlying108 rfl (by kernel_rfl : Try.prog.info? 108 = some Try.t108) rfl rfl rfl rfl rfl rfl (fun h => by cases h)
theorem tok109 : TIOk Try.prog 109 ⟨.func, 1, 8, .nilf, false⟩ := TIOk.func Try.underlying109 (by kernel_rfl : Try.prog.info? 109 = some Try.t109) rfl rfl rfl
theorem tok111 : TIOk Try.prog 111 ⟨.func, 1, 8, .nilf, false⟩ := TIOk.func Try.underlying111 (by kernel_rfl : Try.prog.info? 111 = some Try.t111) rfl rfl rfl
theorem tok112 : TIOk Try.prog 112 ⟨.func, 1, 8, .nilf, false⟩ := TIOk.func Try.underlying112 (by kernel_rfl : Try.prog.info? 112 = some Try.t112) rfl rfl rfl
theorem tok113 : TIOk Try.prog 113 ⟨.func, 1, 8, .nilf, false⟩ := TIOk.func Try.underlying113 (by kernel_rfl : Try.prog.info? 113 = some Try.t113) rfl rfl rfl
theorem tok114 : TIOk Try.prog 114 ⟨.func, 1, 8, .nilf, false⟩ := TIOk.func Try.underlying114 (by kernel_rfl : Try.prog.info? 114 = some Try.t114) rfl rfl rfl
theorem tok115 : TIOk Try.prog 115 ⟨.func, 1, 8, .nilf, false⟩ := TIOk.func Try.underlying115 (by kernel_rfl : Try.prog.info? 115 = some Try.t115) rfl rfl rfl
theorem tok116 : TIOk Try.prog 116 ⟨.func, 1, 8, .nilf, false⟩ := TIOk.func Try.underlying116 (by kernel_rfl : Try.prog.info? 116 = some Try.t116) rfl rfl rfl
theorem tok118 : TIOk Try.prog 118 ⟨.struct [(0, 2), (1, 2)], 2, 16, .agg [.int .i64 0, .int .i64 0], true⟩ := TIOk.struct Try.underlying118 rfl (by kernel_rfl : Try.prog.info? 118 = some Try.t118) rfl rfl rfl rfl rfl rfl (fun _ => ⟨Try.stoodInHeld118, Try.eqGuardType118, by decide, by decide⟩)
theorem tok119 : TIOk Try.prog 119 ⟨.func, 1, 8, .nilf, false⟩ := TIOk.func Try.underlying119 (by kernel_rfl : Try.prog.info? 119 = some Try.t119) rfl rfl rfl
theorem tok120 : TIOk Try.prog 120 ⟨.func, 1, 8, .nilf, false⟩ := TIOk.func Try.underlying120 (by kernel_rfl : Try.prog.info? 120 = some Try.t120) rfl rfl rfl
theorem tok121 : TIOk Try.prog 121 ⟨.func, 1, 8, .nilf, false⟩ := TIOk.func Try.underlying121 (by kernel_rfl : Try.prog.info? 121 = some Try.t121) rfl rfl rfl
theorem tok123 : TIOk Try.prog 123 ⟨.struct [(0, 2), (1, 2)], 2, 16, .agg [.int .i64 0, .int .i64 0], true⟩ := TIOk.struct Try.underlying123 rfl (by kernel_rfl : Try.prog.info? 123 = some Try.t123) rfl rfl rfl rfl rfl rfl (fun _ => ⟨Try.stoodInHeld123, Try.eqGuardType123, by decide, by decide⟩)
theorem tok125 : TIOk Try.prog 125 ⟨.func, 1, 8, .nilf, false⟩ := TIOk.func Try.underlying125 (by kernel_rfl : Try.prog.info? 125 = some Try.t125) rfl rfl rfl
theorem tok126 : TIOk Try.prog 126 ⟨.func, 1, 8, .nilf, false⟩ := TIOk.func Try.underlying126 (by kernel_rfl : Try.prog.info? 126 = some Try.t126) rfl rfl rfl
theorem tok127 : TIOk Try.prog 127 ⟨.func, 1, 8, .nilf, false⟩ := TIOk.func Try.underlying127 (by kernel_rfl : Try.prog.info? 127 = some Try.t127) rfl rfl rfl
theorem tok128 : TIOk Try.prog 128 ⟨.func, 1, 8, .nilf, false⟩ := TIOk.func Try.underlying128 (by kernel_rfl : Try.prog.info? 128 = some Try.t128) rfl rfl rfl
theorem tok129 : TIOk Try.prog 129 ⟨.func, 1, 8, .nilf, false⟩ := TIOk.func Try.underlying129 (by kernel_rfl : Try.prog.info? 129 = some Try.t129) rfl rfl rfl
theorem tok130 : TIOk Try.prog 130 ⟨.func, 1, 8, .nilf, false⟩ := TIOk.func Try.underlying130 (by kernel_rfl : Try.prog.info? 130 = some Try.t130) rfl rfl rfl
theorem tok131 : TIOk Try.prog 131 ⟨.func, 1, 8, .nilf, false⟩ := TIOk.func Try.underlying131 (by kernel_rfl : Try.prog.info? 131 = some Try.t131) rfl rfl rfl
theorem tok132 : TIOk Try.prog 132 ⟨.func, 1, 8, .nilf, false⟩ := TIOk.func Try.underlying132 (by kernel_rfl : Try.prog.info? 132 = some Try.t132) rfl rfl rfl
theorem tok133 : TIOk Try.prog 133 ⟨.func, 1, 8, .nilf, false⟩ := TIOk.func Try.underlying133 (by kernel_rfl : Try.prog.info? 133 = some Try.t133) rfl rfl rfl
theorem tok134 : TIOk Try.prog 134 ⟨.func, 1, 8, .nilf, false⟩ := TIOk.func Try.underlying134 (by kernel_rfl : Try.prog.info? 134 = some Try.t134) rfl rfl rfl
theorem tok135 : TIOk Try.prog 135 ⟨.func, 1, 8, .nilf, false⟩ := TIOk.func Try.underlying135 (by kernel_rfl : Try.prog.info? 135 = some Try.t135) rfl rfl rfl
theorem tok136 : TIOk Try.prog 136 ⟨.func, 1, 8, .nilf, false⟩ := TIOk.func Try.underlying136 (by kernel_rfl : Try.prog.info? 136 = some Try.t136) rfl rfl rfl
theorem tok137 : TIOk Try.prog 137 ⟨.func, 1, 8, .nilf, false⟩ := TIOk.func Try.underlying137 (by kernel_rfl : Try.prog.info? 137 = some Try.t137) rfl rfl rfl
theorem tok138 : TIOk Try.prog 138 ⟨.func, 1, 8, .nilf, false⟩ := TIOk.func Try.underlying138 (by kernel_rfl : Try.prog.info? 138 = some Try.t138) rfl rfl rfl
theorem tok140 : TIOk Try.prog 140 ⟨.struct [(0, 2), (1, 2)], 2, 16, .agg [.int .i64 0, .int .i64 0], true⟩ := TIOk.struct Try.underlying140 rfl (by kernel_rfl : Try.prog.info? 140 = some Try.t140) rfl rfl rfl rfl rfl rfl (fun _ => ⟨Try.stoodInHeld140, Try.eqGuardType140, by decide, by decide⟩)
theorem tok141 : TIOk Try.prog 141 ⟨.func, 1, 8, .nilf, false⟩ := TIOk.func Try.underlying141 (by kernel_rfl : Try.prog.info? 141 = some Try.t141) rfl rfl rfl
theorem tok142 : TIOk Try.prog 142 ⟨.func, 1, 8, .nilf, false⟩ := TIOk.func Try.underlying142 (by kernel_rfl : Try.prog.info? 142 = some Try.t142) rfl rfl rfl
theorem tok143 : TIOk Try.prog 143 ⟨.func, 1, 8, .nilf, false⟩ := TIOk.func Try.underlying143 (by kernel_rfl : Try.prog.info? 143 = some Try.t143) rfl rfl rfl
theorem tok144 : TIOk Try.prog 144 ⟨.func, 1, 8, .nilf, false⟩ := TIOk.func Try.underlying144 (by kernel_rfl : Try.prog.info? 144 = some Try.t144) rfl rfl rfl
theorem tok145 : TIOk Try.prog 145 ⟨.func, 1, 8, .nilf, false⟩ := TIOk.func Try.underlying145 (by kernel_rfl : Try.prog.info? 145 = some Try.t145) rfl rfl rfl
theorem tok146 : TIOk Try.prog 146 ⟨.func, 1, 8, .nilf, false⟩ := TIOk.func Try.underlying146 (by kernel_rfl : Try.prog.info? 146 = some Try.t146) rfl rfl rfl
theorem tok147 : TIOk Try.prog 147 ⟨.int .u64, 1, 8, .int .u64 0, false⟩ := TIOk.int Try.underlying147 (by kernel_rfl : Try.prog.info? 147 = some Try.t147) rfl rfl rfl
theorem tok148 : TIOk Try.prog 148 ⟨.func, 1, 8, .nilf, false⟩ := TIOk.func Try.underlying148 (by kernel_rfl : Try.prog.info? 148 = some Try.t148) rfl rfl rfl
theorem tok149 : TIOk Try.prog 149 ⟨.func, 1, 8, .nilf, false⟩ := TIOk.func Try.underlying149 (by kernel_rfl : Try.prog.info? 149 = some Try.t149) rfl rfl rfl
theorem tok150 : TIOk Try.prog 150 ⟨.func, 1, 8, .nilf, false⟩ := TIOk.func Try.underlying150 (by kernel_rfl : Try.prog.info? 150 = some Try.t150) rfl rfl rfl
theorem tok151 : TIOk Try.prog 151 ⟨.func, 1, 8, .nilf, false⟩ := TIOk.func Try.underlying151 (by kernel_rfl : Try.prog.info? 151 = some Try.t151) rfl rfl rfl
theorem tok152 : TIOk Try.prog 152 ⟨.func, 1, 8, .nilf, false⟩ := TIOk.func Try.underlying152 (by kernel_rfl : Try.prog.info? 152 = some Try.t152) rfl rfl rfl
theorem tok153 : TIOk Try.prog 153 ⟨.int .i64, 1, 8, .int .i64 0, false⟩ := TIOk.int Try.underlying153 (by kernel_rfl : Try.prog.info? 153 = some Try.t153) rfl rfl rfl
theorem tok155 : TIOk Try.prog 155 ⟨.func, 1, 8, .nilf, false⟩ := TIOk.func Try.underlying155 (by kernel_rfl : Try.prog.info? 155 = some Try.t155) rfl rfl rfl
theorem tok156 : TIOk Try.prog 156 ⟨.func, 1, 8, .nilf, false⟩ := TIOk.func Try.underlying156 (by kernel_rfl : Try.prog.info? 156 = some Try.t156) rfl rfl rfl
theorem tok157 : TIOk Try.prog 157 ⟨.func, 1, 8, .nilf, false⟩ := TIOk.func Try.underlying157 (by kernel_rfl : Try.prog.info? 157 = some Try.t157) rfl rfl rfl
theorem tok158 : TIOk Try.prog 158 ⟨.func, 1, 8, .nilf, false⟩ := TIOk.func Try.underlying158 (by kernel_rfl : Try.prog.info? 158 = some Try.t158) rfl rfl rfl
theorem tok159 : TIOk Try.prog 159 ⟨.func, 1, 8, .nilf, false⟩ := TIOk.func Try.underlying159 (by kernel_rfl : Try.prog.info? 159 = some Try.t159) rfl rfl rfl
theorem tok160 : TIOk Try.prog 160 ⟨.func, 1, 8, .nilf, false⟩ := TIOk.func Try.underlying160 (by kernel_rfl : Try.prog.info? 160 = some Try.t160) rfl rfl rfl
theorem tok161 : TIOk Try.prog 161 ⟨.int .u32, 1, 4, .int .u32 0, false⟩ := TIOk.int Try.underlying161 (by kernel_rfl : Try.prog.info? 161 = some Try.t161) rfl rfl rfl
theorem tok162 : TIOk Try.prog 162 ⟨.func, 1, 8, .nilf, false⟩ := TIOk.func Try.underlying162 (by kernel_rfl : Try.prog.info? 162 = some Try.t162) rfl rfl rfl
theorem tok163 : TIOk Try.prog 163 ⟨.int .u64, 1, 8, .int .u64 0, false⟩ := TIOk.int Try.underlying163 (by kernel_rfl : Try.prog.info? 163 = some Try.t163) rfl rfl rfl
theorem tok164 : TIOk Try.prog 164 ⟨.func, 1, 8, .nilf, false⟩ := TIOk.func Try.underlying164 (by kernel_rfl : Try.prog.info? 164 = some Try.t164) rfl rfl rfl
theorem tok165 : TIOk Try.prog 165 ⟨.int .u64, 1, 8, .int .u64 0, false⟩ := TIOk.int Try.underlying165 (by kernel_rfl : Try.prog.info? 165 = some Try.t165) rfl rfl rfl
theorem tok166 : TIOk Try.prog 166 ⟨.func, 1, 8, .nilf, false⟩ := TIOk.func Try.underlying166 (by kernel_rfl : Try.prog.info? 166 = some Try.t166) rfl rfl rfl
theorem tok167 : TIOk Try.prog 167 ⟨.func, 1, 8, .nilf, false⟩ := TIOk.func Try.underlying167 (by kernel_rfl : Try.prog.info? 167 = some Try.t167) rfl rfl rfl
theorem tok168 : TIOk Try.prog 168 ⟨.func, 1, 8, .nilf, false⟩ := TIOk.func Try.underlying168 (by kernel_rfl : Try.prog.info? 168 = some Try.t168) rfl rfl rfl
theorem tok170 : TIOk Try.prog 170 ⟨.func, 1, 8, .nilf, false⟩ := TIOk.func Try.underlying170 (by kernel_rfl : Try.prog.info? 170 = some Try.t170) rfl rfl rfl
theorem tok173 : TIOk Try.prog 173 ⟨.func, 1, 8, .nilf, false⟩ := TIOk.func Try.underlying173 (by kernel_rfl : Try.prog.info? 173 = some Try.t173) rfl rfl rfl
theorem tok174 : TIOk Try.prog 174 ⟨.func, 1, 8, .nilf, false⟩ := TIOk.func Try.underlying174 (by kernel_rfl : Try.prog.info? 174 = some Try.t174) rfl rfl rfl
theorem tok180 : TIOk Try.prog 180 ⟨.func, 1, 8, .nilf, false⟩ := TIOk.func Try.underlying180 (by kernel_rfl : Try.prog.info? 180 = some Try.t180) rfl rfl rfl
theorem tok181 : TIOk Try.prog 181 ⟨.int .u8, 1, 1, .int .u8 0, false⟩ := TIOk.int Try.underlying181 (by kernel_rfl : Try.prog.info? 181 = some Try.t181) rfl rfl rfl
theorem tok182 : TIOk Try.prog 182 ⟨.int .u8, 1, 1, .int .u8 0, false⟩ := TIOk.int Try.underlying182 (by kernel_rfl : Try.prog.info? 182 = some Try.t182) rfl rfl rfl
theorem tok183 : TIOk Try.prog 183 ⟨.func, 1, 8, .nilf, false⟩ := TIOk.func Try.underlying183 (by kernel_rfl : Try.prog.info? 183 = some Try.t183) rfl rfl rfl
theorem tok185 : TIOk Try.prog 185 ⟨.int .i32, 1, 4, .int .i32 0, false⟩ := TIOk.int Try.underlying185 (by kernel_rfl : Try.prog.info? 185 = some Try.t185) rfl rfl rfl
theorem tok186 : TIOk Try.prog 186 ⟨.int .i32, 1, 4, .int .i32 0, false⟩ := TIOk.int Try.underlying186 (by kernel_rfl : Try.prog.info? 186 = some Try.t186) rfl rfl rfl
def tab : List (Nat × TI) := [
  (1, ⟨.func, 1, 8, .nilf, false⟩),
  (2, ⟨.int .i64, 1, 8, .int .i64 0, false⟩),
  (3, ⟨.int .i64, 1, 8, .int .i64 0, false⟩),
  (4, ⟨.bool, 1, 1, .bool false, false⟩),
  (5, ⟨.int .u8, 1, 1, .int .u8 0, false⟩),
  (6, ⟨.int .u8, 1, 1, .int .u8 0, false⟩),
  (9, ⟨.str, 1, 16, .str ⟨#[]⟩, false⟩),
  (10, ⟨.str, 1, 16, .str ⟨#[]⟩, false⟩),
  (11, ⟨.str, 1, 16, .str ⟨#[]⟩, false⟩),
  (12, ⟨.int .u64, 1, 8, .int .u64 0, false⟩),
  (21, ⟨.int .i32, 1, 4, .int .i32 0, false⟩),
  (22, ⟨.slice 64, 1, 24, .nils, false⟩),
  (23, ⟨.slice 95, 1, 24, .nils, false⟩),
  (24, ⟨.struct [(0, 22), (1, 23)], 2, 48, .agg [.nils, .nils], false⟩),
  (25, ⟨.struct [(0, 22), (1, 23)], 2, 48, .agg [.nils, .nils], false⟩),
  (26, ⟨.func, 1, 8, .nilf, false⟩),
  (27, ⟨.func, 1, 8, .nilf, false⟩),
  (28, ⟨.slice 97, 1, 24, .nils, false⟩),
  (29, ⟨.struct [(0, 22), (1, 28)], 2, 48, .agg [.nils, .nils], false⟩),
  (30, ⟨.struct [(0, 22), (1, 28)], 2, 48, .agg [.nils, .nils], false⟩),
  (31, ⟨.func, 1, 8, .nilf, false⟩),
  (32, ⟨.func, 1, 8, .nilf, false⟩),
  (33, ⟨.slice 78, 1, 24, .nils, false⟩),
  (34, ⟨.func, 1, 8, .nilf, false⟩),
  (35, ⟨.func, 1, 8, .nilf, false⟩),
  (36, ⟨.slice 76, 1, 24, .nils, false⟩),
  (37, ⟨.func, 1, 8, .nilf, false⟩),
  (38, ⟨.func, 1, 8, .nilf, false⟩),
  (39, ⟨.func, 1, 8, .nilf, false⟩),
  (40, ⟨.slice 2, 1, 24, .nils, false⟩),
  (42, ⟨.struct [(0, 2), (1, 40)], 2, 32, .agg [.int .i64 0, .nils], false⟩),
  (43, ⟨.func, 1, 8, .nilf, false⟩),
  (44, ⟨.func, 1, 8, .nilf, false⟩),
  (45, ⟨.func, 1, 8, .nilf, false⟩),
  (46, ⟨.func, 1, 8, .nilf, false⟩),
  (47, ⟨.slice 123, 1, 24, .nils, false⟩),
  (48, ⟨.struct [(0, 2), (1, 47)], 2, 32, .agg [.int .i64 0, .nils], false⟩),
  (49, ⟨.struct [(0, 2), (1, 47)], 2, 32, .agg [.int .i64 0, .nils], false⟩),
  (50, ⟨.func, 1, 8, .nilf, false⟩),
  (51, ⟨.func, 1, 8, .nilf, false⟩),
  (52, ⟨.func, 1, 8, .nilf, false⟩),
  (53, ⟨.func, 1, 8, .nilf, false⟩),
  (54, ⟨.func, 1, 8, .nilf, false⟩),
  (55, ⟨.func, 1, 8, .nilf, false⟩),
  (56, ⟨.func, 1, 8, .nilf, false⟩),
  (57, ⟨.struct [(0, 2), (1, 2), (2, 47)], 3, 40, .agg [.int .i64 0, .int .i64 0, .nils], false⟩),
  (58, ⟨.struct [(0, 2), (1, 2), (2, 47)], 3, 40, .agg [.int .i64 0, .int .i64 0, .nils], false⟩),
  (59, ⟨.struct [(0, 2), (1, 58)], 4, 48, .agg [.int .i64 0, .int .i64 0, .int .i64 0, .nils], false⟩),
  (60, ⟨.struct [(0, 2), (1, 58)], 4, 48, .agg [.int .i64 0, .int .i64 0, .int .i64 0, .nils], false⟩),
  (61, ⟨.func, 1, 8, .nilf, false⟩),
  (62, ⟨.func, 1, 8, .nilf, false⟩),
  (64, ⟨.slice 5, 1, 24, .nils, false⟩),
  (65, ⟨.func, 1, 8, .nilf, false⟩),
  (66, ⟨.func, 1, 8, .nilf, false⟩),
  (67, ⟨.func, 1, 8, .nilf, false⟩),
  (68, ⟨.func, 1, 8, .nilf, false⟩),
  (69, ⟨.func, 1, 8, .nilf, false⟩),
  (70, ⟨.func, 1, 8, .nilf, false⟩),
  (71, ⟨.func, 1, 8, .nilf, false⟩),
  (72, ⟨.func, 1, 8, .nilf, false⟩),
  (73, ⟨.func, 1, 8, .nilf, false⟩),
  (74, ⟨.func, 1, 8, .nilf, false⟩),
  (76, ⟨.struct [(0, 2), (1, 2), (2, 2), (3, 4), (4, 2), (5, 4), (6, 2), (7, 2)], 8, 64, .agg [.int .i64 0, .int .i64 0, .int .i64 0, .bool false, .int .i64 0, .bool false, .int .i64 0, .int .i64 0], true⟩),
  (77, ⟨.func, 1, 8, .nilf, false⟩),
  (78, ⟨.struct [(0, 2), (1, 2), (2, 2), (3, 4), (4, 2), (5, 4), (6, 2), (7, 2)], 8, 64, .agg [.int .i64 0, .int .i64 0, .int .i64 0, .bool false, .int .i64 0, .bool false, .int .i64 0, .int .i64 0], true⟩),
  (79, ⟨.func, 1, 8, .nilf, false⟩),
  (80, ⟨.func, 1, 8, .nilf, false⟩),
  (81, ⟨.func, 1, 8, .nilf, false⟩),
  (82, ⟨.func, 1, 8, .nilf, false⟩),
  (83, ⟨.func, 1, 8, .nilf, false⟩),
  (84, ⟨.func, 1, 8, .nilf, false⟩),
  (85, ⟨.func, 1, 8, .nilf, false⟩),
  (86, ⟨.func, 1, 8, .nilf, false⟩),
  (87, ⟨.func, 1, 8, .nilf, false⟩),
  (88, ⟨.func, 1, 8, .nilf, false⟩),
  (89, ⟨.func, 1, 8, .nilf, false⟩),
  (90, ⟨.func, 1, 8, .nilf, false⟩),
  (91, ⟨.func, 1, 8, .nilf, false⟩),
  (92, ⟨.func, 1, 8, .nilf, false⟩),
  (93, ⟨.func, 1, 8, .nilf, false⟩),
  (95, ⟨.struct [(0, 2), (1, 2), (2, 64)], 3, 40, .agg [.int .i64 0, .int .i64 0, .nils], false⟩),
  (96, ⟨.func, 1, 8, .nilf, false⟩),
  (97, ⟨.struct [(0, 2), (1, 2), (2, 64)], 3, 40, .agg [.int .i64 0, .int .i64 0, .nils], false⟩),
  (98, ⟨.func, 1, 8, .nilf, false⟩),
  (99, ⟨.func, 1, 8, .nilf, false⟩),
  (100, ⟨.func, 1, 8, .nilf, false⟩),
  (101, ⟨.func, 1, 8, .nilf, false⟩),
  (102, ⟨.func, 1, 8, .nilf, false⟩),
  (103, ⟨.func, 1, 8, .nilf, false⟩),
  (104, ⟨.func, 1, 8, .nilf, false⟩),
  (105, ⟨.func, 1, 8, .nilf, false⟩),
  (106, ⟨.slice 140, 1, 24, .nils, false⟩),
  (107, ⟨.struct [(0, 47), (1, 40), (2, 40), (3, 40), (4, 106)], 5, 120, .agg [.nils, .nils, .nils, .nils, .nils], false⟩),
  (108, ⟨.struct [(0, 47), (1, 40), (2, 40), (3, 40), (4, 106)], 5, 120, .agg [.nils, .nils, .nils, .nils, .nils], false⟩),
  (109, ⟨.func, 1, 8, .nilf, false⟩),
  (111, ⟨.func, 1, 8, .nilf, false⟩),
  (112, ⟨.func, 1, 8, .nilf, false⟩),
  (113, ⟨.func, 1, 8, .nilf, false⟩),
  (114, ⟨.func, 1, 8, .nilf, false⟩),
  (115, ⟨.func, 1, 8, .nilf, false⟩),
  (116, ⟨.func, 1, 8, .nilf, false⟩),
  (118, ⟨.struct [(0, 2), (1, 2)], 2, 16, .agg [.int .i64 0, .int .i64 0], true⟩),
  (119, ⟨.func, 1, 8, .nilf, false⟩),
  (120, ⟨.func, 1, 8, .nilf, false⟩),
  (121, ⟨.func, 1, 8, .nilf, false⟩),
  (123, ⟨.struct [(0, 2), (1, 2)], 2, 16, .agg [.int .i64 0, .int .i64 0], true⟩),
  (125, ⟨.func, 1, 8, .nilf, false⟩),
  (126, ⟨.func, 1, 8, .nilf, false⟩),
  (127, ⟨.func, 1, 8, .nilf, false⟩),
  (128, ⟨.func, 1, 8, .nilf, false⟩),
  (129, ⟨.func, 1, 8, .nilf, false⟩),
  (130, ⟨.func, 1, 8, .nilf, false⟩),
  (131, ⟨.func, 1, 8, .nilf, false⟩),
  (132, ⟨.func, 1, 8, .nilf, false⟩),
  (133, ⟨.func, 1, 8, .nilf, false⟩),
  (134, ⟨.func, 1, 8, .nilf, false⟩),
  (135, ⟨.func, 1, 8, .nilf, false⟩),
  (136, ⟨.func, 1, 8, .nilf, false⟩),
  (137, ⟨.func, 1, 8, .nilf, false⟩),
  (138, ⟨.func, 1, 8, .nilf, false⟩),
  (140, ⟨.struct [(0, 2), (1, 2)], 2, 16, .agg [.int .i64 0, .int .i64 0], true⟩),
  (141, ⟨.func, 1, 8, .nilf, false⟩),
  (142, ⟨.func, 1, 8, .nilf, false⟩),
  (143, ⟨.func, 1, 8, .nilf, false⟩),
  (144, ⟨.func, 1, 8, .nilf, false⟩),
  (145, ⟨.func, 1, 8, .nilf, false⟩),
  (146, ⟨.func, 1, 8, .nilf, false⟩),
  (147, ⟨.int .u64, 1, 8, .int .u64 0, false⟩),
  (148, ⟨.func, 1, 8, .nilf, false⟩),
  (149, ⟨.func, 1, 8, .nilf, false⟩),
  (150, ⟨.func, 1, 8, .nilf, false⟩),
  (151, ⟨.func, 1, 8, .nilf, false⟩),
  (152, ⟨.func, 1, 8, .nilf, false⟩),
  (153, ⟨.int .i64, 1, 8, .int .i64 0, false⟩),
  (155, ⟨.func, 1, 8, .nilf, false⟩),
  (156, ⟨.func, 1, 8, .nilf, false⟩),
  (157, ⟨.func, 1, 8, .nilf, false⟩),
  (158, ⟨.func, 1, 8, .nilf, false⟩),
  (159, ⟨.func, 1, 8, .nilf, false⟩),
  (160, ⟨.func, 1, 8, .nilf, false⟩),
  (161, ⟨.int .u32, 1, 4, .int .u32 0, false⟩),
  (162, ⟨.func, 1, 8, .nilf, false⟩),
  (163, ⟨.int .u64, 1, 8, .int .u64 0, false⟩),
  (164, ⟨.func, 1, 8, .nilf, false⟩),
  (165, ⟨.int .u64, 1, 8, .int .u64 0, false⟩),
  (166, ⟨.func, 1, 8, .nilf, false⟩),
  (167, ⟨.func, 1, 8, .nilf, false⟩),
  (168, ⟨.func, 1, 8, .nilf, false⟩),
  (170, ⟨.func, 1, 8, .nilf, false⟩),
  (173, ⟨.func, 1, 8, .nilf, false⟩),
  (174, ⟨.func, 1, 8, .nilf, false⟩),
  (180, ⟨.func, 1, 8, .nilf, false⟩),
  (181, ⟨.int .u8, 1, 1, .int .u8 0, false⟩),
  (182, ⟨.int .u8, 1, 1, .int .u8 0, false⟩),
  (183, ⟨.func, 1, 8, .nilf, false⟩),
  (185, ⟨.int .i32, 1, 4, .int .i32 0, false⟩),
  (186, ⟨.int .i32, 1, 4, .int .i32 0, false⟩)]
def T : TE := lookT tab
theorem hT : TEOk Try.prog T := TEOk.of_tab tab (by
  intro p hp
  simp only [tab, List.mem_cons, List.not_mem_nil, or_false] at hp
  rcases hp with rfl | rfl | rfl | rfl | rfl | rfl | rfl | rfl | rfl | rfl | rfl | rfl | rfl | rfl | rfl | rfl | rfl | rfl | rfl | rfl | rfl | rfl | rfl | rfl | rfl | rfl | rfl | rfl | rfl | rfl | rfl | rfl | rfl | rfl | rfl | rfl | rfl | rfl | rfl | rfl | rfl | rfl | rfl | rfl | rfl | rfl | rfl | rfl | rfl | rfl | rfl | rfl | rfl | rfl | rfl | rfl | rfl | rfl | rfl | rfl | rfl | rfl | rfl | rfl | rfl | rfl | rfl | rfl | rfl | rfl | rfl | rfl | rfl | rfl | rfl | rfl | rfl | rfl | rfl | rfl | rfl | rfl | rfl | rfl | rfl | rfl | rfl | rfl | rfl | rfl | rfl | rfl | rfl | rfl | rfl | rfl | rfl | rfl | rfl | rfl | rfl | rfl | rfl | rfl | rfl | rfl | rfl | rfl | rfl | rfl | rfl | rfl | rfl | rfl | rfl | rfl | rfl | rfl | rfl | rfl | rfl | rfl | rfl | rfl | rfl | rfl | rfl | rfl | rfl | rfl | rfl | rfl | rfl | rfl | rfl | rfl | rfl | rfl | rfl | rfl | rfl | rfl | rfl | rfl | rfl | rfl | rfl | rfl | rfl | rfl | rfl | rfl | rfl | rfl | rfl | rfl | rfl
  · exact tok1
  · exact tok2
  · exact tok3
  · exact tok4
  · exact tok5
  · exact tok6
  · exact tok9
  · exact tok10
  · exact tok11
  · exact tok12
  · exact tok21
  · exact tok22
  · exact tok23
  · exact tok24
  · exact tok25
  · exact tok26
  · exact tok27
  · exact tok28
  · exact tok29
  · exact tok30
  · exact tok31
  · exact tok32
  · exact tok33
  · exact tok34
  · exact tok35
  · exact tok36
  · exact tok37
  · exact tok38
  · exact tok39
  · exact tok40
  · exact tok42
  · exact tok43
  · exact tok44
  · exact tok45
  · exact tok46
  · exact tok47
  · exact tok48
  · exact tok49
  · exact tok50
  · exact tok51
  · exact tok52
  · exact tok53
  · exact tok54
  · exact tok55
  · exact tok56
  · exact tok57
  · exact tok58
  · exact tok59
  · exact tok60
  · exact tok61
  · exact tok62
  · exact tok64
  · exact tok65
  · exact tok66
  · exact tok67
  · exact tok68
  · exact tok69
  · exact tok70
  · exact tok71
  · exact tok72
  · exact tok73
  · exact tok74
  · exact tok76
  · exact tok77
  · exact tok78
  · exact tok79
  · exact tok80
  · exact tok81
  · exact tok82
  · exact tok83
  · exact tok84
  · exact tok85
  · exact tok86
  · exact tok87
  · exact tok88
  · exact tok89
  · exact tok90
  · exact tok91
  · exact tok92
  · exact tok93
  · exact tok95
  · exact tok96
  · exact tok97
  · exact tok98
  · exact tok99
  · exact tok100
  · exact tok101
  · exact tok102
  · exact tok103
  · exact tok104
  · exact tok105
  · exact tok106
  · exact tok107
  · exact tok108
  · exact tok109
  · exact tok111
  · exact tok112
  · exact tok113
  · exact tok114
  · exact tok115
  · exact tok116
  · exact tok118
  · exact tok119
  · exact tok120
  · exact tok121
  · exact tok123
  · exact tok125
  · exact tok126
  · exact tok127
  · exact tok128
  · exact tok129
  · exact tok130
  · exact tok131
  · exact tok132
  · exact tok133
  · exact tok134
  · exact tok135
  · exact tok136
  · exact tok137
  · exact tok138
  · exact tok140
  · exact tok141
  · exact tok142
  · exact tok143
  · exact tok144
  · exact tok145
  · exact tok146
  · exact tok147
  · exact tok148
  · exact tok149
  · exact tok150
  · exact tok151
  · exact tok152
  · exact tok153
  · exact tok155
  · exact tok156
  · exact tok157
  · exact tok158
  · exact tok159
  · exact tok160
  · exact tok161
  · exact tok162
  · exact tok163
  · exact tok164
  · exact tok165
  · exact tok166
  · exact tok167
  · exact tok168
  · exact tok170
  · exact tok173
  · exact tok174
  · exact tok180
  · exact tok181
  · exact tok182
  · exact tok183
  · exact tok185
  · exact tok186)
theorem T_1 : T 1 = ⟨.func, 1, 8, .nilf, false⟩ := rfl
theorem T_2 : T 2 = ⟨.int .i64, 1, 8, .int .i64 0, false⟩ := rfl
theorem T_3 : T 3 = ⟨.int .i64, 1, 8, .int .i64 0, false⟩ := rfl
theorem T_4 : T 4 = ⟨.bool, 1, 1, .bool false, false⟩ := rfl
theorem T_5 : T 5 = ⟨.int .u8, 1, 1, .int .u8 0, false⟩ := rfl
theorem T_6 : T 6 = ⟨.int .u8, 1, 1, .int .u8 0, false⟩ := rfl
theorem T_9 : T 9 = ⟨.str, 1, 16, .str ⟨#[]⟩, false⟩ := rfl
theorem T_10 : T 10 = ⟨.str, 1, 16, .str ⟨#[]⟩, false⟩ := rfl
theorem T_11 : T 11 = ⟨.str, 1, 16, .str ⟨#[]⟩, false⟩ := rfl
theorem T_12 : T 12 = ⟨.int .u64, 1, 8, .int .u64 0, false⟩ := rfl
theorem T_21 : T 21 = ⟨.int .i32, 1, 4, .int .i32 0, false⟩ := rfl
theorem T_22 : T 22 = ⟨.slice 64, 1, 24, .nils, false⟩ := rfl
theorem T_23 : T 23 = ⟨.slice 95, 1, 24, .nils, false⟩ := rfl
theorem T_24 : T 24 = ⟨.struct [(0, 22), (1, 23)], 2, 48, .agg [.nils, .nils], false⟩ := rfl
theorem T_25 : T 25 = ⟨.struct [(0, 22), (1, 23)], 2, 48, .agg [.nils, .nils], false⟩ := rfl
theorem T_26 : T 26 = ⟨.func, 1, 8, .nilf, false⟩ := rfl
theorem T_27 : T 27 = ⟨.func, 1, 8, .nilf, false⟩ := rfl
theorem T_28 : T 28 = ⟨.slice 97, 1, 24, .nils, false⟩ := rfl
theorem T_29 : T 29 = ⟨.struct [(0, 22), (1, 28)], 2, 48, .agg [.nils, .nils], false⟩ := rfl
theorem T_30 : T 30 = ⟨.struct [(0, 22), (1, 28)], 2, 48, .agg [.nils, .nils], false⟩ := rfl
theorem T_31 : T 31 = ⟨.func, 1, 8, .nilf, false⟩ := rfl
theorem T_32 : T 32 = ⟨.func, 1, 8, .nilf, false⟩ := rfl
theorem T_33 : T 33 = ⟨.slice 78, 1, 24, .nils, false⟩ := rfl
theorem T_34 : T 34 = ⟨.func, 1, 8, .nilf, false⟩ := rfl
theorem T_35 : T 35 = ⟨.func, 1, 8, .nilf, false⟩ := rfl
theorem T_36 : T 36 = ⟨.slice 76, 1, 24, .nils, false⟩ := rfl
theorem T_37 : T 37 = ⟨.func, 1, 8, .nilf, false⟩ := rfl
theorem T_38 : T 38 = ⟨.func, 1, 8, .nilf, false⟩ := rfl
theorem T_39 : T 39 = ⟨.func, 1, 8, .nilf, false⟩ := rfl
theorem T_40 : T 40 = ⟨.slice 2, 1, 24, .nils, false⟩ := rfl
theorem T_42 : T 42 = ⟨.struct [(0, 2), (1, 40)], 2, 32, .agg [.int .i64 0, .nils], false⟩ := rfl
theorem T_43 : T 43 = ⟨.func, 1, 8, .nilf, false⟩ := rfl
theorem T_44 : T 44 = ⟨.func, 1, 8, .nilf, false⟩ := rfl
theorem T_45 : T 45 = ⟨.func, 1, 8, .nilf, false⟩ := rfl
theorem T_46 : T 46 = ⟨.func, 1, 8, .nilf, false⟩ := rfl
theorem T_47 : T 47 = ⟨.slice 123, 1, 24, .nils, false⟩ := rfl
theorem T_48 : T 48 = ⟨.struct [(0, 2), (1, 47)], 2, 32, .agg [.int .i64 0, .nils], false⟩ := rfl
theorem T_49 : T 49 = ⟨.struct [(0, 2), (1, 47)], 2, 32, .agg [.int .i64 0, .nils], false⟩ := rfl
theorem T_50 : T 50 = ⟨.func, 1, 8, .nilf, false⟩ := rfl
theorem T_51 : T 51 = ⟨.func, 1, 8, .nilf, false⟩ := rfl
theorem T_52 : T 52 = ⟨.func, 1, 8, .nilf, false⟩ := rfl
theorem T_53 : T 53 = ⟨.func, 1, 8, .nilf, false⟩ := rfl
theorem T_54 : T 54 = ⟨.func, 1, 8, .nilf, false⟩ := rfl
theorem T_55 : T 55 = ⟨.func, 1, 8, .nilf, false⟩ := rfl
theorem T_56 : T 56 = ⟨.func, 1, 8, .nilf, false⟩ := rfl
theorem T_57 : T 57 = ⟨.struct [(0, 2), (1, 2), (2, 47)], 3, 40, .agg [.int .i64 0, .int .i64 0, .nils], false⟩ := rfl
theorem T_58 : T 58 = ⟨.struct [(0, 2), (1, 2), (2, 47)], 3, 40, .agg [.int .i64 0, .int .i64 0, .nils], false⟩ := rfl
theorem T_59 : T 59 = ⟨.struct [(0, 2), (1, 58)], 4, 48, .agg [.int .i64 0, .int .i64 0, .int .i64 0, .nils], false⟩ := rfl
theorem T_60 : T 60 = ⟨.struct [(0, 2), (1, 58)], 4, 48, .agg [.int .i64 0, .int .i64 0, .int .i64 0, .nils], false⟩ := rfl
theorem T_61 : T 61 = ⟨.func, 1, 8, .nilf, false⟩ := rfl
theorem T_62 : T 62 = ⟨.func, 1, 8, .nilf, false⟩ := rfl
theorem T_64 : T 64 = ⟨.slice 5, 1, 24, .nils, false⟩ := rfl
theorem T_65 : T 65 = ⟨.func, 1, 8, .nilf, false⟩ := rfl
theorem T_66 : T 66 = ⟨.func, 1, 8, .nilf, false⟩ := rfl
theorem T_67 : T 67 = ⟨.func, 1, 8, .nilf, false⟩ := rfl
theorem T_68 : T 68 = ⟨.func, 1, 8, .nilf, false⟩ := rfl
theorem T_69 : T 69 = ⟨.func, 1, 8, .nilf, false⟩ := rfl
theorem T_70 : T 70 = ⟨.func, 1, 8, .nilf, false⟩ := rfl
theorem T_71 : T 71 = ⟨.func, 1, 8, .nilf, false⟩ := rfl
theorem T_72 : T 72 = ⟨.func, 1, 8, .nilf, false⟩ := rfl
theorem T_73 : T 73 = ⟨.func, 1, 8, .nilf, false⟩ := rfl
theorem T_74 : T 74 = ⟨.func, 1, 8, .nilf, false⟩ := rfl
theorem T_76 : T 76 = ⟨.struct [(0, 2), (1, 2), (2, 2), (3, 4), (4, 2), (5, 4), (6, 2), (7, 2)], 8, 64, .agg [.int .i64 0, .int .i64 0, .int .i64 0, .bool false, .int .i64 0, .bool false, .int .i64 0, .int .i64 0], true⟩ := rfl
theorem T_77 : T 77 = ⟨.func, 1, 8, .nilf, false⟩ := rfl
theorem T_78 : T 78 = ⟨.struct [(0, 2), (1, 2), (2, 2), (3, 4), (4, 2), (5, 4), (6, 2), (7, 2)], 8, 64, .agg [.int .i64 0, .int .i64 0, .int .i64 0, .bool false, .int .i64 0, .bool false, .int .i64 0, .int .i64 0], true⟩ := rfl
theorem T_79 : T 79 = ⟨.func, 1, 8, .nilf, false⟩ := rfl
theorem T_80 : T 80 = ⟨.func, 1, 8, .nilf, false⟩ := rfl
theorem T_81 : T 81 = ⟨.func, 1, 8, .nilf, false⟩ := rfl
theorem T_82 : T 82 = ⟨.func, 1, 8, .nilf, false⟩ := rfl
theorem T_83 : T 83 = ⟨.func, 1, 8, .nilf, false⟩ := rfl
theorem T_84 : T 84 = ⟨.func, 1, 8, .nilf, false⟩ := rfl
theorem T_85 : T 85 = ⟨.func, 1, 8, .nilf, false⟩ := rfl
theorem T_86 : T 86 = ⟨.func, 1, 8, .nilf, false⟩ := rfl
theorem T_87 : T 87 = ⟨.func, 1, 8, .nilf, false⟩ := rfl
theorem T_88 : T 88 = ⟨.func, 1, 8, .nilf, false⟩ := rfl
theorem T_89 : T 89 = ⟨.func, 1, 8, .nilf, false⟩ := rfl
theorem T_90 : T 90 = ⟨.func, 1, 8, .nilf, false⟩ := rfl
theorem T_91 : T 91 = ⟨.func, 1, 8, .nilf, false⟩ := rfl
theorem T_92 : T 92 = ⟨.func, 1, 8, .nilf, false⟩ := rfl
theorem T_93 : T 93 = ⟨.func, 1, 8, .nilf, false⟩ := rfl
theorem T_95 : T 95 = ⟨.struct [(0, 2), (1, 2), (2, 64)], 3, 40, .agg [.int .i64 0, .int .i64 0, .nils], false⟩ := rfl
theorem T_96 : T 96 = ⟨.func, 1, 8, .nilf, false⟩ := rfl
theorem T_97 : T 97 = ⟨.struct [(0, 2), (1, 2), (2, 64)], 3, 40, .agg [.int .i64 0, .int .i64 0, .nils], false⟩ := rfl
theorem T_98 : T 98 = ⟨.func, 1, 8, .nilf, false⟩ := rfl
theorem T_99 : T 99 = ⟨.func, 1, 8, .nilf, false⟩ := rfl
theorem T_100 : T 100 = ⟨.func, 1, 8, .nilf, false⟩ := rfl
theorem T_101 : T 101 = ⟨.func, 1, 8, .nilf, false⟩ := rfl
theorem T_102 : T 102 = ⟨.func, 1, 8, .nilf, false⟩ := rfl
theorem T_103 : T 103 = ⟨.func, 1, 8, .nilf, false⟩ := rfl
theorem T_104 : T 104 = ⟨.func, 1, 8, .nilf, false⟩ := rfl
theorem T_105 : T 105 = ⟨.func, 1, 8, .nilf, false⟩ := rfl
theorem T_106 : T 106 = ⟨.slice 140, 1, 24, .nils, false⟩ := rfl
theorem T_107 : T 107 = ⟨.struct [(0, 47), (1, 40), (2, 40), (3, 40), (4, 106)], 5, 120, .agg [.nils, .nils, .nils, .nils, .nils], false⟩ := rfl
theorem T_108 : T 108 = ⟨.struct [(0, 47), (1, 40), (2, 40), (3, 40), (4, 106)], 5, 120, .agg [.nils, .nils, .nils, .nils, .nils], false⟩ := rfl
theorem T_109 : T 109 = ⟨.func, 1, 8, .nilf, false⟩ := rfl
theorem T_111 : T 111 = ⟨.func, 1, 8, .nilf, false⟩ := rfl
theorem T_112 : T 112 = ⟨.func, 1, 8, .nilf, false⟩ := rfl
theorem T_113 : T 113 = ⟨.func, 1, 8, .nilf, false⟩ := rfl
theorem T_114 : T 114 = ⟨.func, 1, 8, .nilf, false⟩ := rfl
theorem T_115 : T 115 = ⟨.func, 1, 8, .nilf, false⟩ := rfl
theorem T_116 : T 116 = ⟨.func, 1, 8, .nilf, false⟩ := rfl
theorem T_118 : T 118 = ⟨.struct [(0, 2), (1, 2)], 2, 16, .agg [.int .i64 0, .int .i64 0], true⟩ := rfl
theorem T_119 : T 119 = ⟨.func, 1, 8, .nilf, false⟩ := rfl
theorem T_120 : T 120 = ⟨.func, 1, 8, .nilf, false⟩ := rfl
theorem T_121 : T 121 = ⟨.func, 1, 8, .nilf, false⟩ := rfl
theorem T_123 : T 123 = ⟨.struct [(0, 2), (1, 2)], 2, 16, .agg [.int .i64 0, .int .i64 0], true⟩ := rfl
theorem T_125 : T 125 = ⟨.func, 1, 8, .nilf, false⟩ := rfl
theorem T_126 : T 126 = ⟨.func, 1, 8, .nilf, false⟩ := rfl
theorem T_127 : T 127 = ⟨.func, 1, 8, .nilf, false⟩ := rfl
theorem T_128 : T 128 = ⟨.func, 1, 8, .nilf, false⟩ := rfl
theorem T_129 : T 129 = ⟨.func, 1, 8, .nilf, false⟩ := rfl
theorem T_130 : T 130 = ⟨.func, 1, 8, .nilf, false⟩ := rfl
theorem T_131 : T 131 = ⟨.func, 1, 8, .nilf, false⟩ := rfl
theorem T_132 : T 132 = ⟨.func, 1, 8, .nilf, false⟩ := rfl
theorem T_133 : T 133 = ⟨.func, 1, 8, .nilf, false⟩ := rfl
theorem T_134 : T 134 = ⟨.func, 1, 8, .nilf, false⟩ := rfl
theorem T_135 : T 135 = ⟨.func, 1, 8, .nilf, false⟩ := rfl
theorem T_136 : T 136 = ⟨.func, 1, 8, .nilf, false⟩ := rfl
theorem T_137 : T 137 = ⟨.func, 1, 8, .nilf, false⟩ := rfl
theorem T_138 : T 138 = ⟨.func, 1, 8, .nilf, false⟩ := rfl
theorem T_140 : T 140 = ⟨.struct [(0, 2), (1, 2)], 2, 16, .agg [.int .i64 0, .int .i64 0], true⟩ := rfl
theorem T_141 : T 141 = ⟨.func, 1, 8, .nilf, false⟩ := rfl
theorem T_142 : T 142 = ⟨.func, 1, 8, .nilf, false⟩ := rfl
theorem T_143 : T 143 = ⟨.func, 1, 8, .nilf, false⟩ := rfl
theorem T_144 : T 144 = ⟨.func, 1, 8, .nilf, false⟩ := rfl
theorem T_145 : T 145 = ⟨.func, 1, 8, .nilf, false⟩ := rfl
theorem T_146 : T 146 = ⟨.func, 1, 8, .nilf, false⟩ := rfl
theorem T_147 : T 147 = ⟨.int .u64, 1, 8, .int .u64 0, false⟩ := rfl
theorem T_148 : T 148 = ⟨.func, 1, 8, .nilf, false⟩ := rfl
theorem T_149 : T 149 = ⟨.func, 1, 8, .nilf, false⟩ := rfl
theorem T_150 : T 150 = ⟨.func, 1, 8, .nilf, false⟩ := rfl
theorem T_151 : T 151 = ⟨.func, 1, 8, .nilf, false⟩ := rfl
theorem T_152 : T 152 = ⟨.func, 1, 8, .nilf, false⟩ := rfl
theorem T_153 : T 153 = ⟨.int .i64, 1, 8, .int .i64 0, false⟩ := rfl
theorem T_155 : T 155 = ⟨.func, 1, 8, .nilf, false⟩ := rfl
theorem T_156 : T 156 = ⟨.func, 1, 8, .nilf, false⟩ := rfl
theorem T_157 : T 157 = ⟨.func, 1, 8, .nilf, false⟩ := rfl
theorem T_158 : T 158 = ⟨.func, 1, 8, .nilf, false⟩ := rfl
theorem T_159 : T 159 = ⟨.func, 1, 8, .nilf, false⟩ := rfl
theorem T_160 : T 160 = ⟨.func, 1, 8, .nilf, false⟩ := rfl
theorem T_161 : T 161 = ⟨.int .u32, 1, 4, .int .u32 0, false⟩ := rfl
theorem T_162 : T 162 = ⟨.func, 1, 8, .nilf, false⟩ := rfl
theorem T_163 : T 163 = ⟨.int .u64, 1, 8, .int .u64 0, false⟩ := rfl
theorem T_164 : T 164 = ⟨.func, 1, 8, .nilf, false⟩ := rfl
theorem T_165 : T 165 = ⟨.int .u64, 1, 8, .int .u64 0, false⟩ := rfl
theorem T_166 : T 166 = ⟨.func, 1, 8, .nilf, false⟩ := rfl
theorem T_167 : T 167 = ⟨.func, 1, 8, .nilf, false⟩ := rfl
theorem T_168 : T 168 = ⟨.func, 1, 8, .nilf, false⟩ := rfl
theorem T_170 : T 170 = ⟨.func, 1, 8, .nilf, false⟩ := rfl
theorem T_173 : T 173 = ⟨.func, 1, 8, .nilf, false⟩ := rfl
theorem T_174 : T 174 = ⟨.func, 1, 8, .nilf, false⟩ := rfl
theorem T_180 : T 180 = ⟨.func, 1, 8, .nilf, false⟩ := rfl
theorem T_181 : T 181 = ⟨.int .u8, 1, 1, .int .u8 0, false⟩ := rfl
theorem T_182 : T 182 = ⟨.int .u8, 1, 1, .int .u8 0, false⟩ := rfl
theorem T_183 : T 183 = ⟨.func, 1, 8, .nilf, false⟩ := rfl
theorem T_185 : T 185 = ⟨.int .i32, 1, 4, .int .i32 0, false⟩ := rfl
theorem T_186 : T 186 = ⟨.int .i32, 1, 4, .int .i32 0, false⟩ := rfl
theorem pt_1 (off : Nat) (e : AV) : part T 1 off e = e.cells[off]? := rfl
theorem pt_2 (off : Nat) (e : AV) : part T 2 off e = e.cells[off]? := rfl
theorem pt_3 (off : Nat) (e : AV) : part T 3 off e = e.cells[off]? := rfl
theorem pt_4 (off : Nat) (e : AV) : part T 4 off e = e.cells[off]? := rfl
theorem pt_5 (off : Nat) (e : AV) : part T 5 off e = e.cells[off]? := rfl
theorem pt_6 (off : Nat) (e : AV) : part T 6 off e = e.cells[off]? := rfl
theorem pt_9 (off : Nat) (e : AV) : part T 9 off e = e.cells[off]? := rfl
theorem pt_10 (off : Nat) (e : AV) : part T 10 off e = e.cells[off]? := rfl
theorem pt_11 (off : Nat) (e : AV) : part T 11 off e = e.cells[off]? := rfl
theorem pt_12 (off : Nat) (e : AV) : part T 12 off e = e.cells[off]? := rfl
theorem pt_21 (off : Nat) (e : AV) : part T 21 off e = e.cells[off]? := rfl
theorem pt_22 (off : Nat) (e : AV) : part T 22 off e = e.cells[off]? := rfl
theorem pt_23 (off : Nat) (e : AV) : part T 23 off e = e.cells[off]? := rfl
theorem pt_24 (off : Nat) (e : AV) : part T 24 off e = if off + (T 24).sz ≤ e.cells.length then some (.agg ((e.cells.drop off).take (T 24).sz)) else none := rfl
theorem pt_25 (off : Nat) (e : AV) : part T 25 off e = if off + (T 25).sz ≤ e.cells.length then some (.agg ((e.cells.drop off).take (T 25).sz)) else none := rfl
theorem pt_26 (off : Nat) (e : AV) : part T 26 off e = e.cells[off]? := rfl
theorem pt_27 (off : Nat) (e : AV) : part T 27 off e = e.cells[off]? := rfl
theorem pt_28 (off : Nat) (e : AV) : part T 28 off e = e.cells[off]? := rfl
theorem pt_29 (off : Nat) (e : AV) : part T 29 off e = if off + (T 29).sz ≤ e.cells.length then some (.agg ((e.cells.drop off).take (T 29).sz)) else none := rfl
theorem pt_30 (off : Nat) (e : AV) : part T 30 off e = if off + (T 30).sz ≤ e.cells.length then some (.agg ((e.cells.drop off).take (T 30).sz)) else none := rfl
theorem pt_31 (off : Nat) (e : AV) : part T 31 off e = e.cells[off]? := rfl
theorem pt_32 (off : Nat) (e : AV) : part T 32 off e = e.cells[off]? := rfl
theorem pt_33 (off : Nat) (e : AV) : part T 33 off e = e.cells[off]? := rfl
theorem pt_34 (off : Nat) (e : AV) : part T 34 off e = e.cells[off]? := rfl
theorem pt_35 (off : Nat) (e : AV) : part T 35 off e = e.cells[off]? := rfl
theorem pt_36 (off : Nat) (e : AV) : part T 36 off e = e.cells[off]? := rfl
theorem pt_37 (off : Nat) (e : AV) : part T 37 off e = e.cells[off]? := rfl
theorem pt_38 (off : Nat) (e : AV) : part T 38 off e = e.cells[off]? := rfl
theorem pt_39 (off : Nat) (e : AV) : part T 39 off e = e.cells[off]? := rfl
theorem pt_40 (off : Nat) (e : AV) : part T 40 off e = e.cells[off]? := rfl
theorem pt_42 (off : Nat) (e : AV) : part T 42 off e = if off + (T 42).sz ≤ e.cells.length then some (.agg ((e.cells.drop off).take (T 42).sz)) else none := rfl
theorem pt_43 (off : Nat) (e : AV) : part T 43 off e = e.cells[off]? := rfl
theorem pt_44 (off : Nat) (e : AV) : part T 44 off e = e.cells[off]? := rfl
theorem pt_45 (off : Nat) (e : AV) : part T 45 off e = e.cells[off]? := rfl
theorem pt_46 (off : Nat) (e : AV) : part T 46 off e = e.cells[off]? := rfl
theorem pt_47 (off : Nat) (e : AV) : part T 47 off e = e.cells[off]? := rfl
theorem pt_48 (off : Nat) (e : AV) : part T 48 off e = if off + (T 48).sz ≤ e.cells.length then some (.agg ((e.cells.drop off).take (T 48).sz)) else none := rfl
theorem pt_49 (off : Nat) (e : AV) : part T 49 off e = if off + (T 49).sz ≤ e.cells.length then some (.agg ((e.cells.drop off).take (T 49).sz)) else none := rfl
theorem pt_50 (off : Nat) (e : AV) : part T 50 off e = e.cells[off]? := rfl
theorem pt_51 (off : Nat) (e : AV) : part T 51 off e = e.cells[off]? := rfl
theorem pt_52 (off : Nat) (e : AV) : part T 52 off e = e.cells[off]? := rfl
theorem pt_53 (off : Nat) (e : AV) : part T 53 off e = e.cells[off]? := rfl
theorem pt_54 (off : Nat) (e : AV) : part T 54 off e = e.cells[off]? := rfl
theorem pt_55 (off : Nat) (e : AV) : part T 55 off e = e.cells[off]? := rfl
theorem pt_56 (off : Nat) (e : AV) : part T 56 off e = e.cells[off]? := rfl
theorem pt_57 (off : Nat) (e : AV) : part T 57 off e = if off + (T 57).sz ≤ e.cells.length then some (.agg ((e.cells.drop off).take (T 57).sz)) else none := rfl
theorem pt_58 (off : Nat) (e : AV) : part T 58 off e = if off + (T 58).sz ≤ e.cells.length then some (.agg ((e.cells.drop off).take (T 58).sz)) else none := rfl
theorem pt_59 (off : Nat) (e : AV) : part T 59 off e = if off + (T 59).sz ≤ e.cells.length then some (.agg ((e.cells.drop off).take (T 59).sz)) else none := rfl
theorem pt_60 (off : Nat) (e : AV) : part T 60 off e = if off + (T 60).sz ≤ e.cells.length then some (.agg ((e.cells.drop off).take (T 60).sz)) else none := rfl
theorem pt_61 (off : Nat) (e : AV) : part T 61 off e = e.cells[off]? := rfl
theorem pt_62 (off : Nat) (e : AV) : part T 62 off e = e.cells[off]? := rfl
theorem pt_64 (off : Nat) (e : AV) : part T 64 off e = e.cells[off]? := rfl
theorem pt_65 (off : Nat) (e : AV) : part T 65 off e = e.cells[off]? := rfl
theorem pt_66 (off : Nat) (e : AV) : part T 66 off e = e.cells[off]? := rfl
theorem pt_67 (off : Nat) (e : AV) : part T 67 off e = e.cells[off]? := rfl
theorem pt_68 (off : Nat) (e : AV) : part T 68 off e = e.cells[off]? := rfl
theorem pt_69 (off : Nat) (e : AV) : part T 69 off e = e.cells[off]? := rfl
theorem pt_70 (off : Nat) (e : AV) : part T 70 off e = e.cells[off]? := rfl
theorem pt_71 (off : Nat) (e : AV) : part T 71 off e = e.cells[off]? := rfl
theorem pt_72 (off : Nat) (e : AV) : part T 72 off e = e.cells[off]? := rfl
theorem pt_73 (off : Nat) (e : AV) : part T 73 off e = e.cells[off]? := rfl
theorem pt_74 (off : Nat) (e : AV) : part T 74 off e = e.cells[off]? := rfl
theorem pt_76 (off : Nat) (e : AV) : part T 76 off e = if off + (T 76).sz ≤ e.cells.length then some (.agg ((e.cells.drop off).take (T 76).sz)) else none := rfl
theorem pt_77 (off : Nat) (e : AV) : part T 77 off e = e.cells[off]? := rfl
theorem pt_78 (off : Nat) (e : AV) : part T 78 off e = if off + (T 78).sz ≤ e.cells.length then some (.agg ((e.cells.drop off).take (T 78).sz)) else none := rfl
theorem pt_79 (off : Nat) (e : AV) : part T 79 off e = e.cells[off]? := rfl
theorem pt_80 (off : Nat) (e : AV) : part T 80 off e = e.cells[off]? := rfl
theorem pt_81 (off : Nat) (e : AV) : part T 81 off e = e.cells[off]? := rfl
theorem pt_82 (off : Nat) (e : AV) : part T 82 off e = e.cells[off]? := rfl
theorem pt_83 (off : Nat) (e : AV) : part T 83 off e = e.cells[off]? := rfl
theorem pt_84 (off : Nat) (e : AV) : part T 84 off e = e.cells[off]? := rfl
theorem pt_85 (off : Nat) (e : AV) : part T 85 off e = e.cells[off]? := rfl
theorem pt_86 (off : Nat) (e : AV) : part T 86 off e = e.cells[off]? := rfl
theorem pt_87 (off : Nat) (e : AV) : part T 87 off e = e.cells[off]? := rfl
theorem pt_88 (off : Nat) (e : AV) : part T 88 off e = e.cells[off]? := rfl
theorem pt_89 (off : Nat) (e : AV) : part T 89 off e = e.cells[off]? := rfl
theorem pt_90 (off : Nat) (e : AV) : part T 90 off e = e.cells[off]? := rfl
theorem pt_91 (off : Nat) (e : AV) : part T 91 off e = e.cells[off]? := rfl
theorem pt_92 (off : Nat) (e : AV) : part T 92 off e = e.cells[off]? := rfl
theorem pt_93 (off : Nat) (e : AV) : part T 93 off e = e.cells[off]? := rfl
theorem pt_95 (off : Nat) (e : AV) : part T 95 off e = if off + (T 95).sz ≤ e.cells.length then some (.agg ((e.cells.drop off).take (T 95).sz)) else none := rfl
theorem pt_96 (off : Nat) (e : AV) : part T 96 off e = e.cells[off]? := rfl
theorem pt_97 (off : Nat) (e : AV) : part T 97 off e = if off + (T 97).sz ≤ e.cells.length then some (.agg ((e.cells.drop off).take (T 97).sz)) else none := rfl
theorem pt_98 (off : Nat) (e : AV) : part T 98 off e = e.cells[off]? := rfl
theorem pt_99 (off : Nat) (e : AV) : part T 99 off e = e.cells[off]? := rfl
theorem pt_100 (off : Nat) (e : AV) : part T 100 off e = e.cells[off]? := rfl
theorem pt_101 (off : Nat) (e : AV) : part T 101 off e = e.cells[off]? := rfl
theorem pt_102 (off : Nat) (e : AV) : part T 102 off e = e.cells[off]? := rfl
theorem pt_103 (off : Nat) (e : AV) : part T 103 off e = e.cells[off]? := rfl
theorem pt_104 (off : Nat) (e : AV) : part T 104 off e = e.cells[off]? := rfl
theorem pt_105 (off : Nat) (e : AV) : part T 105 off e = e.cells[off]? := rfl
theorem pt_106 (off : Nat) (e : AV) : part T 106 off e = e.cells[off]? := rfl
theorem pt_107 (off : Nat) (e : AV) : part T 107 off e = if off + (T 107).sz ≤ e.cells.length then some (.agg ((e.cells.drop off).take (T 107).sz)) else none := rfl
theorem pt_108 (off : Nat) (e : AV) : part T 108 off e = if off + (T 108).sz ≤ e.cells.length then some (.agg ((e.cells.drop off).take (T 108).sz)) else none := rfl
theorem pt_109 (off : Nat) (e : AV) : part T 109 off e = e.cells[off]? := rfl
theorem pt_111 (off : Nat) (e : AV) : part T 111 off e = e.cells[off]? := rfl
theorem pt_112 (off : Nat) (e : AV) : part T 112 off e = e.cells[off]? := rfl
theorem pt_113 (off : Nat) (e : AV) : part T 113 off e = e.cells[off]? := rfl
theorem pt_114 (off : Nat) (e : AV) : part T 114 off e = e.cells[off]? := rfl
theorem pt_115 (off : Nat) (e : AV) : part T 115 off e = e.cells[off]? := rfl
theorem pt_116 (off : Nat) (e : AV) : part T 116 off e = e.cells[off]? := rfl
theorem pt_118 (off : Nat) (e : AV) : part T 118 off e = if off + (T 118).sz ≤ e.cells.length then some (.agg ((e.cells.drop off).take (T 118).sz)) else none := rfl
theorem pt_119 (off : Nat) (e : AV) : part T 119 off e = e.cells[off]? := rfl
theorem pt_120 (off : Nat) (e : AV) : part T 120 off e = e.cells[off]? := rfl
theorem pt_121 (off : Nat) (e : AV) : part T 121 off e = e.cells[off]? := rfl
theorem pt_123 (off : Nat) (e : AV) : part T 123 off e = if off + (T 123).sz ≤ e.cells.length then some (.agg ((e.cells.drop off).take (T 123).sz)) else none := rfl
theorem pt_125 (off : Nat) (e : AV) : part T 125 off e = e.cells[off]? := rfl
theorem pt_126 (off : Nat) (e : AV) : part T 126 off e = e.cells[off]? := rfl
theorem pt_127 (off : Nat) (e : AV) : part T 127 off e = e.cells[off]? := rfl
theorem pt_128 (off : Nat) (e : AV) : part T 128 off e = e.cells[off]? := rfl
theorem pt_129 (off : Nat) (e : AV) : part T 129 off e = e.cells[off]? := rfl
theorem pt_130 (off : Nat) (e : AV) : part T 130 off e = e.cells[off]? := rfl
theorem pt_131 (off : Nat) (e : AV) : part T 131 off e = e.cells[off]? := rfl
theorem pt_132 (off : Nat) (e : AV) : part T 132 off e = e.cells[off]? := rfl
theorem pt_133 (off : Nat) (e : AV) : part T 133 off e = e.cells[off]? := rfl
theorem pt_134 (off : Nat) (e : AV) : part T 134 off e = e.cells[off]? := rfl
theorem pt_135 (off : Nat) (e : AV) : part T 135 off e = e.cells[off]? := rfl
theorem pt_136 (off : Nat) (e : AV) : part T 136 off e = e.cells[off]? := rfl
theorem pt_137 (off : Nat) (e : AV) : part T 137 off e = e.cells[off]? := rfl
theorem pt_138 (off : Nat) (e : AV) : part T 138 off e = e.cells[off]? := rfl
theorem pt_140 (off : Nat) (e : AV) : part T 140 off e = if off + (T 140).sz ≤ e.cells.length then some (.agg ((e.cells.drop off).take (T 140).sz)) else none := rfl
theorem pt_141 (off : Nat) (e : AV) : part T 141 off e = e.cells[off]? := rfl
theorem pt_142 (off : Nat) (e : AV) : part T 142 off e = e.cells[off]? := rfl
theorem pt_143 (off : Nat) (e : AV) : part T 143 off e = e.cells[off]? := rfl
theorem pt_144 (off : Nat) (e : AV) : part T 144 off e = e.cells[off]? := rfl
theorem pt_145 (off : Nat) (e : AV) : part T 145 off e = e.cells[off]? := rfl
theorem pt_146 (off : Nat) (e : AV) : part T 146 off e = e.cells[off]? := rfl
theorem pt_147 (off : Nat) (e : AV) : part T 147 off e = e.cells[off]? := rfl
theorem pt_148 (off : Nat) (e : AV) : part T 148 off e = e.cells[off]? := rfl
theorem pt_149 (off : Nat) (e : AV) : part T 149 off e = e.cells[off]? := rfl
theorem pt_150 (off : Nat) (e : AV) : part T 150 off e = e.cells[off]? := rfl
theorem pt_151 (off : Nat) (e : AV) : part T 151 off e = e.cells[off]? := rfl
theorem pt_152 (off : Nat) (e : AV) : part T 152 off e = e.cells[off]? := rfl
theorem pt_153 (off : Nat) (e : AV) : part T 153 off e = e.cells[off]? := rfl
theorem pt_155 (off : Nat) (e : AV) : part T 155 off e = e.cells[off]? := rfl
theorem pt_156 (off : Nat) (e : AV) : part T 156 off e = e.cells[off]? := rfl
theorem pt_157 (off : Nat) (e : AV) : part T 157 off e = e.cells[off]? := rfl
theorem pt_158 (off : Nat) (e : AV) : part T 158 off e = e.cells[off]? := rfl
theorem pt_159 (off : Nat) (e : AV) : part T 159 off e = e.cells[off]? := rfl
theorem pt_160 (off : Nat) (e : AV) : part T 160 off e = e.cells[off]? := rfl
theorem pt_161 (off : Nat) (e : AV) : part T 161 off e = e.cells[off]? := rfl
theorem pt_162 (off : Nat) (e : AV) : part T 162 off e = e.cells[off]? := rfl
theorem pt_163 (off : Nat) (e : AV) : part T 163 off e = e.cells[off]? := rfl
theorem pt_164 (off : Nat) (e : AV) : part T 164 off e = e.cells[off]? := rfl
theorem pt_165 (off : Nat) (e : AV) : part T 165 off e = e.cells[off]? := rfl
theorem pt_166 (off : Nat) (e : AV) : part T 166 off e = e.cells[off]? := rfl
theorem pt_167 (off : Nat) (e : AV) : part T 167 off e = e.cells[off]? := rfl
theorem pt_168 (off : Nat) (e : AV) : part T 168 off e = e.cells[off]? := rfl
theorem pt_170 (off : Nat) (e : AV) : part T 170 off e = e.cells[off]? := rfl
theorem pt_173 (off : Nat) (e : AV) : part T 173 off e = e.cells[off]? := rfl
theorem pt_174 (off : Nat) (e : AV) : part T 174 off e = e.cells[off]? := rfl
theorem pt_180 (off : Nat) (e : AV) : part T 180 off e = e.cells[off]? := rfl
theorem pt_181 (off : Nat) (e : AV) : part T 181 off e = e.cells[off]? := rfl
theorem pt_182 (off : Nat) (e : AV) : part T 182 off e = e.cells[off]? := rfl
theorem pt_183 (off : Nat) (e : AV) : part T 183 off e = e.cells[off]? := rfl
theorem pt_185 (off : Nat) (e : AV) : part T 185 off e = e.cells[off]? := rfl
theorem pt_186 (off : Nat) (e : AV) : part T 186 off e = e.cells[off]? := rfl
attribute [go_sem] T_1 pt_1 T_2 pt_2 T_3 pt_3 T_4 pt_4 T_5 pt_5 T_6 pt_6 T_9 pt_9 T_10 pt_10 T_11 pt_11 T_12 pt_12 T_21 pt_21 T_22 pt_22 T_23 pt_23 T_24 pt_24 T_25 pt_25 T_26 pt_26 T_27 pt_27 T_28 pt_28 T_29 pt_29 T_30 pt_30 T_31 pt_31 T_32 pt_32 T_33 pt_33 T_34 pt_34 T_35 pt_35 T_36 pt_36 T_37 pt_37 T_38 pt_38 T_39 pt_39 T_40 pt_40 T_42 pt_42 T_43 pt_43 T_44 pt_44 T_45 pt_45 T_46 pt_46 T_47 pt_47 T_48 pt_48 T_49 pt_49 T_50 pt_50 T_51 pt_51 T_52 pt_52 T_53 pt_53 T_54 pt_54 T_55 pt_55 T_56 pt_56 T_57 pt_57 T_58 pt_58 T_59 pt_59 T_60 pt_60 T_61 pt_61 T_62 pt_62 T_64 pt_64 T_65 pt_65 T_66 pt_66 T_67 pt_67 T_68 pt_68 T_69 pt_69 T_70 pt_70 T_71 pt_71 T_72 pt_72 T_73 pt_73 T_74 pt_74 T_76 pt_76 T_77 pt_77 T_78 pt_78 T_79 pt_79 T_80 pt_80 T_81 pt_81 T_82 pt_82 T_83 pt_83 T_84 pt_84 T_85 pt_85 T_86 pt_86 T_87 pt_87 T_88 pt_88 T_89 pt_89 T_90 pt_90 T_91 pt_91 T_92 pt_92 T_93 pt_93 T_95 pt_95 T_96 pt_96 T_97 pt_97 T_98 pt_98 T_99 pt_99 T_100 pt_100 T_101 pt_101 T_102 pt_102 T_103 pt_103 T_104 pt_104 T_105 pt_105 T_106 pt_106 T_107 pt_107 T_108 pt_108 T_109 pt_109 T_111 pt_111 T_112 pt_112 T_113 pt_113 T_114 pt_114 T_115 pt_115 T_116 pt_116 T_118 pt_118 T_119 pt_119 T_120 pt_120 T_121 pt_121 T_123 pt_123 T_125 pt_125 T_126 pt_126 T_127 pt_127 T_128 pt_128 T_129 pt_129 T_130 pt_130 T_131 pt_131 T_132 pt_132 T_133 pt_133 T_134 pt_134 T_135 pt_135 T_136 pt_136 T_137 pt_137 T_138 pt_138 T_140 pt_140 T_141 pt_141 T_142 pt_142 T_143 pt_143 T_144 pt_144 T_145 pt_145 T_146 pt_146 T_147 pt_147 T_148 pt_148 T_149 pt_149 T_150 pt_150 T_151 pt_151 T_152 pt_152 T_153 pt_153 T_155 pt_155 T_156 pt_156 T_157 pt_157 T_158 pt_158 T_159 pt_159 T_160 pt_160 T_161 pt_161 T_162 pt_162 T_163 pt_163 T_164 pt_164 T_165 pt_165 T_166 pt_166 T_167 pt_167 T_168 pt_168 T_170 pt_170 T_173 pt_173 T_174 pt_174 T_180 pt_180 T_181 pt_181 T_182 pt_182 T_183 pt_183 T_185 pt_185 T_186 pt_186
theorem hM : Try.prog.follows .mixedOrders = true := by kernel_rfl
end Go.Proofs.Ytcngfjmfgeckmaa
end
