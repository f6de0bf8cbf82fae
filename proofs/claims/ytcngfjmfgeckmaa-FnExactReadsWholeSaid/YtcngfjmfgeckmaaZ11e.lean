import Derived.Test.YtcngfjmfgeckmaaZ11d
set_option linter.unusedSimpArgs false
set_option linter.unusedVariables false
set_option linter.unusedSectionVars false
namespace Go.Proofs.Ytcngfjmfgeckmaa
open Go
section
variable {F F' h h' : Heap}
theorem Mat.slc {t : PT} {xs ys : List t.den} {es : List AV} {J : Nat → Nat → Ids0} {i j : Int} (M : Mat F h t xs es J (fun _ _ => False)) (hs : slcI xs i j = some ys) :
    Mat F h t ys ((es.drop i.toNat).take (j.toNat - i.toNat)) (fun k o => fun z => k < ys.length ∧ J (i.toNat + k) o z) (fun _ _ => False) := by
  obtain ⟨h1, h2, h3, h4, h5⟩ := slcI_some hs
  have gx : ∀ k x, ys[k]? = some x → xs[i.toNat + k]? = some x := fun k x hk => by
    rw [h4, List.getElem?_take] at hk
    split at hk
    · rwa [List.getElem?_drop] at hk
    · cases hk
  have ge : ∀ k (e : AV), ((es.drop i.toNat).take (j.toNat - i.toNat))[k]? = some e → es[i.toNat + k]? = some e := fun k e hk => drop_take_get hk
  refine ⟨?_, fun k e hk => M.el _ e (ge k e hk), fun k x e o v a q1 q2 q3 q4 _ => ?_, fun k o k' o' z q1 q2 => ?_, fun k o z q1 => ⟨q1.1, (M.sup _ _ _ q1.2).2.1, id⟩⟩
  · rw [h5, List.length_take, List.length_drop, M.len]; omega
  · have hk : k < ys.length := (List.getElem?_eq_some_iff.1 q1).1
    exact (M.cell _ x e o v a (gx k x q1) (ge k e q2) q3 q4 id).eqv fun z => ⟨fun hz => ⟨hk, hz⟩, fun hz => hz.2⟩
  · obtain ⟨r1, r2⟩ := M.dis _ _ _ _ z q1.2 q2.2
    exact ⟨by omega, r2⟩
theorem OS.piece {e e' : Bool} {t : PT} {xs ys : List t.den} {A : AV} {I : Ids0} {i j : Int} (hv : OS F h (.rd e t xs) A I) (hs : slcI xs i j = some ys) : ∃ J, OS F h (.rd e' t ys) (pieceA A i.toNat j.toNat e') J ∧ ∀ z, J z → I z := by
  obtain ⟨h1, h2, h3, h4, h5⟩ := slcI_some hs
  cases hv with
  | rdn _ _ _ hI =>
    have : ys = [] := by subst h4; simp
    subst this; exact ⟨_, .rdn _ _ _ hI, fun _ hz => hz⟩
  | emp _ _ _ hI =>
    have : ys = [] := by subst h4; simp
    subst this
    have hj : j.toNat = 0 := by simp at h3; omega
    refine ⟨_, ?_, fun _ hz => hz⟩
    have := OS.emp (F := F) (h := h) e' t I hI
    cases e' <;> simpa [pieceA, hj] using this
  | sl _ _ _ id off lo ex b _ J hb hle hlo hc hid hI =>
    obtain ⟨J', M, hJ⟩ := hc.mat
    have M2 := M.slc hs
    have hb' : ((b.drop off).take xs.length |>.drop i.toNat).take (j.toNat - i.toNat) = (b.drop (off + i.toNat)).take ys.length := by
      rw [h5, List.drop_take, List.take_take, List.drop_drop]
      congr 1; omega
    rw [hb'] at M2
    have key : pieceA (.sl t.w id off xs.length lo ex) i.toNat j.toNat e' = .sl t.w id (off + i.toNat) ys.length (if e' = true then ys.length else lo - i.toNat) (if e' = true then true else ex) := by
      simp only [pieceA, h5]
    rw [key]
    have sub : ∀ z, (∃ k o, k < ys.length ∧ J' (i.toNat + k) o z) → J z := fun z ⟨k, o, _, hz⟩ => (hJ z).2 ⟨_, _, hz⟩
    refine ⟨fun z => z = id ∨ ∃ k o, k < ys.length ∧ J' (i.toNat + k) o z, .sl e' t ys id (off + i.toNat) _ _ b _ (fun z => ∃ k o, k < ys.length ∧ J' (i.toNat + k) o z) hb ?_ ?_ M2.oe (fun hq => hid (sub _ hq)) fun z => Iff.rfl, fun z hz => ?_⟩
    · split <;> omega
    · split <;> omega
    · rcases hz with rfl | hz
      · exact (hI _).2 (.inl rfl)
      · exact (hI _).2 (.inr (sub z hz))
theorem Fz.nested {e : Bool} {t : PT} {xs : List t.den} {A : AV} (hv : Fz F (.rd e t xs) A) (hs : F.Sub h) {i o : Nat} {x : t.den} {t2 : PT} {zs : List t2.den} {a : AV} (hx : xs[i]? = some x) (hz : nthS (explode t x) o = some (.rd false t2 zs)) (ha : cellAt h A i o = some a) : Fz F (.rd false t2 zs) a := by
  rw [nthS_get] at hz
  cases hv with
  | rdn => simp at hx
  | ro _ ex _ _ l _ hc =>
    obtain ⟨e, q1, q2, q3⟩ := hc.get i x hx
    obtain ⟨a', p1, p2⟩ := q3.get o _ hz
    have : cellAt h (.ro t.w ex l) i o = some a' := by simp only [cellAt, q1, Option.bind_some]; exact p1
    rw [this] at ha
    obtain rfl := Option.some.inj ha
    exact p2
  | sl _ _ _ id off lo ex b hb hle hlo he hc =>
    obtain ⟨e, q1, q2, q3⟩ := hc.get i x hx
    obtain ⟨a', p1, p2⟩ := q3.get o _ hz
    have : cellAt h (.sl t.w id off xs.length lo ex) i o = some a' := by simp [cellAt, hs _ _ hb, drop_take_get q1, p1]
    rw [this] at ha
    obtain rfl := Option.some.inj ha
    exact p2
end
section
variable {B : Bas} {cx : Cx} {L : Lay} {Es : List Env} {E : Env} {h : Heap} {n : Nat} {α : Type} {y : α}
variable {env : SEnv} {ρ0 : Roots} {nx mc : Nat}
structure AbsR (ρ0 ρ : Roots) (D Z : Nat → Prop) : Prop where
  nd : (ρ.map Prod.fst).Nodup
  sub : ∀ q, q ∈ ρ.map Prod.fst → q ∈ ρ0.map Prod.fst
  del : ∀ q, D q → lkp ρ q = none ∧ ∃ v w s md t xs, lkp ρ0 q = some (.row v w s md none t xs)
  fz : ∀ q, Z q → ¬ D q ∧ ∃ v w s md t xs, lkp ρ0 q = some (.row v w s md none t xs) ∧ lkp ρ q = some (.row v w s .fz none t xs)
  look : ∀ q, ¬ D q → ¬ Z q → lkp ρ q = lkp ρ0 q
theorem AbsR.refl (hn : (ρ0.map Prod.fst).Nodup) : AbsR ρ0 ρ0 (fun _ => False) (fun _ => False) := ⟨hn, fun _ h => h, fun _ h => h.elim, fun _ h => h.elim, fun _ _ _ => rfl⟩
theorem AbsR.get {ρ : Roots} {D Z : Nat → Prop} (R : AbsR ρ0 ρ D Z) {q v w s : Nat} {md : Md} {t : PT} {xs : List t.den} (hq : lkp ρ q = some (.row v w s md none t xs)) : ∃ md0, lkp ρ0 q = some (.row v w s md0 none t xs) ∧ ¬ D q ∧ (md = md0 ∧ ¬ Z q ∨ md = .fz ∧ Z q) := by
  by_cases hD : D q
  · rw [(R.del q hD).1] at hq; cases hq
  · by_cases hZ : Z q
    · obtain ⟨_, v', w', s', md0, t', xs', h1, h2⟩ := R.fz q hZ
      rw [hq] at h2; cases h2
      exact ⟨md0, h1, hD, .inr ⟨rfl, hZ⟩⟩
    · rw [R.look q hD hZ] at hq
      exact ⟨md, hq, hD, .inl ⟨rfl, hZ⟩⟩
theorem AbsR.delOne {ρ ρ' : Roots} {D Z : Nat → Prop} (R : AbsR ρ0 ρ D Z) {q v w s : Nat} {md : Md} {t : PT} {xs : List t.den} (hq : lkp ρ q = some (.row v w s md none t xs)) (hz : ¬ Z q) (hn : (ρ'.map Prod.fst).Nodup) (hs : ∀ a, a ∈ ρ'.map Prod.fst → a ∈ ρ.map Prod.fst) (hl : ∀ r, lkp ρ' r = if r = q then none else lkp ρ r) : AbsR ρ0 ρ' (fun r => D r ∨ r = q) Z := by
  obtain ⟨md0, h1, h2, h3⟩ := R.get hq
  refine ⟨hn, fun r hr => R.sub r (hs r hr), fun r hr => ?_, fun r hr => ?_, fun r h4 h5 => ?_⟩
  · rcases hr with hr | rfl
    · have := R.del r hr
      refine ⟨?_, this.2⟩
      rw [hl]; split
      · rfl
      · exact this.1
    · exact ⟨by rw [hl, if_pos rfl], _, _, _, _, _, _, h1⟩
  · obtain ⟨k1, v', w', s', md', t', xs', k2, k3⟩ := R.fz r hr
    have hne : r ≠ q := by rintro rfl; exact hz hr
    exact ⟨fun hd => hd.elim k1 hne, v', w', s', md', t', xs', k2, by rw [hl, if_neg hne]; exact k3⟩
  · have hne : r ≠ q := fun hq => h4 (.inr hq)
    rw [hl, if_neg hne]; exact R.look r (fun hd => h4 (.inl hd)) h5
theorem AbsR.fzOne {ρ ρ' : Roots} {D Z : Nat → Prop} (R : AbsR ρ0 ρ D Z) {q v w s : Nat} {md : Md} {t : PT} {xs : List t.den} (hq : lkp ρ q = some (.row v w s md none t xs)) (hn : ρ'.map Prod.fst = ρ.map Prod.fst) (hl : ∀ r, lkp ρ' r = if r = q then some (.row v w s .fz none t xs) else lkp ρ r) : AbsR ρ0 ρ' D (fun r => Z r ∨ r = q) := by
  obtain ⟨md0, h1, h2, h3⟩ := R.get hq
  refine ⟨by rw [hn]; exact R.nd, fun r hr => R.sub r (by rwa [hn] at hr), fun r hr => ?_, fun r hr => ?_, fun r h4 h5 => ?_⟩
  · have := R.del r hr
    have hne : r ≠ q := by rintro rfl; exact h2 hr
    exact ⟨by rw [hl, if_neg hne]; exact this.1, this.2⟩
  · by_cases hne : r = q
    · subst hne
      exact ⟨h2, v, w, s, md0, t, xs, h1, by rw [hl, if_pos rfl]⟩
    · obtain ⟨k1, v', w', s', md', t', xs', k2, k3⟩ := R.fz r (hr.resolve_right hne)
      exact ⟨k1, v', w', s', md', t', xs', k2, by rw [hl, if_neg hne]; exact k3⟩
  · have hne : r ≠ q := fun hq => h5 (.inr hq)
    rw [hl, if_neg hne]; exact R.look r h4 fun hz => h5 (.inl hz)
theorem lkp_root {r : Nat} {v w s : Nat} {md : Md} {hl : Option (Nat × Nat)} {t : PT} {xs : List t.den} (hq : lkp ρ0 r = some (.row v w s md hl t xs)) : rootOf cx ⟨env, ρ0, nx, mc⟩ r = some (.row v w s md hl t xs) := by
  rw [rootOf_jn]
  simp only [hq]
  cases lkp cx.roots0 r <;> rfl
def AbsV (L : Lay) (h : Heap) (D0 D Z : Nat → Prop) (JK : Ids0) (own : Bool) (v : SV) (a : AV) (J : Ids0) : Prop :=
  (own = true → OS L.F h v a J) ∧ (∀ F', L.F.Sub F' → (∀ q i b, D q ∨ Z q → L.ft q i → h i = some b → F' i = some b) → (∀ i b, JK i → h i = some b → F' i = some b) → Fz F' v a) ∧ (∀ i, J i → (∃ q, D q ∧ ¬ D0 q ∧ L.ft q i) ∨ JK i)
theorem AbsV.mono {L : Lay} {h : Heap} {D0 D1 D D' Z Z' : Nat → Prop} {JK : Ids0} {own own' : Bool} {v : SV} {a : AV} {J : Ids0} (hv : AbsV L h D1 D Z JK own v a J) (ho : own' = true → own = true) (h1 : ∀ q, D q → D' q) (h2 : ∀ q, Z q → Z' q) (h3 : ∀ q, D0 q → D1 q) : AbsV L h D0 D' Z' JK own' v a J :=
  ⟨fun hq => hv.1 (ho hq), fun F' q1 q2 q3 => hv.2.1 F' q1 (fun q i b hq => q2 q i b (hq.imp (h1 q) (h2 q))) q3, fun i hi => (hv.2.2 i hi).imp (fun ⟨q, k1, k2, k3⟩ => ⟨q, h1 q k1, fun hd => k2 (h3 q hd), k3⟩) id⟩
theorem absorb_ok (H : Gam B cx ⟨env, ρ0, nx, mc⟩ L Es E h n) {r u : Nat} {own0 : Bool} {JK : Nat → Ids0}
    (hkeep : ∀ o v w s t' xs x t ys a, own0 = true → lkp ρ0 r = some (.row v w s .own none t' xs) → atI xs (L.U u) = some x → nthS (explode t' x) o = some (.rd false t ys) → cellAt h (L.A r) (L.U u).toNat o = some a → OS L.F h (.rd false t ys) a (JK o))
    (hmd : ∀ v w s md t' xs, own0 = true → lkp ρ0 r = some (.row v w s md none t' xs) → md = .own) (fl : Bool) :
    ∀ {new : List SV} {asl : List AV} {own : Bool} {o : Nat} {old : List SV} {ρ : Roots} {D0 Z0 : Nat → Prop} {k : Bool → List SV → Roots → Option α}, absorbK r u own fl o old new ρ k = some y → (own = true → own0 = true) → AbsR ρ0 ρ D0 Z0 → TVs L (rootOf cx ⟨env, ρ0, nx, mc⟩) mc h new asl →
      ∃ (own' : Bool) (new' : List SV) (ρ' : Roots) (D Z : Nat → Prop) (J : Nat → Ids0), k own' new' ρ' = some y ∧ AbsR ρ0 ρ' D Z ∧ (own' = true → own = true) ∧ new'.length = new.length ∧ (∀ q, D0 q → D q) ∧ ((∀ q, Z0 q → Z q) ∧ (Z r → Z0 r)) ∧
        (∀ (j : Nat) v a, new'[j]? = some v → asl[j]? = some a → AbsV L h D0 D Z (JK (o + j)) own' v a (J j)) ∧ (∀ j i, J j i → j < new.length ∧ ((∃ q, D q ∧ ¬ D0 q ∧ L.ft q i) ∨ JK (o + j) i)) ∧
        ((∀ o i, ¬ JK o i) ∨ ((∀ o o' i, JK o i → JK o' i → o = o') ∧ (∀ o i, JK o i → L.ft r i) ∧ ¬ D r ∧ ∃ ρr, lkp ρ0 r = some ρr) → ∀ j j' i, J j i → J j' i → j = j')
  | [], _, own, o, old, ρ, D0, Z0, k, hk, ho, R, .nil => ⟨own, [], ρ, D0, Z0, fun _ _ => False, by simpa [absorbK] using hk, R, id, rfl, fun _ h => h, ⟨fun _ h => h, id⟩, fun j v a hv => by simp at hv, fun _ _ hj => hj.elim, fun _ _ _ _ hj => hj.elim⟩
  | c :: new, _, own, o, old, ρ, D0, Z0, k, hk, ho, R, .cons _ _ a asl hv hl => by
    cases old with
    | nil => cases c <;> cases hk
    | cons oc old =>
    have go : ∀ {own1 : Bool} {c' : SV} {ρ1 : Roots} {D1 Z1 : Nat → Prop} {J1 : Ids0}, absorbK r u own1 fl (o + 1) old new ρ1 (fun own l ρ => k own (c' :: l) ρ) = some y → (own1 = true → own = true) → AbsR ρ0 ρ1 D1 Z1 → (∀ q, D0 q → D1 q) → ((∀ q, Z0 q → Z1 q) ∧ (Z1 r → Z0 r)) → AbsV L h D0 D1 Z1 (JK o) own1 c' a J1 →
        ∃ (own' : Bool) (new' : List SV) (ρ' : Roots) (D Z : Nat → Prop) (J : Nat → Ids0), k own' new' ρ' = some y ∧ AbsR ρ0 ρ' D Z ∧ (own' = true → own = true) ∧ new'.length = (c :: new).length ∧ (∀ q, D0 q → D q) ∧ ((∀ q, Z0 q → Z q) ∧ (Z r → Z0 r)) ∧
          (∀ (j : Nat) v a', new'[j]? = some v → (a :: asl)[j]? = some a' → AbsV L h D0 D Z (JK (o + j)) own' v a' (J j)) ∧ (∀ j i, J j i → j < (c :: new).length ∧ ((∃ q, D q ∧ ¬ D0 q ∧ L.ft q i) ∨ JK (o + j) i)) ∧
          ((∀ o i, ¬ JK o i) ∨ ((∀ o o' i, JK o i → JK o' i → o = o') ∧ (∀ o i, JK o i → L.ft r i) ∧ ¬ D r ∧ ∃ ρr, lkp ρ0 r = some ρr) → ∀ j j' i, J j i → J j' i → j = j') := fun {own1 c' ρ1 D1 Z1 J1} g1 g2 g3 g4 g5 g6 => by
      obtain ⟨own', new', ρ', D, Z, J, p1, p2, p3, p4, p5, p6, p7, p8, p9⟩ := absorb_ok H hkeep hmd fl g1 (fun hq => ho (g2 hq)) g3 hl
      have a1 : ∀ {j}, o + 1 + j = o + (j + 1) := by intro j; omega
      refine ⟨own', c' :: new', ρ', D, Z, fun j => match j with | 0 => J1 | j + 1 => J j, p1, p2, fun hq => g2 (p3 hq), by simp [p4], fun q hq => p5 q (g4 q hq), ⟨fun q hq => p6.1 q (g5.1 q hq), fun hq => g5.2 (p6.2 hq)⟩, fun j v a' q1 q2 => ?_, fun j i q1 => ?_, fun hKP j j' i q1 q2 => ?_⟩
      · cases j with
        | zero =>
          simp at q1 q2; subst q1; subst q2
          exact g6.mono p3 p5 p6.1 fun _ h => h
        | succ j =>
          have := p7 j v a' (by simpa using q1) (by simpa using q2)
          rw [a1] at this
          exact this.mono id (fun _ h => h) (fun _ h => h) g4
      · cases j with
        | zero =>
          refine ⟨by simp, ?_⟩
          rcases g6.2.2 i q1 with ⟨q, k1, k2, k3⟩ | k1
          · exact .inl ⟨q, p5 q k1, k2, k3⟩
          · exact .inr k1
        | succ j =>
          obtain ⟨k0, k1⟩ := p8 j i q1
          refine ⟨by simpa using k0, ?_⟩
          rcases k1 with ⟨q, k1, k2, k3⟩ | k1
          · exact .inl ⟨q, k1, fun hq => k2 (g4 q hq), k3⟩
          · rw [a1] at k1; exact .inr k1
      · have rt : ∀ {q}, D q → ∃ ρq, rootOf cx ⟨env, ρ0, nx, mc⟩ q = some ρq := fun hq => by
          obtain ⟨_, v, w, s, md, t, xs, hx⟩ := p2.del _ hq
          exact ⟨_, lkp_root hx⟩
        have sep : ∀ {j i}, J1 i → J j i → False := fun {j i} q1 q2 => by
          have two : ∀ {q q'}, D q → L.ft q i → D q' → L.ft q' i → q = q' := fun k1 k2 k3 k4 => by
            obtain ⟨ρ3, e3⟩ := rt k1
            obtain ⟨ρ4, e4⟩ := rt k3
            exact H.ap _ _ _ _ i e3 e4 k2 k4
          rcases hKP with hno | ⟨hd, hf, hD, ρr, hr'⟩
          · rcases g6.2.2 i q1 with ⟨q, k1, k2, k3⟩ | k1
            · rcases (p8 j i q2).2 with ⟨q', m1, m2, m3⟩ | m1
              · obtain rfl := two (p5 q k1) k3 m1 m3
                exact m2 k1
              · exact hno _ _ m1
            · exact hno _ _ k1
          · have rr : ∃ ρq, rootOf cx ⟨env, ρ0, nx, mc⟩ r = some ρq := by
              rw [rootOf_jn]
              simp only [hr']
              cases ρr with
              | row => cases lkp cx.roots0 r <;> exact ⟨_, rfl⟩
              | cell cs => cases hq : lkp cx.roots0 r with
                | none => exact ⟨_, rfl⟩
                | some ρ0' => cases ρ0' <;> exact ⟨_, rfl⟩
            obtain ⟨ρ2, hr2⟩ := rr
            rcases g6.2.2 i q1 with ⟨q, k1, k2, k3⟩ | k1 <;> rcases (p8 j i q2).2 with ⟨q', m1, m2, m3⟩ | m1
            · obtain rfl := two (p5 q k1) k3 m1 m3
              exact m2 k1
            · obtain ⟨ρ3, e3⟩ := rt (p5 q k1)
              obtain rfl := H.ap q r _ _ i e3 hr2 k3 (hf _ _ m1)
              exact hD (p5 _ k1)
            · obtain ⟨ρ4, e4⟩ := rt m1
              obtain rfl := H.ap r q' _ _ i hr2 e4 (hf _ _ k1) m3
              exact hD m1
            · have := hd _ _ i k1 m1; omega
        cases j with
        | zero => cases j' with
          | zero => rfl
          | succ j' => exact (sep q1 q2).elim
        | succ j => cases j' with
          | zero => exact (sep q2 q1).elim
          | succ j' => rw [p9 (hKP.imp id fun h => h) j j' i q1 q2]
    have beq : ∀ {p q : Nat}, p.beq q = true → p = q := fun h => Nat.eq_of_beq_eq_true h
    have sc : ∀ {v : SV}, Fz L.F v a → (∀ e t2 ys, v ≠ .rd e t2 ys) → AbsV L h D0 D0 Z0 (JK o) own v a (fun _ => False) := fun {v} h1 h2 => ⟨fun _ => h1.os h2, fun F' q1 _ _ => h1.mono q1, fun _ hi => hi.elim⟩
    have row : ∀ {q v w s : Nat} {md : Md} {t : PT} {xs : List t.den}, lkp ρ q = some (.row v w s md none t xs) → ∃ md0, rootOf cx ⟨env, ρ0, nx, mc⟩ q = some (.row v w s md0 none t xs) ∧ ¬ D0 q ∧ (md = md0 ∧ ¬ Z0 q ∨ md = .fz ∧ Z0 q) ∧ RowOk L h q md0 none t xs ∧
        (∀ F', L.F.Sub F' → (∀ i b, L.ft q i → h i = some b → F' i = some b) → Fz F' (.rd false t xs) (L.A q)) ∧ (md = .fz → ∀ F', L.F.Sub F' → (∀ q i b, D0 q ∨ Z0 q → L.ft q i → h i = some b → F' i = some b) → Fz F' (.rd false t xs) (L.A q)) := fun {q v w s md t xs} hq => by
      obtain ⟨md0, h1, h2, h3⟩ := R.get hq
      have hr : RowOk L h q md0 none t xs := H.th _ _ (lkp_root h1)
      refine ⟨md0, lkp_root h1, h2, h3, hr, fun F' q1 q2 => hr.frz q1 q2, fun hm F' q1 q2 => ?_⟩
      rcases h3 with ⟨rfl, _⟩ | ⟨_, hz⟩
      · subst hm; exact hr.1.mono q1
      · exact hr.frz q1 fun i b hi hb => q2 q i b (.inr hz) hi hb
    cases c with
    | int i x =>
      have hf : Fz L.F (.int i x) a := by rw [int_inv hv]; exact .int _ _
      exact go (c' := .int i x) (J1 := fun _ => False) hk id R (fun _ h => h) ⟨fun _ h => h, id⟩ (sc hf (by simp))
    | bool x =>
      have hf : Fz L.F (.bool x) a := by rw [bool_inv hv]; exact .bool _
      exact go (c' := .bool x) (J1 := fun _ => False) hk id R (fun _ h => h) ⟨fun _ h => h, id⟩ (sc hf (by simp))
    | str x =>
      have hf : Fz L.F (.str x) a := by rw [str_inv hv]; exact .str _
      exact go (c' := .str x) (J1 := fun _ => False) hk id R (fun _ h => h) ⟨fun _ h => h, id⟩ (sc hf (by simp))
    | nil =>
      have hf : Fz L.F (.nil) a := by rw [nil_inv hv]; exact .nil
      exact go (c' := .nil) (J1 := fun _ => False) hk id R (fun _ h => h) ⟨fun _ h => h, id⟩ (sc hf (by simp))
    | rd e t xs =>
      have hf : Fz L.F (.rd e t xs) a := by cases hv with | pl _ _ hf => exact hf
      exact go (own1 := false) (c' := .rd e t xs) (J1 := fun _ => False) hk (by simp) R (fun _ h => h) ⟨fun _ h => h, id⟩ ⟨fun hq => (by cases hq), fun F' q1 _ _ => hf.mono q1, fun _ hi => hi.elim⟩
    | row q v =>
      simp only [absorbK] at hk
      split at hk
      · rename_i v' w s t xs hq
        obtain ⟨g1, g2⟩ := bif_some hk
        obtain rfl := beq g1
        obtain ⟨md0, k1, k2, k3, k4, k5, k6⟩ := row hq
        cases hv with
        | pl _ _ hf => cases hf
        | row _ _ _ hone hv' =>
          obtain rfl := hv' _ _ _ _ _ _ k1
          exact go (own1 := false) (c' := .rd false t xs) (J1 := fun _ => False) g2 (by simp) R (fun _ h => h) ⟨fun _ h => h, id⟩ ⟨fun hq => (by cases hq), fun F' q1 q2 _ => k6 rfl F' q1 q2, fun _ hi => hi.elim⟩
      · rename_i v' w s md t xs hnf hq
        obtain ⟨g1, g2⟩ := bif_some hk
        obtain rfl := beq g1
        obtain ⟨ρ1, d1, _, d3, d4, d5⟩ := delK_ok g2 R.nd
        obtain ⟨md0, k1, k2, k3, k4, k5, k6⟩ := row hq
        have hz : ¬ Z0 q := by rcases k3 with ⟨_, hz⟩ | ⟨rfl, _⟩; exact hz; exact absurd rfl hnf
        have hmd : md = md0 := by rcases k3 with ⟨hz, _⟩ | ⟨rfl, _⟩; exact hz; exact absurd rfl hnf
        subst hmd
        cases hv with
        | pl _ _ hf => cases hf
        | row _ _ _ hone hv' =>
          obtain rfl := hv' _ _ _ _ _ _ k1
          refine go (own1 := own && md.isOwn) (c' := .rd false t xs) (J1 := fun i => md = .own ∧ L.ft q i) d1 (fun hq => by simp only [Bool.and_eq_true] at hq; exact hq.1) (R.delOne hq hz d4 d3 d5) (fun _ h => .inl h) ⟨fun _ h => h, id⟩ ⟨fun ho' => ?_, fun F' q1 q2 _ => k5 F' q1 fun i b hi hb => q2 q i b (.inl (.inr rfl)) hi hb, fun i hi => .inl ⟨q, .inr rfl, k2, hi.2⟩⟩
          simp only [Bool.and_eq_true] at ho'
          cases md with
          | own =>
            have hO : OS L.F h (.rd false t xs) (L.A q) (L.ft q) := k4
            exact hO.eqv fun i => ⟨fun hi => ⟨rfl, hi⟩, fun hi => hi.2⟩
          | flat => cases ho'.2
          | fz => cases ho'.2
      · cases hk
    | sub q v s i j e t ys =>
      simp only [absorbK] at hk
      split at hk
      · rename_i v' w s' t2 xs hq
        obtain ⟨g1, g2⟩ := bif_some hk
        simp only [Bool.and_eq_true] at g1
        obtain rfl := beq g1.1
        have hss := beq g1.2
        obtain ⟨md0, k1, k2, k3, k4, k5, k6⟩ := row hq
        cases hv with
        | pl _ _ hf => cases hf
        | sub _ _ _ _ _ _ _ _ _ hone hv' =>
          obtain ⟨m1, rfl, m3⟩ := hv' _ _ _ _ _ _ k1
          obtain ⟨zs, m4, m5⟩ := m3 hss
          cases m5
          exact go (own1 := false) (c' := .rd false t ys) (J1 := fun _ => False) g2 (by simp) R (fun _ h => h) ⟨fun _ h => h, id⟩ ⟨fun hq => (by cases hq), fun F' q1 q2 _ => (k6 rfl F' q1 q2).piece m4, fun _ hi => hi.elim⟩
      · rename_i v' w s' md t2 xs hnf hq
        obtain ⟨g1, g2⟩ := bif_some hk
        simp only [Bool.and_eq_true] at g1
        obtain rfl := beq g1.1
        have hss := beq g1.2
        obtain ⟨ρ1, d1, _, d3, d4, d5⟩ := delK_ok g2 R.nd
        obtain ⟨md0, k1, k2, k3, k4, k5, k6⟩ := row hq
        have hz : ¬ Z0 q := by rcases k3 with ⟨_, hz⟩ | ⟨rfl, _⟩; exact hz; exact absurd rfl hnf
        have hmd : md = md0 := by rcases k3 with ⟨hz, _⟩ | ⟨rfl, _⟩; exact hz; exact absurd rfl hnf
        subst hmd
        cases hv with
        | pl _ _ hf => cases hf
        | sub _ _ _ _ _ _ _ _ _ hone hv' =>
          obtain ⟨m1, rfl, m3⟩ := hv' _ _ _ _ _ _ k1
          obtain ⟨zs, m4, m5⟩ := m3 hss
          cases m5
          have fin : ∀ {J1 : Ids0}, (md = .own → OS L.F h (.rd false t ys) (pieceA (L.A q) i.toNat j.toNat e) J1) → (∀ z, J1 z → L.ft q z) → _ := fun {J1} f1 f2 => go (own1 := own && md.isOwn) (c' := .rd false t ys) (J1 := J1) d1 (fun hq => by simp only [Bool.and_eq_true] at hq; exact hq.1) (R.delOne hq hz d4 d3 d5) (fun _ h => .inl h) ⟨fun _ h => h, id⟩
            ⟨fun ho' => by
              simp only [Bool.and_eq_true] at ho'
              cases md with
              | own => exact f1 rfl
              | flat => cases ho'.2
              | fz => exact absurd ho'.2 (by simp [Md.isOwn]), fun F' q1 q2 _ => (k5 F' q1 fun i b hi hb => q2 q i b (.inl (.inr rfl)) hi hb).piece m4, fun i hi => .inl ⟨q, .inr rfl, k2, f2 i hi⟩⟩
          cases md with
          | own =>
            obtain ⟨J1, f1, f2⟩ := OS.piece (e' := e) (show OS L.F h (.rd false t xs) (L.A q) (L.ft q) from k4) m4
            exact fin (fun _ => by
              have : OS L.F h (.rd false t ys) (pieceA (L.A q) i.toNat j.toNat e) J1 := OS.le (.rd e t ys) f1
              exact this) f2
          | flat => exact fin (J1 := fun _ => False) (fun hq => by cases hq) fun _ hz => hz.elim
          | fz => exact absurd rfl hnf
      · cases hk
    | nst q v w u' s i o' t ys =>
      simp only [absorbK] at hk
      split at hk
      · rename_i v' w' s' md t2 xs hq
        obtain ⟨g1, g2⟩ := bif_some hk
        simp only [Bool.and_eq_true] at g1
        obtain rfl := beq g1.1.1
        obtain rfl := beq g1.1.2
        have hss := beq g1.2
        obtain ⟨md0, k1, k2, k3, k4, k5, k6⟩ := row hq
        cases hv with
        | pl _ _ hf => cases hf
        | nst _ _ _ _ _ _ _ _ _ _ hone hv' =>
          obtain ⟨m1, m2, m3, m4, m5, m6⟩ := hv' _ _ _ _ _ k1
          obtain ⟨x, m7, m8⟩ := m6 hss
          cases hc : (q.beq r && u.beq u' && o.beq o' && own) with
          | true =>
            rw [hc] at g2
            simp only [Bool.and_eq_true] at hc
            obtain rfl := beq hc.1.1.1
            obtain rfl := beq hc.1.1.2
            obtain rfl := beq hc.1.2
            have ho0 := ho hc.2
            obtain ⟨md1, e1, e2, e3⟩ := R.get hq
            have := hmd _ _ _ _ _ _ ho0 e1
            subst this
            rw [← m1] at m5 m7
            have K := hkeep o v w s' t2 xs x t ys a ho0 e1 m7 m8 m5
            exact go (own1 := own) (c' := .rd false t ys) (J1 := JK o) g2 id R (fun _ h => h) ⟨fun _ h => h, id⟩ ⟨fun _ => K, fun F' q1 _ q3 => K.frz q1 (fun i b hi hb => q3 i b hi hb) fun e t xs hq => by cases hq; rfl, fun i hi => .inr hi⟩
          | false =>
            rw [hc] at g2
            cases hqr : q.beq r with
            | true => rw [hqr] at g2; cases g2
            | false =>
              rw [hqr] at g2
              obtain ⟨ρ1, d1, _, d3, d4⟩ := updK_ok g2
              refine go (own1 := false) (c' := .rd false t ys) (J1 := fun _ => False) d1 (by simp) (R.fzOne hq d3 d4) (fun _ h => h) ⟨fun _ h => .inl h, fun hz => hz.elim id fun hq => absurd hq (by rintro rfl; rw [Nat.beq_refl] at hqr; cases hqr)⟩ ⟨fun hq => (by cases hq), fun F' q1 q2 _ => ?_, fun _ hi => hi.elim⟩
              have hF := k5 F' q1 fun i b hi hb => q2 q i b (.inr (.inr rfl)) hi hb
              have hsub : ∀ {w id off ln lo : Nat} {ex : Bool}, L.A q = .sl w id off ln lo ex → F' id = h id := fun {w id off ln lo ex} hA => by
                rw [hA] at m5
                obtain ⟨b, hb⟩ : ∃ b, h id = some b := by
                  cases hh : h id with
                  | some b => exact ⟨b, rfl⟩
                  | none => simp [cellAt, hh] at m5
                rcases RowOk.idIn k4 hA with hi | ⟨b', hb'⟩
                · rw [hb]; exact q2 q _ b (.inr (.inr rfl)) hi hb
                · rw [q1 _ _ hb', H.fh _ _ hb']
              have m5' : cellAt F' (L.A q) i.toNat o' = some a := by
                generalize hA : L.A q = A at m5 hsub
                cases A with
                | sl w id off ln lo ex => simp only [cellAt] at m5 ⊢; rw [hsub rfl]; exact m5
                | _ => exact m5
              exact Fz.nested hF (fun _ _ hb => hb) (atI_some m7).2.1 m8 m5'
      · cases hk
    | nsub q v w u' s i o' p z t ys =>
      simp only [absorbK] at hk
      split at hk
      · rename_i v' w' s' md t2 xs hq
        obtain ⟨g1, g2⟩ := bif_some hk
        simp only [Bool.and_eq_true] at g1
        obtain rfl := beq g1.1.1
        obtain rfl := beq g1.1.2
        have hss := beq g1.2
        obtain ⟨md0, k1, k2, k3, k4, k5, k6⟩ := row hq
        cases hv with
        | pl _ _ hf => cases hf
        | nsub _ _ _ _ _ _ _ _ _ _ _ _ hone hv' =>
          obtain ⟨m1, m2, m3, m4, ⟨a0, m5, rfl⟩, _, _, m6⟩ := hv' _ _ _ _ _ k1
          obtain ⟨x, t3, zs, ws, m7, m8, m9, m10⟩ := m6 hss
          cases m10
          cases hc : (q.beq r && u.beq u' && o.beq o' && own) with
          | true =>
            rw [hc] at g2
            simp only [Bool.and_eq_true] at hc
            obtain rfl := beq hc.1.1.1
            obtain rfl := beq hc.1.1.2
            obtain rfl := beq hc.1.2
            have ho0 := ho hc.2
            obtain ⟨md1, e1, e2, e3⟩ := R.get hq
            have := hmd _ _ _ _ _ _ ho0 e1
            subst this
            rw [← m1] at m5 m7
            have K := hkeep o v w s' t2 xs x t zs a0 ho0 e1 m7 m8 m5
            obtain ⟨J1, f1, f2⟩ := OS.piece (e' := false) K m9
            exact go (own1 := own) (c' := .rd false t ys) (J1 := J1) g2 id R (fun _ h => h) ⟨fun _ h => h, id⟩ ⟨fun _ => f1, fun F' q1 _ q3 => f1.frz q1 (fun i b hi hb => q3 i b (f2 i hi) hb) fun e t xs hq => by cases hq; rfl, fun i hi => .inr (f2 i hi)⟩
          | false =>
            rw [hc] at g2
            cases hqr : q.beq r with
            | true => rw [hqr] at g2; cases g2
            | false =>
              rw [hqr] at g2
              obtain ⟨ρ1, d1, _, d3, d4⟩ := updK_ok g2
              refine go (own1 := false) (c' := .rd false t ys) (J1 := fun _ => False) d1 (by simp) (R.fzOne hq d3 d4) (fun _ h => h) ⟨fun _ h => .inl h, fun hz => hz.elim id fun hq => absurd hq (by rintro rfl; rw [Nat.beq_refl] at hqr; cases hqr)⟩ ⟨fun hq => (by cases hq), fun F' q1 q2 _ => ?_, fun _ hi => hi.elim⟩
              have hF := k5 F' q1 fun i b hi hb => q2 q i b (.inr (.inr rfl)) hi hb
              have hsub : ∀ {w id off ln lo : Nat} {ex : Bool}, L.A q = .sl w id off ln lo ex → F' id = h id := fun {w id off ln lo ex} hA => by
                rw [hA] at m5
                obtain ⟨b, hb⟩ : ∃ b, h id = some b := by
                  cases hh : h id with
                  | some b => exact ⟨b, rfl⟩
                  | none => simp [cellAt, hh] at m5
                rcases RowOk.idIn k4 hA with hi | ⟨b', hb'⟩
                · rw [hb]; exact q2 q _ b (.inr (.inr rfl)) hi hb
                · rw [q1 _ _ hb', H.fh _ _ hb']
              have m5' : cellAt F' (L.A q) i.toNat o' = some a0 := by
                generalize hA : L.A q = A at m5 hsub
                cases A with
                | sl w id off ln lo ex => simp only [cellAt] at m5 ⊢; rw [hsub rfl]; exact m5
                | _ => exact m5
              exact (Fz.nested hF (fun _ _ hb => hb) (atI_some m7).2.1 m8 m5').piece m9
      · cases hk
    | _ => cases hk
end
end Go.Proofs.Ytcngfjmfgeckmaa
namespace Go.Proofs.Ytcngfjmfgeckmaa
open Go
def Body (md : Md) (F h : Heap) (t : PT) (xs : List t.den) (es : List AV) (J : Ids0) : Prop := match md with
  | .own => OE F h t xs es J
  | _ => FzL F t xs es ∧ ∀ i, ¬ J i
def RowB (md : Md) (F h : Heap) (t : PT) (xs : List t.den) (A : AV) (I : Ids0) : Prop :=
  (A = .nils ∧ xs = [] ∧ ∀ i, ¬ I i) ∨ (A = .ro t.w true [] ∧ xs = [] ∧ ∀ i, ¬ I i) ∨
  ∃ id off lo ex b J, A = .sl t.w id off xs.length lo ex ∧ h id = some b ∧ off + lo ≤ b.length ∧ xs.length ≤ lo ∧ Body md F h t xs ((b.drop off).take xs.length) J ∧ ¬ J id ∧ ∀ i, I i ↔ i = id ∨ J i
section
variable {F F' h h' : Heap}
theorem Body.len {md : Md} {t : PT} {xs : List t.den} {es : List AV} {J : Ids0} (hb : Body md F h t xs es J) : es.length = xs.length := by
  cases md with
  | own => exact OE.len hb
  | flat => exact hb.1.len
  | fz => exact hb.1.len
theorem Body.keep {md : Md} {t : PT} {xs : List t.den} {es : List AV} {J : Ids0} (hs : F.Sub F') (hb : Body md F h t xs es J) (hk : ∀ i, J i → h' i = h i) : Body md F' h' t xs es J := by
  cases md with
  | own => exact OE.keep hs hb hk
  | flat => exact ⟨hb.1.mono hs, hb.2⟩
  | fz => exact ⟨hb.1.mono hs, hb.2⟩
theorem Body.frz {md : Md} {t : PT} {xs : List t.den} {es : List AV} {J : Ids0} (hs : F.Sub F') (hb : Body md F h t xs es J) (hk : ∀ i b, J i → h i = some b → F' i = some b) : FzL F' t xs es := by
  cases md with
  | own => exact OE.frz hs hb hk
  | flat => exact hb.1.mono hs
  | fz => exact hb.1.mono hs
theorem Body.mat {t : PT} {xs : List t.den} {es : List AV} {J : Ids0} (hb : Body .own F h t xs es J) : ∃ J', Mat F h t xs es J' (fun _ _ => False) ∧ ∀ i, J i ↔ ∃ j o, J' j o i := OE.mat hb
theorem Body.nil {md : Md} (t : PT) : Body md F h t [] [] (fun _ => False) := by
  cases md with
  | own => exact OE.nil t _ fun _ => id
  | flat => exact ⟨.nil t, fun _ => id⟩
  | fz => exact ⟨.nil t, fun _ => id⟩
theorem Body.ofFlat {md : Md} {t : PT} {xs : List t.den} {es : List AV} {R : Heap} (ht : t.flat = true) (hl : FzL R t xs es) : Body md F h t xs es (fun _ => False) := by
  have M : Mat F h t xs es (fun _ _ _ => False) (fun _ _ => False) := hl.mat ht
  have O : OE F h t xs es (fun _ => False) := M.oe.eqv fun i => ⟨fun ⟨_, _, hj⟩ => hj, fun hj => hj.elim⟩
  cases md with
  | own => exact O
  | flat => exact ⟨OE.frz (fun _ _ hb => hb) O fun _ _ hj => hj.elim, fun _ => id⟩
  | fz => exact ⟨OE.frz (fun _ _ hb => hb) O fun _ _ hj => hj.elim, fun _ => id⟩
theorem RowB.keep {md : Md} {t : PT} {xs : List t.den} {A : AV} {I : Ids0} (hs : F.Sub F') (hb : RowB md F h t xs A I) (hk : ∀ i, I i → h' i = h i) : RowB md F' h' t xs A I := by
  rcases hb with h1 | h1 | ⟨id, off, lo, ex, b, J, h1, h2, h3, h4, h5, h6, h7⟩
  · exact .inl h1
  · exact .inr (.inl h1)
  · exact .inr (.inr ⟨id, off, lo, ex, b, J, h1, (hk _ ((h7 _).2 (.inl rfl))).trans h2, h3, h4, h5.keep hs fun i hi => hk i ((h7 i).2 (.inr hi)), h6, h7⟩)
theorem RowOk.rowB {L : Lay} {r : Nat} {md : Md} {t : PT} {xs : List t.den} (hr : RowOk L h r md none t xs) (hm : md.isFz = false) : RowB md L.F h t xs (L.A r) (L.ft r) := by
  cases md with
  | own =>
    have hr' : OS L.F h (.rd false t xs) (L.A r) (L.ft r) := hr
    generalize L.A r = A at hr'
    generalize L.ft r = I at hr'
    cases hr' with
    | rdn _ _ _ hI => exact .inl ⟨rfl, rfl, hI⟩
    | emp _ _ _ hI => exact .inr (.inl ⟨rfl, rfl, hI⟩)
    | sl _ _ _ id off lo ex b _ J hb hle hlo hc hid hI => exact .inr (.inr ⟨id, off, lo, ex, b, J, rfl, hb, hle, hlo, hc, hid, hI⟩)
  | flat =>
    rcases hr with h1 | h1 | ⟨id, off, lo, ex, b, h1, h2, h3, h4, h5, h6⟩
    · exact .inl h1
    · exact .inr (.inl h1)
    · exact .inr (.inr ⟨id, off, lo, ex, b, fun _ => False, h1, h2, h3, h4, ⟨h5, fun _ hq => hq⟩, fun hq => hq.elim, fun i => by rw [h6]; exact ⟨.inl, fun hq => hq.elim _root_.id False.elim⟩⟩)
  | fz => cases hm
theorem RowB.rowOk {L : Lay} {r : Nat} {md : Md} {t : PT} {xs : List t.den} (hb : RowB md L.F h t xs (L.A r) (L.ft r)) (hm : md.isFz = false) : RowOk L h r md none t xs := by
  cases md with
  | own =>
    show OS L.F h (.rd false t xs) (L.A r) (L.ft r)
    rcases hb with ⟨h1, rfl, h3⟩ | ⟨h1, rfl, h3⟩ | ⟨id, off, lo, ex, b, J, h1, h2, h3, h4, h5, h6, h7⟩
    · rw [h1]; exact .rdn _ _ _ h3
    · rw [h1]; exact .emp _ _ _ h3
    · rw [h1]; exact .sl _ _ _ id off lo ex b _ J h2 h3 h4 h5 h6 h7
  | flat =>
    rcases hb with h1 | h1 | ⟨id, off, lo, ex, b, J, h1, h2, h3, h4, h5, h6, h7⟩
    · exact .inl h1
    · exact .inr (.inl h1)
    · exact .inr (.inr ⟨id, off, lo, ex, b, h1, h2, h3, h4, h5.1, fun i => by rw [h7]; exact ⟨fun hq => hq.elim _root_.id fun hj => (h5.2 i hj).elim, .inl⟩⟩)
  | fz => cases hm
theorem RowB.hd {md : Md} {t : PT} {xs : List t.den} {A : AV} {I : Ids0} (hb : RowB md F h t xs A I) : HdOk t.w xs.length A := by
  rcases hb with ⟨h1, rfl, h3⟩ | ⟨h1, rfl, h3⟩ | ⟨id, off, lo, ex, b, J, h1, h2, h3, h4, h5, h6, h7⟩
  · rw [h1]; exact rfl
  · rw [h1]; exact ⟨rfl, rfl⟩
  · rw [h1]; exact ⟨rfl, rfl, h4⟩
end
section
variable {B : Bas} {cx : Cx} {L : Lay} {Es : List Env} {E : Env} {h h' : Heap} {n n' : Nat}
variable {env : SEnv} {ρ0 ρ1 ρ2 : Roots} {nx mc nx' mc' : Nat} {D Z : Nat → Prop}
theorem Gam.row0 (H : Gam B cx ⟨env, ρ0, nx, mc⟩ L Es E h n) {r v w s : Nat} {md : Md} {hl : Option (Nat × Nat)} {t : PT} {xs : List t.den} (hq : lkp ρ0 r = some (.row v w s md hl t xs)) : lkp cx.roots0 r = none := by
  cases hz : lkp cx.roots0 r with
  | none => rfl
  | some ρ => obtain ⟨_, _, h1, _⟩ := H.lkc r _ _ hq hz; cases h1
theorem AbsR.root (H : Gam B cx ⟨env, ρ0, nx, mc⟩ L Es E h n) (R : AbsR ρ0 ρ1 D Z) (env' : SEnv) (r : Nat) : (D r → rootOf cx ⟨env', ρ1, nx', mc'⟩ r = none) ∧ (Z r → ∃ v w s md t xs, rootOf cx ⟨env, ρ0, nx, mc⟩ r = some (.row v w s md none t xs) ∧ rootOf cx ⟨env', ρ1, nx', mc'⟩ r = some (.row v w s .fz none t xs)) ∧ (¬ D r → ¬ Z r → rootOf cx ⟨env', ρ1, nx', mc'⟩ r = rootOf cx ⟨env, ρ0, nx, mc⟩ r) := by
  refine ⟨fun hD => ?_, fun hZ => ?_, fun h1 h2 => ?_⟩
  · obtain ⟨h1, v, w, s, md, t, xs, h2⟩ := R.del r hD
    rw [rootOf_jn]
    simp only [h1, H.row0 h2]
    rfl
  · obtain ⟨_, v, w, s, md, t, xs, h1, h2⟩ := R.fz r hZ
    exact ⟨v, w, s, md, t, xs, lkp_root h1, lkp_root h2⟩
  · rw [rootOf_jn, rootOf_jn]
    simp only [R.look r h1 h2]
open Classical in
noncomputable def frzF (F h : Heap) (Y : Nat → Prop) : Heap := fun i => if Y i then h i else F i
theorem frzF_sub {F h : Heap} {Y : Nat → Prop} (hY : ∀ i, Y i → F i = none) : F.Sub (frzF F h Y) := fun i b hb => by
  unfold frzF
  rw [if_neg]
  · exact hb
  · intro hq; rw [hY i hq] at hb; cases hb
theorem frzF_at {F h : Heap} {Y : Nat → Prop} {i : Nat} {b : List AV} (hY : Y i) (hb : h i = some b) : frzF F h Y i = some b := by
  unfold frzF; rw [if_pos hY]; exact hb
theorem frzF_not {F h : Heap} {Y : Nat → Prop} {i : Nat} (hY : ¬ Y i) : frzF F h Y i = F i := by
  unfold frzF; rw [if_neg hY]
theorem frzF_from {F h : Heap} {Y : Nat → Prop} {i : Nat} {b : List AV} (hb : frzF F h Y i = some b) : F i = some b ∨ Y i ∧ h i = some b := by
  unfold frzF at hb
  split at hb
  · exact .inr ⟨by assumption, hb⟩
  · exact .inl hb
theorem Gam.absStep (H : Gam B cx ⟨env, ρ0, nx, mc⟩ L Es E h n) (R : AbsR ρ0 ρ1 D Z) {r0 v w s : Nat} {md : Md} {t : PT} {xs : List t.den} (hm : md.isFz = false)
    (h2 : ∀ r, lkp ρ2 r = if r = r0 then some (.row v w s md none t xs) else lkp ρ1 r) (nd2 : (ρ2.map Prod.fst).Nodup)
    (hr0 : r0 = nx ∨ ∃ v0 w0 s0 md0 hl0 t0 xs0, lkp ρ0 r0 = some (.row v0 w0 s0 md0 hl0 t0 xs0)) (hD0 : ¬ D r0) (hZ0 : ¬ Z r0)
    {F' : Heap} (F1 : L.F.Sub F') (F2 : F'.Sub h') (F3 : ∀ i b, F' i = some b → L.F i = some b ∨ ∃ q ρ, (q = r0 ∨ D q ∨ Z q) ∧ rootOf cx ⟨env, ρ0, nx, mc⟩ q = some ρ ∧ L.ft q i ∧ ρ.isC = false)
    (F4 : ∀ q i b, Z q → L.ft q i → h i = some b → F' i = some b)
    (hn : n ≤ n') (hfr : ∀ i, i < n → h' i = h i ∨ ∃ ρ, rootOf cx ⟨env, ρ0, nx, mc⟩ r0 = some ρ ∧ L.ft r0 i) (hlt : ∀ i b, h' i = some b → i < n')
    {A : AV} {I : Ids0} (hB : RowB md F' h' t xs A I) (hI : ∀ i, I i → F' i = none ∧ i < n' ∧ (n ≤ i ∨ ∃ q ρ, (q = r0 ∨ D q ∨ Z q) ∧ rootOf cx ⟨env, ρ0, nx, mc⟩ q = some ρ ∧ L.ft q i ∧ ρ.isC = false))
    (hnx : nx ≤ nx') (hlow : r0 < nx' ∧ v < nx' ∧ w < nx' ∧ s < nx') (hmc : mc' < nx') (hmm : (mc' = mc ∧ ∀ i, i < n → h' i = h i) ∨ nx ≤ mc')
    (hrow : r0 < nx → v < nx → ∃ w0 s0 md0 hl0 xs0, rootOf cx ⟨env, ρ0, nx, mc⟩ r0 = some (.row v w0 s0 md0 hl0 t xs0) ∧ A = L.A r0 ∧ xs.length = xs0.length ∧ (s < nx → s0 = s ∧ xs0 = xs) ∧
      (w < nx → w0 = w ∧ ∀ i o a, i < xs.length → listAt t o → cellAt h (L.A r0) i o = some a → cellAt h' (L.A r0) i o = some a)) :
    ∃ L', Gam B cx ⟨env, ρ2, nx', mc'⟩ L' Es E h' n' ∧ L'.A r0 = A ∧ L'.F = F' ∧ L'.U = L.U ∧ ∀ v a, TV L (rootOf cx ⟨env, ρ0, nx, mc⟩) mc h v a → v.lowN nx = true → TV L' (rootOf cx ⟨env, ρ2, nx', mc'⟩) mc' h' v a ∧ v.lowN nx' = true := by
  have rt := fun r => R.root (nx' := nx') (mc' := mc') H env r
  have rt2 : ∀ r, r ≠ r0 → rootOf cx ⟨env, ρ2, nx', mc'⟩ r = rootOf cx ⟨env, ρ1, nx', mc'⟩ r := fun r hr => by
    rw [rootOf_jn, rootOf_jn]; simp only [h2, if_neg hr]
  have rt0 : rootOf cx ⟨env, ρ2, nx', mc'⟩ r0 = some (.row v w s md none t xs) := lkp_root (by rw [h2, if_pos rfl])
  have old : ∀ r, ¬ (r = r0 ∨ D r ∨ Z r) → rootOf cx ⟨env, ρ2, nx', mc'⟩ r = rootOf cx ⟨env, ρ0, nx, mc⟩ r := fun r hr => by
    simp only [not_or] at hr
    rw [rt2 r hr.1, (rt r).2.2 hr.2.1 hr.2.2]
  have zrt : ∀ r, Z r → ∃ v w s md t xs, rootOf cx ⟨env, ρ0, nx, mc⟩ r = some (.row v w s md none t xs) ∧ rootOf cx ⟨env, ρ2, nx', mc'⟩ r = some (.row v w s .fz none t xs) := fun r hz => by
    obtain ⟨v, w, s, md, t, xs, k1, k2⟩ := (rt r).2.1 hz
    exact ⟨v, w, s, md, t, xs, k1, by rw [rt2 r (by rintro rfl; exact hZ0 hz)]; exact k2⟩
  let L1 : Lay := { L with F := F', A := fun r => open Classical in if r = r0 then A else L.A r, ft := fun r => open Classical in if r = r0 then I else if Z r then fun _ => False else L.ft r }
  have A0 : L1.A r0 = A := if_pos rfl
  have A1 : ∀ r, r ≠ r0 → L1.A r = L.A r := fun r hr => if_neg hr
  have f0 : L1.ft r0 = I := if_pos rfl
  have fz : ∀ r, Z r → L1.ft r = fun _ => False := fun r hr => by
    show (if r = r0 then I else _) = _
    rw [if_neg (by rintro rfl; exact hZ0 hr), if_pos hr]
  have f1 : ∀ r, r ≠ r0 → ¬ Z r → L1.ft r = L.ft r := fun r h1 h3 => by
    show (if r = r0 then I else _) = _
    rw [if_neg h1, if_neg h3]
  have zkeep : ∀ r, Z r → ∀ i, L.ft r i → i < n → h' i = h i := fun r hz i hi hin => by
    obtain ⟨v, w, s, md, t, xs, k1, k2⟩ := zrt r hz
    rcases hfr i hin with q1 | ⟨ρ, q1, q2⟩
    · exact q1
    · obtain rfl := H.ap r r0 _ _ i k1 q1 hi q2
      exact absurd hz hZ0
  have S : Stp cx ⟨env, ρ0, nx, mc⟩ ⟨env, ρ2, nx', mc'⟩ L L1 h h' n n' (fun r => r = r0 ∨ D r ∨ Z r) := {
    nx := hnx
    nn := hn
    env := rfl
    F := F1
    Fh := F2
    Fnew := fun i b hb => (F3 i b hb).imp id .inr
    fr := fun i hi => (hfr i hi).imp id fun ⟨ρ, k1, k2⟩ => ⟨r0, ρ, .inl rfl, k1, k2⟩
    lt := hlt
    old := fun r hr => by
      refine ⟨old r hr, ?_⟩
      simp only [not_or] at hr
      exact ⟨A1 r hr.1, rfl, f1 r hr.1 hr.2.2⟩
    U := fun _ _ => rfl
    row := fun r v' w' s' md' hl' t' xs' hX hq hlt1 hlt2 => by
      by_cases hr : r = r0
      · subst hr
        rw [rt0] at hq
        cases hq
        obtain ⟨w0, s0, md0, hl0, xs0, k1, k2, k3⟩ := hrow hlt1 hlt2
        exact ⟨w0, s0, md0, hl0, xs0, k1, by rw [A0, k2], k3⟩
      · rcases hX with hX | hX | hX
        · exact absurd hX hr
        · rw [rt2 r hr, (rt r).1 hX] at hq; cases hq
        · obtain ⟨v1, w1, s1, md1, t1, xs1, k1, k2⟩ := zrt r hX
          rw [k2] at hq
          cases hq
          refine ⟨_, _, _, _, _, k1, A1 r hr, rfl, fun _ => ⟨rfl, rfl⟩, fun _ => ⟨rfl, fun i o a _ _ hc => ?_⟩⟩
          generalize hA : L.A r = A2 at hc
          cases A2 with
          | sl w2 id off ln lo ex =>
            have : h' id = h id := by
              rcases RowOk.idIn (H.th r _ k1) hA with hf | ⟨b, hf⟩
              · exact zkeep r hX id hf (H.ftF r _ id k1 hf).2.2.1
              · rw [H.fh _ _ hf, F2 _ _ (F1 _ _ hf)]
            simp only [cellAt] at hc ⊢
            rw [this]; exact hc
          | _ => exact hc
    cell := fun c cs hX hq hlt1 => by
      by_cases hr : c = r0
      · subst hr; rw [rt0] at hq; cases hq
      · rcases hX with hX | hX | hX
        · exact absurd hX hr
        · rw [rt2 c hr, (rt c).1 hX] at hq; cases hq
        · obtain ⟨v1, w1, s1, md1, t1, xs1, k1, k2⟩ := zrt c hX
          rw [k2] at hq; cases hq
    low := fun r ρ hX hq => by
      by_cases hr : r = r0
      · subst hr
        rw [rt0] at hq
        cases hq
        exact ⟨hlow.1, hlow.2.1, hlow.2.2.1, hlow.2.2.2, fun u o hq => by cases hq⟩
      · rcases hX with hX | hX | hX
        · exact absurd hX hr
        · rw [rt2 r hr, (rt r).1 hX] at hq; cases hq
        · obtain ⟨v1, w1, s1, md1, t1, xs1, k1, k2⟩ := zrt r hX
          rw [k2] at hq
          cases hq
          have := H.lowT r _ k1
          exact ⟨Nat.lt_of_lt_of_le this.1 hnx, Nat.lt_of_lt_of_le this.2.1 hnx, Nat.lt_of_lt_of_le this.2.2.1 hnx, Nat.lt_of_lt_of_le this.2.2.2.1 hnx, fun u o hq => by cases hq⟩
    ft := fun r ρ i hX hq hi => by
      by_cases hr : r = r0
      · subst hr
        rw [rt0] at hq
        cases hq
        rw [f0] at hi
        exact hI i hi
      · rcases hX with hX | hX | hX
        · exact absurd hX hr
        · rw [rt2 r hr, (rt r).1 hX] at hq; cases hq
        · rw [fz r hX] at hi; exact hi.elim
    ap := fun r r' ρ ρ' i h1 h1' h3 h3' h5 h5' => by
      have key : ∀ r ρ, (r = r0 ∨ D r ∨ Z r) → rootOf cx ⟨env, ρ2, nx', mc'⟩ r = some ρ → L1.ft r i → r = r0 := fun r ρ hX hq hi => by
        by_cases hr : r = r0
        · exact hr
        · rcases hX with hX | hX | hX
          · exact hX
          · rw [rt2 r hr, (rt r).1 hX] at hq; cases hq
          · rw [fz r hX] at hi; exact hi.elim
      exact (key r ρ h1 h3 h5).trans (key r' ρ' h1' h3' h5').symm
    nd := nd2
    xk := fun r hX => by
      rcases hX with rfl | hX | hX
      · rcases hr0 with rfl | ⟨_, _, _, _, _, _, _, k⟩
        · exact .inr (Nat.le_refl _)
        · exact .inl ⟨_, k⟩
      · obtain ⟨_, _, _, _, _, _, _, k⟩ := R.del r hX; exact .inl ⟨_, k⟩
      · obtain ⟨_, _, _, _, _, _, _, k, _⟩ := R.fz r hX; exact .inl ⟨_, k⟩
    key := fun r x hx => by
      simp only at hx
      rw [h2] at hx
      split at hx
      · rename_i hr
        subst hr
        rcases hr0 with rfl | ⟨_, _, _, _, _, _, _, k⟩
        · exact .inr (Nat.le_refl _)
        · exact .inl ⟨_, k⟩
      · exact .inl (fst_lkp (R.sub r (lkp_fst hx)))
    lkc := fun r ρ ρ0' hq1 hq2 => by
      simp only at hq1
      rw [h2] at hq1
      split at hq1
      · rename_i hr
        subst hr
        exfalso
        rcases hr0 with rfl | ⟨v0, w0, s0, md0, hl0, t0, xs0, k⟩
        · rw [(H.rootHi (Nat.le_refl _)).2] at hq2; cases hq2
        · rw [H.row0 k] at hq2; cases hq2
      · by_cases hD : D r
        · rw [(R.del r hD).1] at hq1; cases hq1
        · by_cases hZ : Z r
          · obtain ⟨_, v1, w1, s1, md1, t1, xs1, k1, k2⟩ := R.fz r hZ
            rw [H.row0 k1] at hq2; cases hq2
          · rw [R.look r hD hZ] at hq1
            exact H.lkc r ρ ρ0' hq1 hq2 }
  have th : ∀ (R' : Heap) (r : Nat) (ρ : Root), (r = r0 ∨ D r ∨ Z r) → rootOf cx ⟨env, ρ2, nx', mc'⟩ r = some ρ → ThOk { L1 with R := R' } (rootOf cx ⟨env, ρ2, nx', mc'⟩) mc' h' r ρ := fun R' r ρ hX hq => by
    by_cases hr : r = r0
    · subst hr
      rw [rt0] at hq
      cases hq
      have hB' : RowB md F' h' t xs (L1.A r) (L1.ft r) := by
        show RowB md F' h' t xs (L1.A r) (L1.ft r)
        rw [A0, f0]; exact hB
      exact RowB.rowOk (L := { L1 with R := R' }) hB' hm
    · rcases hX with hX | hX | hX
      · exact absurd hX hr
      · rw [rt2 r hr, (rt r).1 hX] at hq; cases hq
      · obtain ⟨v1, w1, s1, md1, t1, xs1, k1, k2⟩ := zrt r hX
        rw [k2] at hq
        cases hq
        have hro : RowOk L h r md1 none t1 xs1 := H.th r _ k1
        refine ⟨?_, fun i hi => ?_⟩
        · show Fz F' _ (L1.A r)
          rw [A1 r hr]
          exact hro.frz F1 fun i b hi hb => F4 r i b hX hi hb
        · have hi' : L1.ft r i := hi
          rw [fz r hX] at hi'; exact hi'
  rcases hmm with ⟨rfl, hk⟩ | hmn
  · obtain ⟨R', G, tv⟩ := H.stepK S hmc rfl (fun i hi => .inl (hk i hi)) fun R' _ => th R'
    exact ⟨_, G, A0, rfl, rfl, tv⟩
  · obtain ⟨R', G, tv⟩ := H.stepW S hmc hmn fun R' _ => th R'
    exact ⟨_, G, A0, rfl, rfl, tv⟩
end
end Go.Proofs.Ytcngfjmfgeckmaa
namespace Go.Proofs.Ytcngfjmfgeckmaa
open Go
theorem LeL.get : ∀ {vs ws : List SV}, LeL vs ws → ∀ (o : Nat) (w : SV), ws[o]? = some w → ∃ v, vs[o]? = some v ∧ LeV v w
  | _, _, .nil, o, w, h => by simp at h
  | _, _, .cons v w vs ws hv hl, 0, u, h => by simp at h; subst h; exact ⟨v, rfl, hv⟩
  | _, _, .cons v w vs ws hv hl, o + 1, u, h => by simpa using LeL.get hl o u (by simpa using h)
section
variable {F h : Heap}
theorem svsOf_get : ∀ (l : List AV) (o : Nat), (svsOf l)[o]? = (l[o]?).map svOf
  | [], o => by simp [svsOf]
  | a :: l, 0 => by simp [svsOf]
  | a :: l, o + 1 => by simp [svsOf, svsOf_get l o]
theorem svsOf_len (l : List AV) : (svsOf l).length = l.length := by induction l <;> simp_all [svsOf]
theorem zero_os {t : PT} {z : t.den} {cs : List AV} (hz : implode t (svsOf cs) = some z) : cs.length = t.w ∧ ∀ (o : Nat) (v : SV) (a : AV), (explode t z)[o]? = some v → cs[o]? = some a → OS F h v a (fun _ => False) := by
  have hle := implode_le hz
  refine ⟨by have := hle.len; rw [explode_len, svsOf_len] at this; exact this.symm, fun o v a h1 h2 => ?_⟩
  obtain ⟨w, k1, k2⟩ := hle.get o v h1
  rw [svsOf_get, h2] at k1
  obtain rfl := Option.some.inj k1
  have hck := explode_ckne t z v (List.mem_of_getElem? h1)
  generalize hw : svOf a = w at k2
  cases k2 with
  | refl =>
    unfold svOf at hw
    split at hw <;> subst hw
    · exact .bool _ _ fun _ => id
    · exact .int _ _ _ fun _ => id
    · exact .str _ _ fun _ => id
    · exact absurd rfl hck
    · exact absurd rfl hck
    · exact absurd rfl hck
    · exact absurd rfl hck
    · exact absurd rfl hck
  | rd e t2 xs => unfold svOf at hw; split at hw <;> cases hw
  | nil t2 => unfold svOf at hw; split at hw <;> first | (cases hw; done) | exact .rdn _ _ _ fun _ => id
theorem rep_oe {t : PT} {z : t.den} {e : AV} (hz : implode t (svsOf e.cells) = some z) (hg : eOk t e) (ho : ∀ u, u ∈ e.cells → u.one = true) (m : Nat) : OE F h t (List.replicate m z) (List.replicate m e) (fun _ => False) := by
  obtain ⟨k1, k2⟩ := zero_os (F := F) (h := h) hz
  have M : Mat F h t (List.replicate m z) (List.replicate m e) (fun _ _ _ => False) (fun _ _ => False) :=
    ⟨by simp, fun j e' he => by rw [List.getElem?_replicate] at he; split at he <;> cases he; exact ⟨hg, k1, ho⟩, fun j x e' o v a h1 h2 h3 h4 _ => by
      have hj : j < m := by have := (List.getElem?_eq_some_iff.1 h1).1; simpa using this
      rw [List.getElem?_replicate, if_pos hj] at h1 h2
      cases h1; cases h2
      exact k2 o v a h3 h4, fun _ _ _ _ _ hj => hj.elim, fun _ _ _ hj => hj.elim⟩
  exact M.oe.eqv fun i => ⟨fun ⟨_, _, hj⟩ => hj, fun hj => hj.elim⟩
end
section
variable {B : Bas} {cx : Cx} {st : St} {L : Lay} {Es : List Env} {E : Env} {h : Heap} {n : Nat} {g : Pg} {α : Type} {y : α} {k : SV → St → Option α}
variable {env : SEnv} {ρ0 ρ1 : Roots} {nx mc : Nat} {D Z : Nat → Prop}
theorem mem_lkp {l : Roots} {x : Nat} (hx : x ∈ l.map Prod.fst) : ∃ b, lkp l x = some b := by
  induction l with
  | nil => cases hx
  | cons p l ih =>
    obtain ⟨a, b⟩ := p
    rw [lkp_cons]
    by_cases hq : x = a
    · rw [if_pos hq]; exact ⟨_, rfl⟩
    · rw [if_neg hq]
      simp only [List.map_cons, List.mem_cons] at hx
      exact ih (hx.resolve_left hq)
theorem AbsR.new (H : Gam B cx ⟨env, ρ0, nx, mc⟩ L Es E h n) (R : AbsR ρ0 ρ1 D Z) (x : Root) : (∀ r, lkp ((nx, x) :: ρ1) r = if r = nx then some x else lkp ρ1 r) ∧ (((nx, x) :: ρ1).map Prod.fst).Nodup ∧ ¬ D nx ∧ ¬ Z nx := by
  have hno : lkp ρ0 nx = none := (H.rootHi (Nat.le_refl _)).1
  refine ⟨fun r => lkp_cons _ _ _ _, List.nodup_cons.2 ⟨fun hm => ?_, R.nd⟩, fun hD => ?_, fun hZ => ?_⟩
  · obtain ⟨b, hb⟩ := mem_lkp (R.sub nx hm)
    rw [hno] at hb; cases hb
  · obtain ⟨_, _, _, _, _, _, _, k⟩ := R.del nx hD
    rw [hno] at k; cases k
  · obtain ⟨_, _, _, _, _, _, _, k, _⟩ := R.fz nx hZ
    rw [hno] at k; cases k
theorem Gam.newRow (H : Gam B cx ⟨env, ρ0, nx, mc⟩ L Es E h n) (R : AbsR ρ0 ρ1 D Z) {md : Md} {t : PT} {xs : List t.den} (hm : md.isFz = false)
    {F' : Heap} (F1 : L.F.Sub F') (F2 : F'.Sub h) (F3 : ∀ i b, F' i = some b → L.F i = some b ∨ ∃ q ρ, (D q ∨ Z q) ∧ rootOf cx ⟨env, ρ0, nx, mc⟩ q = some ρ ∧ L.ft q i ∧ ρ.isC = false)
    (F4 : ∀ q i b, Z q → L.ft q i → h i = some b → F' i = some b) {b : List AV} {lo : Nat} {ex : Bool} {J : Ids0} (hlo : lo ≤ b.length) (hxl : xs.length ≤ lo) (hb : Body md F' h t xs (b.take xs.length) J)
    (hJ : ∀ i, J i → F' i = none ∧ ∃ q ρ, D q ∧ rootOf cx ⟨env, ρ0, nx, mc⟩ q = some ρ ∧ L.ft q i ∧ ρ.isC = false) :
    ∃ L', Gam B cx ⟨env, (nx, .row nx nx nx md none t xs) :: ρ1, nx + 1, mc⟩ L' Es E (h.upd n b) (n + 1) ∧ TV L' (rootOf cx ⟨env, (nx, .row nx nx nx md none t xs) :: ρ1, nx + 1, mc⟩) mc (h.upd n b) (.row nx nx) (.sl t.w n 0 xs.length lo ex) ∧ L'.A nx = .sl t.w n 0 xs.length lo ex ∧ L'.F = F' ∧ L'.U = L.U ∧
      ∀ v a, TV L (rootOf cx ⟨env, ρ0, nx, mc⟩) mc h v a → v.lowN nx = true → TV L' (rootOf cx ⟨env, (nx, .row nx nx nx md none t xs) :: ρ1, nx + 1, mc⟩) mc (h.upd n b) v a ∧ v.lowN (nx + 1) = true := by
  obtain ⟨k1, k2, k3, k4⟩ := R.new H (.row nx nx nx md none t xs)
  have hn0 : h n = none := H.hlt' (Nat.le_refl n)
  have hupd : ∀ i, i < n → (h.upd n b) i = h i := fun i hi => by unfold Heap.upd; rw [if_neg (by omega)]
  have Fn : F' n = none := by
    cases hq : F' n with
    | none => rfl
    | some c => have := F2 _ _ hq; rw [hn0] at this; cases this
  have Jn : ∀ i, J i → i < n := fun i hi => by
    obtain ⟨_, q, ρ, q1, q2, q3, _⟩ := hJ i hi
    exact (H.ftF q ρ i q2 q3).2.2.1
  obtain ⟨L', G, a1, a2, a3, tv⟩ := H.absStep R (r0 := nx) (v := nx) (w := nx) (s := nx) (md := md) (t := t) (xs := xs) (nx' := nx + 1) (mc' := mc) (h' := h.upd n b) (n' := n + 1) (A := .sl t.w n 0 xs.length lo ex) (I := fun i => i = n ∨ J i) hm k1 k2 (.inl rfl) k3 k4 F1
    (fun i c hc => by
      have hc' := F2 i c hc
      rw [hupd i (H.hlt i c hc')]; exact hc')
    (fun i c hc => (F3 i c hc).imp id fun ⟨q, ρ, q1, q2⟩ => ⟨q, ρ, .inr q1, q2⟩) F4 (Nat.le_succ n) (fun i hi => .inl (hupd i hi))
    (fun i c hc => by
      by_cases hi : i = n
      · omega
      · unfold Heap.upd at hc; rw [if_neg hi] at hc; exact Nat.lt_succ_of_lt (H.hlt i c hc))
    (.inr (.inr ⟨n, 0, lo, ex, b, J, rfl, by simp [Heap.upd], by omega, hxl, by
      rw [List.drop_zero]
      exact hb.keep (fun _ _ hb => hb) fun i hi => hupd i (Jn i hi), fun hq => absurd (Jn n hq) (Nat.lt_irrefl n), fun i => Iff.rfl⟩))
    (fun i hi => by
      rcases hi with rfl | hi
      · exact ⟨Fn, Nat.lt_succ_self _, .inl (Nat.le_refl _)⟩
      · obtain ⟨j1, q, ρ, q1, q2, q3, q4⟩ := hJ i hi
        exact ⟨j1, Nat.lt_succ_of_lt (Jn i hi), .inr ⟨q, ρ, .inr (.inl q1), q2, q3, q4⟩⟩)
    (Nat.le_succ nx) ⟨Nat.lt_succ_self _, Nat.lt_succ_self _, Nat.lt_succ_self _, Nat.lt_succ_self _⟩ (Nat.lt_succ_of_lt H.mcl) (.inl ⟨rfl, hupd⟩) (fun hq => absurd hq (Nat.lt_irrefl _))
  refine ⟨L', G, .row _ _ _ rfl fun w s md' hl t' xs' hq => ?_, a1, a2, a3, tv⟩
  exact a1.symm
theorem row_low (nx : Nat) : (SV.row nx nx).lowN (nx + 1) = true := by simp only [SV.lowN, Bool.and_eq_true, Nat.blt_eq]; exact ⟨Nat.lt_succ_self _, Nat.lt_succ_self _⟩
theorem makeSlice_ok' (gk : POk g) (H : Gam B cx st L Es E h n) {t : TypeId} {l c : Operand} (hk : opS g cx st (.makeSlice t l c) k = some y) : opP g.T (.makeSlice t l c) (ev E) h n (Done B cx Es E y k) := by
  have hl := (H.ev l).1
  have hc := (H.ev c).1
  obtain ⟨env, ρ, nx, mc⟩ := st
  simp only [opS] at hk
  split at hk
  · rename_i e k1 a k2 b ht h1 h2
    rw [h1] at hl; rw [h2] at hc
    split at hk
    · rename_i pt hpt
      obtain ⟨q1, q2⟩ := bif_some hk
      simp only [Bool.and_eq_true] at q1
      have hw := Nat.eq_of_beq_eq_true q1.1
      split at q2
      · rename_i z env' ρ' nx' mc' hz hst
        cases hst
        obtain ⟨xs, q3, q4⟩ := Option.bind_eq_some_iff.1 q2
        unfold mkI at q3
        split at q3
        · rename_i hab
          obtain ⟨r1, rfl, r3⟩ := hab
          unfold roomI at r3
          simp only [Bool.and_eq_true, decide_eq_true_eq] at r3
          cases q3
          have hpos : 0 < (g.T e).sz := by rw [hw]; exact pt.w_pos
          obtain ⟨z1, z2, z3⟩ := gk.zero e hpos
          have hg : eOk pt (g.T e).zero := ⟨z1, fun hs => by have := q1.2; rw [hs] at this; simpa using this⟩
          obtain ⟨L', G, tv0, _⟩ := H.newRow (AbsR.refl H.nd) (md := .own) (t := pt) (xs := List.replicate a.toNat z) (b := List.replicate a.toNat (g.T e).zero) (lo := a.toNat) (ex := true) (J := fun _ => False) rfl (fun _ _ hb => hb) H.fh (fun i b hb => .inl hb) (fun _ _ _ hq => hq.elim) (by simp) (by simp)
            (by
              rw [List.length_replicate, List.take_of_length_le (by simp)]
              exact rep_oe hz hg z3 _) (fun i hi => hi.elim)
          refine ⟨e, k1, k2, a, a, ht, hpos, int_inv hl, int_inv hc, r1, Int.le_refl _, ?_, ?_, _, _, L', q4, ?_, row_low nx, G⟩
          · have e1 : ((g.T e).bytes : Int) * a = ((a.toNat * (g.T e).bytes : Nat) : Int) := by rw [Int.natCast_mul, Int.toNat_of_nonneg r1, Int.mul_comm]
            rw [e1]
            have := r3.1
            generalize a.toNat * (g.T e).bytes = m at this
            omega
          · have := r3.2
            omega
          · rw [List.length_replicate] at tv0
            rw [hw]; exact tv0
        · cases q3
      · cases q2
    · cases hk
  · cases hk
theorem AbsV.vec {D0 D Z : Nat → Prop} {JK : Nat → Ids0} {own : Bool} {new ws : List SV} {asl : List AV} {J : Nat → Ids0} {o0 : Nat} (hle : LeL new ws) (hal : asl.length = new.length) (hv : ∀ (j : Nat) v a, new[j]? = some v → asl[j]? = some a → AbsV L h D0 D Z (JK (o0 + j)) own v a (J j)) (hs : ∀ j i, J j i → j < new.length)
    (hd : ∀ j j' i, J j i → J j' i → j = j') : (own = true → Vec L.F h ws asl J) ∧ (∀ F', L.F.Sub F' → (∀ q i b, D q ∨ Z q → L.ft q i → h i = some b → F' i = some b) → (∀ o i b, JK o i → h i = some b → F' i = some b) → FzC F' ws asl) := by
  have hl := hle.len
  refine ⟨fun ho => ⟨by rw [hal, hl], fun o w a h1 h2 => ?_, hd, fun o i hi => by rw [hl]; exact hs o i hi⟩, fun F' q1 q2 q3 => FzC.of (by rw [hal, hl]) fun o w a h1 h2 => ?_⟩
  · obtain ⟨v, k1, k2⟩ := hle.get o w h1
    exact ((hv o v a k1 h2).1 ho).le k2
  · obtain ⟨v, k1, k2⟩ := hle.get o w h1
    exact ((hv o v a k1 h2).2.1 F' q1 q2 (q3 _)).le k2
theorem elems_ok (H : Gam B cx ⟨env, ρ0, nx, mc⟩ L Es E h n) {t : PT} : ∀ {parts : List (Nat × Operand)} {m : Nat} {own : Bool} {ρ : Roots} {D0 Z0 : Nat → Prop} {k : Bool → List t.den → Roots → Option α}, elemsK cx ⟨env, ρ0, nx, mc⟩ t m parts own ρ k = some y → AbsR ρ0 ρ D0 Z0 →
    ∃ (own' : Bool) (ys : List t.den) (ρ' : Roots) (D Z : Nat → Prop) (J : Nat → Nat → Ids0), k own' ys ρ' = some y ∧ AbsR ρ0 ρ' D Z ∧ (own' = true → own = true) ∧ (∀ q, D0 q → D q) ∧ (∀ q, Z0 q → Z q) ∧ (parts.map fun p => p.1) = List.range' m parts.length ∧
      (∀ p : Nat × Operand, p ∈ parts → (ev E p.2).cells.length = t.w ∧ (ev E p.2).good = true) ∧ ys.length = parts.length ∧ (own' = true → Mat L.F h t ys (parts.map fun p => ev E p.2) J (fun _ _ => False)) ∧ (∀ j o i, J j o i → j < parts.length ∧ ∃ q, D q ∧ ¬ D0 q ∧ L.ft q i) ∧
      (∀ F', L.F.Sub F' → (∀ q i b, D q ∨ Z q → L.ft q i → h i = some b → F' i = some b) → FzL F' t ys (parts.map fun p => ev E p.2))
  | [], m, own, ρ, D0, Z0, k, hk, R => ⟨own, [], ρ, D0, Z0, fun _ _ _ => False, hk, R, id, fun _ h => h, fun _ h => h, rfl, fun p hp => (by cases hp), rfl, fun _ => ⟨rfl, fun j e he => by simp at he, fun j x e o v a hx => by simp at hx, fun _ _ _ _ _ hj => hj.elim, fun _ _ _ hj => hj.elim⟩, fun _ _ _ hj => hj.elim, fun F' _ _ => .nil t⟩
  | (i, x) :: parts, m, own, ρ, D0, Z0, k, hk, R => by
    obtain ⟨q1, q2⟩ := bif_some hk
    simp only [Bool.and_eq_true] at q1
    obtain rfl := Nat.eq_of_beq_eq_true q1.1.1
    have hlen := Nat.eq_of_beq_eq_true q1.1.2
    have hno : lkp ρ0 nx = none := (H.rootHi (Nat.le_refl _)).1
    obtain ⟨hxv, hxl⟩ := H.ev x
    have hone : (evS cx ⟨env, ρ0, nx, mc⟩ x).oneV = true ∨ ∃ cs, evS cx ⟨env, ρ0, nx, mc⟩ x = .agg cs := by
      generalize evS cx ⟨env, ρ0, nx, mc⟩ x = v at q2 ⊢
      cases v with
      | agg cs => exact .inr ⟨cs, rfl⟩
      | tup => exact absurd q2 (by simp [SV.cells, explode_len, absorbK])
      | undef => exact absurd q2 (by simp [SV.cells, explode_len, absorbK])
      | lk => exact absurd q2 (by simp [SV.cells, explode_len, absorbK])
      | _ => exact .inl rfl
    have hc : TVs L (rootOf cx ⟨env, ρ0, nx, mc⟩) mc h (evS cx ⟨env, ρ0, nx, mc⟩ x).cells (ev E x).cells ∧ (ev E x).good = true ∧ (t.scal = true → (ev E x).one = true) := by
      rcases hone with ho | ⟨cs, hcs⟩
      · have h1 := hxv.one ho
        have : (evS cx ⟨env, ρ0, nx, mc⟩ x).cells = [evS cx ⟨env, ρ0, nx, mc⟩ x] := by
          generalize evS cx ⟨env, ρ0, nx, mc⟩ x = v at ho
          cases v <;> first | rfl | cases ho
        rw [this, one_cells h1]
        exact ⟨.cons _ _ _ _ hxv .nil, one_good h1, fun _ => h1⟩
      · have hsc : t.scal = false := by
          have := q1.2
          rw [hcs] at this
          simpa [SV.oneV] using this
        rw [hcs] at hxv ⊢
        obtain ⟨asl, ha, hcc⟩ := agg_inv hxv
        rw [ha]
        exact ⟨hcc, rfl, fun hq => by rw [hsc] at hq; cases hq⟩
    obtain ⟨hcc, hgood, hscal⟩ := hc
    obtain ⟨own1, new, ρ1, D1, Z1, J1, p1, p2, p3, p4, p5, p6, p7, p8, p9⟩ := absorb_ok H (own0 := own) (JK := fun _ _ => False) (fun o v w s t' xs x t ys a _ hq => by rw [hno] at hq; cases hq) (fun v w s md t' xs _ hq => by rw [hno] at hq; cases hq) t.flat q2 id R hcc
    split at p1
    · rename_i z hz
      have hle := implode_le hz
      have hal : (ev E x).cells.length = new.length := by rw [hcc.len, p4]
      obtain ⟨v1, v2⟩ := AbsV.vec (JK := fun _ _ => False) (o0 := 0) hle hal p7 (fun j i hj => by rw [p4]; exact (p8 j i hj).1) (p9 (.inl fun _ _ hq => hq))
      obtain ⟨own', ys, ρ', D, Z, J, r1, r2, r3, r4, r5, r6, r7, r8, r9, r10, r11⟩ := elems_ok H p1 p2
      have hxw : (ev E x).cells.length = t.w := by rw [hcc.len, hlen]
      have rt : ∀ {q}, D q → ∃ ρq, rootOf cx ⟨env, ρ0, nx, mc⟩ q = some ρq := fun hq => by
        obtain ⟨_, v, w, s, md, t, xs, hx⟩ := r2.del _ hq
        exact ⟨_, lkp_root hx⟩
      have sep : ∀ {o j o' i}, J1 o i → J j o' i → False := fun {o j o' i} k1 k2 => by
        rcases (p8 o i k1).2 with ⟨q, m1, m2, m3⟩ | m1
        · obtain ⟨_, q', n1, n2, n3⟩ := r10 j o' i k2
          obtain ⟨ρ3, e3⟩ := rt (r4 q m1)
          obtain ⟨ρ4, e4⟩ := rt n1
          obtain rfl := H.ap q q' _ _ i e3 e4 m3 n3
          exact n2 m1
        · exact m1
      refine ⟨own', z :: ys, ρ', D, Z, fun j => match j with | 0 => J1 | j + 1 => J j, r1, r2, fun hq => p3 (r3 hq), fun q hq => r4 q (p5 q hq), fun q hq => r5 q (p6.1 q hq), by simp [r6, List.range'_succ], fun p hp => ?_, by simp [r8], fun ho => ?_, fun j o i hj => ?_, fun F' f1 f2 => ?_⟩
      · rcases List.mem_cons.1 hp with rfl | hp
        · exact ⟨hxw, hgood⟩
        · exact r7 p hp
      · have V := v1 (r3 ho)
        have M := r9 ho
        refine ⟨by simp [r8], fun j e he => ?_, fun j z' e o v a h1 h2 h3 h4 h5 => ?_, fun j o j' o' i h1 h2 => ?_, fun j o i h1 => ?_⟩
        · cases j with
          | zero =>
            simp at he; subst he
            exact ⟨⟨hgood, hscal⟩, hxw, V.oc.one⟩
          | succ j => exact M.el j e (by simpa using he)
        · cases j with
          | zero => simp at h1 h2; subst h1; subst h2; exact V.cell o v a h3 h4
          | succ j => exact M.cell j z' e o v a (by simpa using h1) (by simpa using h2) h3 h4 h5
        · cases j with
          | zero => cases j' with
            | zero => exact ⟨rfl, V.dis _ _ i h1 h2⟩
            | succ j' => exact (sep h1 h2).elim
          | succ j => cases j' with
            | zero => exact (sep h2 h1).elim
            | succ j' => obtain ⟨k1, k2⟩ := M.dis _ _ _ _ i h1 h2; exact ⟨by rw [k1], k2⟩
        · cases j with
          | zero => exact ⟨by simp, by have := V.sup o i h1; rw [explode_len] at this; exact this, id⟩
          | succ j => obtain ⟨k1, k2, k3⟩ := M.sup j o i h1; exact ⟨by simpa using k1, k2, k3⟩
      · cases j with
        | zero =>
          rcases (p8 o i hj).2 with ⟨q, m1, m2, m3⟩ | m1
          · exact ⟨by simp, q, r4 q m1, m2, m3⟩
          · exact m1.elim
        | succ j =>
          obtain ⟨k0, q, k1, k2, k3⟩ := r10 j o i hj
          exact ⟨by simpa using k0, q, k1, fun hq => k2 (p5 q hq), k3⟩
      · refine .cons t z ys _ _ ⟨hgood, hscal⟩ (v2 F' f1 (fun q i b hq => f2 q i b (hq.imp (r4 q) (r5 q))) fun _ _ _ hq => hq.elim) (r11 F' f1 f2)
    · cases p1
def BuildOut (g : Pg) (cx : Cx) (env : SEnv) (ρ : Roots) (nx mc : Nat) (L : Lay) (E : Env) (h : Heap) (y : α) (t : TypeId) (len : Nat) (parts : Array (Nat × Operand)) (k : SV → St → Option α) : Prop :=
    ∃ e pt md ys ρ' D Z F' J', (g.T t).ty = .slice e ∧ (g.T e).sz = pt.w ∧ len * pt.w ≤ 16777216 ∧ parts.toList.map (fun p => p.1) = List.range len ∧ (∀ p : Nat × Operand, p ∈ parts.toList → (ev E p.2).cells.length = pt.w ∧ (ev E p.2).good = true) ∧ ys.length = len ∧ parts.toList.length = len ∧
      md.isFz = false ∧ AbsR ρ ρ' D Z ∧ L.F.Sub F' ∧ F'.Sub h ∧ (∀ i b, F' i = some b → L.F i = some b ∨ ∃ q ρq, (D q ∨ Z q) ∧ rootOf cx ⟨env, ρ, nx, mc⟩ q = some ρq ∧ L.ft q i ∧ ρq.isC = false) ∧ (∀ q i b, Z q → L.ft q i → h i = some b → F' i = some b) ∧
      Body md F' h pt ys (parts.toList.map fun p => ev E p.2) J' ∧ (∀ i, J' i → F' i = none ∧ ∃ q ρq, D q ∧ rootOf cx ⟨env, ρ, nx, mc⟩ q = some ρq ∧ L.ft q i ∧ ρq.isC = false) ∧ k (.row nx nx) ⟨env, (nx, .row nx nx nx md none pt ys) :: ρ', nx + 1, mc⟩ = some y
theorem buildS_out {env : SEnv} {ρ : Roots} {nx mc : Nat} (H : Gam B cx ⟨env, ρ, nx, mc⟩ L Es E h n) {t : TypeId} {len : Nat} {parts : Array (Nat × Operand)} (hk : opS g cx ⟨env, ρ, nx, mc⟩ (.buildSlice t len parts) k = some y) : BuildOut g cx env ρ nx mc L E h y t len parts k := by
  simp only [opS] at hk
  split at hk
  · rename_i e ht
    split at hk
    · rename_i pt hpt
      obtain ⟨q1, q2⟩ := bif_some hk
      simp only [Bool.and_eq_true] at q1
      have hw := Nat.eq_of_beq_eq_true q1.1.1
      have hlen := Nat.eq_of_beq_eq_true q1.1.2
      have hbd := Nat.le_of_ble_eq_true q1.2
      obtain ⟨own', ys, ρ', D, Z, J, r1, r2, r3, r4, r5, r6, r7, r8, r9, r10, r11⟩ := elems_ok H q2 (AbsR.refl H.nd)
      have hdrow : ∀ {q}, D q ∨ Z q → ∃ v w s md t xs, rootOf cx ⟨env, ρ, nx, mc⟩ q = some (.row v w s md none t xs) := fun hq => by
        rcases hq with hq | hq
        · obtain ⟨_, v, w, s, md, t, xs, hx⟩ := r2.del _ hq
          exact ⟨v, w, s, md, t, xs, lkp_root hx⟩
        · obtain ⟨_, v, w, s, md, t, xs, hx, _⟩ := r2.fz _ hq
          exact ⟨v, w, s, md, t, xs, lkp_root hx⟩
      have fin : ∀ {md : Md} {Y : Nat → Prop} {J' : Ids0}, md.isFz = false → (∀ i, Y i → ∃ q, (D q ∨ Z q) ∧ L.ft q i) → (∀ q i, Z q → L.ft q i → Y i) → (∀ i, J' i → ¬ Y i ∧ ∃ q, D q ∧ L.ft q i) → Body md (frzF L.F h Y) h pt ys (parts.toList.map fun p => ev E p.2) J' →
          k (.row nx nx) ⟨env, (nx, .row nx nx nx md none pt ys) :: ρ', nx + 1, mc⟩ = some y → BuildOut g cx env ρ nx mc L E h y t len parts k := fun {md Y J'} m0 y1 y2 j1 b1 kk => by
        have yF : ∀ i, Y i → L.F i = none := fun i hi => by
          obtain ⟨q, k1, k2⟩ := y1 i hi
          obtain ⟨_, _, _, _, _, _, k3⟩ := hdrow k1
          exact (H.ftF q _ i k3 k2).1
        exact ⟨e, pt, md, ys, ρ', D, Z, frzF L.F h Y, J', ht, hw, hbd, by rw [r6, hlen, List.range_eq_range'], r7, by rw [r8, hlen], hlen.symm, m0, r2, frzF_sub yF, fun i b hb => (frzF_from hb).elim (H.fh i b) (·.2),
          fun i b hb => (frzF_from hb).imp id fun ⟨hy, _⟩ => by
            obtain ⟨q, k1, k2⟩ := y1 i hy
            obtain ⟨_, _, _, _, _, _, k3⟩ := hdrow k1
            exact ⟨q, _, k1, k3, k2, rfl⟩,
          fun q i b hq hi hb => frzF_at (y2 q i hq hi) hb, b1, fun i hi => by
            obtain ⟨k1, q, k2, k3⟩ := j1 i hi
            obtain ⟨_, _, _, _, _, _, k4⟩ := hdrow (.inl k2)
            exact ⟨by rw [frzF_not k1]; exact (H.ftF q _ i k4 k3).1, q, _, k2, k4, k3, rfl⟩, kk⟩
      have apart : ∀ {q q' i}, D q → Z q' → L.ft q i → L.ft q' i → False := fun {q q' i} h1 h2 h3 h4 => by
        obtain ⟨_, _, _, _, _, _, k3⟩ := hdrow (.inl h1)
        obtain ⟨_, _, _, _, _, _, k4⟩ := hdrow (.inr h2)
        obtain rfl := H.ap q q' _ _ i k3 k4 h3 h4
        exact (r2.fz _ h2).1 h1
      have all : ∀ {md : Md}, md.isFz = false → (md = .own → pt.flat = true) → k (.row nx nx) ⟨env, (nx, .row nx nx nx md none pt ys) :: ρ', nx + 1, mc⟩ = some y → BuildOut g cx env ρ nx mc L E h y t len parts k := fun {md} m0 m1 kk => by
        have fl : FzL (frzF L.F h fun i => ∃ q, (D q ∨ Z q) ∧ L.ft q i) pt ys (parts.toList.map fun p => ev E p.2) := r11 _ (frzF_sub fun i ⟨q, k1, k2⟩ => by
          obtain ⟨_, _, _, _, _, _, k3⟩ := hdrow k1
          exact (H.ftF q _ i k3 k2).1) fun q i b hq hi hb => frzF_at ⟨q, hq, hi⟩ hb
        refine fin (md := md) (Y := fun i => ∃ q, (D q ∨ Z q) ∧ L.ft q i) (J' := fun _ => False) m0 (fun i hi => hi) (fun q i hq hi => ⟨q, .inr hq, hi⟩) (fun i hi => hi.elim) ?_ kk
        cases md with
        | own => exact Body.ofFlat (m1 rfl) fl
        | flat => exact ⟨fl, fun _ hq => hq⟩
        | fz => cases m0
      cases hf : pt.flat with
      | true =>
        rw [hf] at r1
        exact all (md := .own) rfl (fun _ => hf) r1
      | false =>
        rw [hf] at r1
        cases own' with
        | false => exact all (md := .flat) rfl (fun hq => by cases hq) r1
        | true =>
          have M := r9 rfl
          refine fin (md := .own) (Y := fun i => ∃ q, Z q ∧ L.ft q i) (J' := fun i => ∃ j o, J j o i) rfl (fun i ⟨q, k1, k2⟩ => ⟨q, .inr k1, k2⟩) (fun q i hq hi => ⟨q, hq, hi⟩) (fun i ⟨j, o, hi⟩ => ?_) ?_ r1
          · obtain ⟨_, q, k1, _, k2⟩ := r10 j o i hi
            exact ⟨fun ⟨q', k3, k4⟩ => apart k1 k3 k2 k4, q, k1, k2⟩
          · have M2 : Mat (frzF L.F h fun i => ∃ q, Z q ∧ L.ft q i) h pt ys (parts.toList.map fun p => ev E p.2) J (fun _ _ => False) := M.keep (frzF_sub fun i ⟨q, k1, k2⟩ => by
              obtain ⟨_, _, _, _, _, _, k3⟩ := hdrow (.inr k1)
              exact (H.ftF q _ i k3 k2).1) fun _ _ _ _ => rfl
            exact M2.oe
    · cases hk
  · cases hk
theorem buildSlice_ok' (H : Gam B cx st L Es E h n) {t : TypeId} {len : Nat} {parts : Array (Nat × Operand)} (hk : opS g cx st (.buildSlice t len parts) k = some y) : opP g.T (.buildSlice t len parts) (ev E) h n (Done B cx Es E y k) := by
  obtain ⟨env, ρ, nx, mc⟩ := st
  obtain ⟨e, pt, md, ys, ρ', D, Z, F', J', ht, hw, hbd, hr, hp, hy, hl, m0, R, f1, f2, f3, f4, b1, j1, kk⟩ := buildS_out H hk
  have hsz : (parts.toList.map fun p => ev E p.2).length = ys.length := by rw [List.length_map, hl, hy]
  obtain ⟨L', G, tv0, _⟩ := H.newRow R (md := md) (t := pt) (xs := ys) (b := parts.toList.map fun p => ev E p.2) (lo := len) (ex := true) (J := J') m0 f1 f2 f3 f4 (by rw [hsz, hy]; exact Nat.le_refl _) (by rw [hy]; exact Nat.le_refl _) (by rw [← hsz, List.take_length]; exact b1) j1
  refine ⟨e, ht, by rw [hw]; exact pt.w_pos, by rw [hw]; exact hbd, hr, fun p hq => by rw [hw]; exact hp p hq, _, _, L', kk, ?_, row_low nx, G⟩
  rw [hy] at tv0
  rw [hw]
  exact tv0
end
end Go.Proofs.Ytcngfjmfgeckmaa
namespace Go.Proofs.Ytcngfjmfgeckmaa
open Go
section
variable {L : Lay} {ρ : Rt} {mc : Nat} {h : Heap}
theorem TVs.of : ∀ {vs : List SV} {asl : List AV}, asl.length = vs.length → (∀ (o : Nat) (v : SV) (a : AV), vs[o]? = some v → asl[o]? = some a → TV L ρ mc h v a) → TVs L ρ mc h vs asl
  | [], [], _, _ => .nil
  | [], _ :: _, hl, _ => absurd hl (by simp)
  | _ :: _, [], hl, _ => absurd hl (by simp)
  | v :: vs, a :: asl, hl, hc => .cons v vs a asl (hc 0 v a rfl rfl) (TVs.of (by simpa using hl) fun o w b h1 h2 => hc (o + 1) w b (by simpa using h1) (by simpa using h2))
theorem TVs.getA : ∀ {vs : List SV} {asl : List AV}, TVs L ρ mc h vs asl → ∀ (o : Nat) (v : SV) (a : AV), vs[o]? = some v → asl[o]? = some a → TV L ρ mc h v a
  | _, _, .nil, o, v, a, h1, _ => by simp at h1
  | _, _, .cons v vs a asl hv hl, 0, w, b, h1, h2 => by simp at h1 h2; subst h1; subst h2; exact hv
  | _, _, .cons v vs a asl hv hl, o + 1, w, b, h1, h2 => TVs.getA hl o w b (by simpa using h1) (by simpa using h2)
end
theorem okC_get : ∀ {vs : List SV}, okC vs = true → ∀ (o : Nat) (v : SV), vs[o]? = some v → v.oneV = true
  | [], _, o, v, h => by simp at h
  | w :: vs, hk, 0, v, h => by simp only [okC, Bool.and_eq_true] at hk; simp at h; subst h; exact hk.1
  | w :: vs, hk, o + 1, v, h => by simp only [okC, Bool.and_eq_true] at hk; exact okC_get hk.2 o v (by simpa using h)
theorem spl_get {α : Type} (cs bs : List α) (i o : Nat) (hle : i + bs.length ≤ cs.length) : (cs.take i ++ bs ++ cs.drop (i + bs.length))[o]? = if o < i then cs[o]? else if o < i + bs.length then bs[o - i]? else cs[o]? := by
  have h1 : (cs.take i).length = i := by rw [List.length_take]; omega
  by_cases ho : o < i
  · rw [if_pos ho, List.append_assoc, List.getElem?_append_left (by omega), List.getElem?_take, if_pos ho]
  · rw [if_neg ho]
    by_cases ho2 : o < i + bs.length
    · rw [if_pos ho2, List.getElem?_append_left (by simp; omega), List.getElem?_append_right (by omega), h1]
    · rw [if_neg ho2, List.getElem?_append_right (by simp; omega), List.getElem?_drop]
      congr 1
      simp; omega
theorem spl_len {α : Type} (cs bs : List α) (i : Nat) (hle : i + bs.length ≤ cs.length) : (cs.take i ++ bs ++ cs.drop (i + bs.length)).length = cs.length := by
  simp; omega
theorem ovl_len : ∀ (cs cs0 : List SV), cs.length = cs0.length → (ovl cs cs0).length = cs.length
  | [], [], _ => rfl
  | [], _ :: _, h => absurd h (by simp)
  | _ :: _, [], h => absurd h (by simp)
  | a :: l, b :: r, h => by cases a <;> simp [ovl, ovl_len l r (by simpa using h)]
theorem ovl_get : ∀ (cs cs0 : List SV), cs.length = cs0.length → ∀ o : Nat, (ovl cs cs0)[o]? = match cs[o]? with | some .lk => cs0[o]? | x => x
  | [], [], _, o => by simp [ovl]
  | [], _ :: _, h, _ => absurd h (by simp)
  | _ :: _, [], h, _ => absurd h (by simp)
  | a :: l, b :: r, h, 0 => by cases a <;> simp [ovl]
  | a :: l, b :: r, h, o + 1 => by
    have := ovl_get l r (by simpa using h) o
    cases a <;> simpa [ovl] using this
def cellsOf (cx : Cx) (c : Nat) (cs : List SV) : List SV := match lkp cx.roots0 c with
  | some (.cell cs0) => ovl cs cs0
  | _ => cs
theorem rootOf_cell {cx : Cx} {st : St} {c : Nat} {cs : List SV} (hc : lkp st.roots c = some (.cell cs)) : rootOf cx st c = some (.cell (cellsOf cx c cs)) := by
  rw [rootOf_jn, hc]
  unfold cellsOf
  cases lkp cx.roots0 c with
  | none => rfl
  | some ρ => cases ρ <;> rfl
section
variable {B : Bas} {cx : Cx} {st : St} {L : Lay} {Es : List Env} {E : Env} {h : Heap} {n : Nat} {g : Pg} {α : Type} {y : α} {k : SV → St → Option α}
theorem cells_len (H : Gam B cx st L Es E h n) {c : Nat} {cs cs' : List SV} (hc : lkp st.roots c = some (.cell cs)) (hl : cs'.length = cs.length) : (cellsOf cx c cs').length = cs.length := by
  unfold cellsOf
  cases hz : lkp cx.roots0 c with
  | none => exact hl
  | some ρ0 =>
    obtain ⟨cs1, cs0, h1, rfl, h3⟩ := H.lkc c _ _ hc hz
    cases h1
    show (ovl cs' cs0).length = _
    rw [ovl_len _ _ (hl.trans h3), hl]
theorem cells_spl (H : Gam B cx st L Es E h n) {c : Nat} {cs bs : List SV} {i o : Nat} (hc : lkp st.roots c = some (.cell cs)) (hle : i + bs.length ≤ cs.length) (hok : okC bs = true) :
    (cellsOf cx c (cs.take i ++ bs ++ cs.drop (i + bs.length)))[o]? = if o < i then (cellsOf cx c cs)[o]? else if o < i + bs.length then bs[o - i]? else (cellsOf cx c cs)[o]? := by
  unfold cellsOf
  cases hz : lkp cx.roots0 c with
  | none => exact spl_get cs bs i o hle
  | some ρ0 =>
    obtain ⟨cs1, cs0, h1, rfl, h3⟩ := H.lkc c _ _ hc hz
    cases h1
    show (ovl _ cs0)[o]? = if o < i then (ovl cs cs0)[o]? else if o < i + bs.length then bs[o - i]? else (ovl cs cs0)[o]?
    rw [ovl_get _ _ (by rw [spl_len cs bs i hle]; exact h3), spl_get cs bs i o hle, ovl_get _ _ h3]
    by_cases ho : o < i
    · simp only [if_pos ho]
    · simp only [if_neg ho]
      by_cases ho2 : o < i + bs.length
      · simp only [if_pos ho2]
        cases hb : bs[o - i]? with
        | none => rfl
        | some v =>
          have := okC_get hok _ _ hb
          cases v <;> first | rfl | cases this
      · simp only [if_neg ho2]
theorem storeCell_ok (H : Gam B cx st L Es E h n) {t : TypeId} {pa px : Operand} {c off : Nat} (ha : evS cx st pa = .cp c off) (hk : storeS g cx st t (evS cx st pa) (evS cx st px) k = some y) : opP g.T (.store t pa px) (ev E) h n (Done B cx Es E y k) := by
  obtain ⟨hav, hal⟩ := H.ev pa
  obtain ⟨hxv, hxl⟩ := H.ev px
  rw [ha] at hk hav hal
  generalize hX : evS cx st px = X at hk hxv hxl
  obtain ⟨q1, q2⟩ := bif_some hk
  simp only [Bool.and_eq_true, Nat.blt_eq] at q1
  obtain ⟨⟨hsz, hok⟩, hpos⟩ := q1
  have hsz := Nat.eq_of_beq_eq_true hsz
  obtain ⟨env, ρ, nx, mc⟩ := st
  simp only at q2
  split at q2
  · rename_i cs hc
    obtain ⟨q3, hle⟩ := splK_ok q2
    obtain ⟨ρ', q4, _, hfst, hlk⟩ := updK_ok q3
    have hr : rootOf cx ⟨env, ρ, nx, mc⟩ c = some (.cell (cellsOf cx c cs)) := rootOf_cell hc
    cases hav with
    | pl _ _ hf => cases hf
    | cp _ _ _ _ hcp =>
      have hA := hcp _ hr
      obtain ⟨e, e1, e2, e3, e4, e5, e6⟩ := H.th _ _ hr
      have hcl : (cellsOf cx c cs).length = cs.length := cells_len H hc rfl
      have hel : e.cells.length = cs.length := by rw [e5.len, hcl]
      obtain ⟨hxc, hxg⟩ := hxv.cells hok
      have hxlen : (ev E px).cells.length = X.cells.length := hxc.len
      have hcells := setPart_cells (e := e) (u := ev E px) (off := off) (by omega) e3 (by omega)
      have hC : ∀ i, (h.upd (L.C c) [setPart e off (ev E px)]) i = if i = L.C c then some [setPart e off (ev E px)] else h i := fun i => rfl
      have hCn : L.C c < n := (H.ftF c _ _ hr ((e6 _).2 rfl)).2.2.1
      have rt : ∀ r, rootOf cx ⟨env, ρ', nx, mc⟩ r = if r = c then some (.cell (cellsOf cx c (cs.take off ++ X.cells ++ cs.drop (off + X.cells.length)))) else rootOf cx ⟨env, ρ, nx, mc⟩ r := fun r => by
        by_cases hrc : r = c
        · subst hrc
          rw [if_pos rfl]
          exact rootOf_cell (by simp only [hlk, if_pos])
        · rw [if_neg hrc, rootOf_jn, rootOf_jn]
          simp only [hlk, if_neg hrc]
      have hlen' : (cellsOf cx c (cs.take off ++ X.cells ++ cs.drop (off + X.cells.length))).length = cs.length := cells_len H hc (spl_len cs X.cells off hle)
      have hlow : SV.lowNs nx (cellsOf cx c (cs.take off ++ X.cells ++ cs.drop (off + X.cells.length))) = true := by
        have old := (H.lowT _ _ hr).2
        have key : ∀ (l : List SV), (∀ (o : Nat) v, l[o]? = some v → v.lowN nx = true) → SV.lowNs nx l = true := by
          intro l hl
          induction l with
          | nil => rfl
          | cons v l ih => simp only [SV.lowNs, Bool.and_eq_true]; exact ⟨hl 0 v rfl, ih fun o w hw => hl (o + 1) w (by simpa using hw)⟩
        refine key _ fun o v hv => ?_
        rw [cells_spl H hc hle hok] at hv
        split at hv
        · exact lowNs_get old hv
        · split at hv
          · exact lowNs_get (lowN_cells hxl) hv
          · exact lowNs_get old hv
      have S : Stp cx ⟨env, ρ, nx, mc⟩ ⟨env, ρ', nx, mc⟩ L L h (h.upd (L.C c) [setPart e off (ev E px)]) n n (fun r => r = c) := {
        nx := Nat.le_refl _
        nn := Nat.le_refl _
        env := rfl
        F := fun _ _ hb => hb
        Fh := fun i b hb => by
          rw [hC, if_neg]
          · exact H.fh i b hb
          · rintro rfl
            rw [(H.ftF c _ _ hr ((e6 _).2 rfl)).1] at hb; cases hb
        Fnew := fun i b hb => .inl hb
        fr := fun i hi => by
          by_cases hic : i = L.C c
          · exact .inr ⟨c, _, rfl, hr, (e6 i).2 hic⟩
          · exact .inl (by rw [hC, if_neg hic])
        lt := fun i b hb => by
          rw [hC] at hb
          split at hb
          · rename_i hic; rw [hic]; exact hCn
          · exact H.hlt i b hb
        old := fun r hrc => by rw [rt, if_neg hrc]; exact ⟨rfl, rfl, rfl, rfl⟩
        U := fun _ _ => rfl
        row := fun r v w s md hl t xs hrc hq => by rw [rt, if_pos hrc] at hq; cases hq
        cell := fun c' cs' hX' hq hlt => by
          rw [rt, if_pos hX'] at hq
          cases hq
          subst hX'
          exact ⟨_, hr, by rw [hlen', hcl], rfl⟩
        low := fun r ρr hX' hq => by
          rw [rt, if_pos hX'] at hq
          cases hq
          subst hX'
          exact ⟨(H.lowT _ _ hr).1, hlow⟩
        ft := fun r ρr i hX' hq hi => by
          subst hX'
          rw [rt, if_pos rfl] at hq
          cases hq
          have := H.ftF _ _ i hr hi
          exact ⟨this.1, this.2.2.1, .inr ⟨_, _, rfl, hr, hi, rfl⟩⟩
        ap := fun r r' _ _ _ h1 h2 _ _ _ _ => h1.trans h2.symm
        nd := by show (ρ'.map Prod.fst).Nodup; rw [hfst]; exact H.nd
        xk := fun r hX => .inl (by rw [hX]; exact ⟨_, hc⟩)
        key := fun r x hx => .inl (fst_lkp (by rw [← hfst]; exact lkp_fst hx))
        lkc := fun r ρr ρ0 h1 h2 => by
          simp only at h1
          rw [hlk] at h1
          split at h1
          · rename_i hrc
            subst hrc
            cases h1
            obtain ⟨cs1, cs0, k1, rfl, k3⟩ := H.lkc _ _ _ hc h2
            cases k1
            exact ⟨_, cs0, rfl, rfl, by rw [spl_len cs X.cells off hle]; exact k3⟩
          · exact H.lkc _ _ _ h1 h2 }
      obtain ⟨R, G, _⟩ := H.stepK S H.mcl rfl (fun i hi => by
        by_cases hic : i = L.C c
        · exact .inr ⟨c, _, hr, (e6 i).2 hic⟩
        · exact .inl (by rw [hC, if_neg hic])) (fun R T r ρr hX' hq => by
        rw [rt, if_pos hX'] at hq
        cases hq
        subst hX'
        refine ⟨setPart e off (ev E px), ?_, ?_, fun u hu => ?_, by rw [hlen']; omega, ?_, e6⟩
        · show (h.upd (L.C r) _) (L.C r) = _
          rw [hC, if_pos rfl]
        · cases e <;> first | exact hxg | rfl
        · rw [hcells] at hu
          simp only [List.mem_append] at hu
          rcases hu with (hu | hu) | hu
          · exact e3 u (List.mem_of_mem_take hu)
          · exact hxc.one hok u hu
          · exact e3 u (List.mem_of_mem_drop hu)
        · have e5' := e5.tr T (H.lowT _ _ hr).2
          have hxc' := hxc.tr T (lowN_cells hxl)
          refine TVs.of (by rw [hcells, hlen']; simp; omega) fun o v a h1 h2 => ?_
          rw [cells_spl H hc hle hok] at h1
          rw [hcells, hxlen] at h2
          have h2' := h2
          rw [show e.cells.take off ++ (ev E px).cells ++ e.cells.drop (off + X.cells.length) = e.cells.take off ++ (ev E px).cells ++ e.cells.drop (off + (ev E px).cells.length) by rw [hxlen], spl_get _ _ _ _ (by omega), hxlen] at h2'
          split at h1
          · rename_i ho
            rw [if_pos ho] at h2'
            exact e5'.getA o v a h1 h2'
          · rename_i ho
            rw [if_neg ho] at h2'
            split at h1
            · rename_i ho2
              rw [if_pos ho2] at h2'
              exact hxc'.getA _ v a h1 h2'
            · rename_i ho2
              rw [if_neg ho2] at h2'
              exact e5'.getA o v a h1 h2')
      refine ⟨_, L.C c, 0, 1, 1, true, 0, off, [e], e, hA, e1, rfl, hxg, by rw [hxlen, hsz], hpos, by omega, .undef, ⟨env, ρ', nx, mc⟩, { L with R := R }, q4, .undef _, rfl, G⟩
  · cases q2
end
end Go.Proofs.Ytcngfjmfgeckmaa
namespace Go.Proofs.Ytcngfjmfgeckmaa
open Go
def hlEx (L : Lay) (hl : Option (Nat × Nat)) (j o : Nat) : Prop := match hl with
  | none => False
  | some (u, o') => j = (L.U u).toNat ∧ o = o'
structure RowP (L : Lay) (h : Heap) (r : Nat) (md : Md) (t : PT) (xs : List t.den) (ex : Nat → Nat → Prop) (id off lo : Nat) (q : Bool) (b : List AV) (J : Nat → Nat → Ids0) : Prop where
  A : L.A r = .sl t.w id off xs.length lo q
  hb : h id = some b
  le : off + lo ≤ b.length
  xl : xs.length ≤ lo
  own : md = .own → Mat L.F h t xs ((b.drop off).take xs.length) J ex
  el : ∀ (j : Nat) (e : AV), ((b.drop off).take xs.length)[j]? = some e → eOk t e ∧ e.cells.length = t.w ∧ ∀ u, u ∈ e.cells → u.one = true
  frz : ∀ F', L.F.Sub F' → (∀ i c, (∃ j o, J j o i) → h i = some c → F' i = some c) → ∀ (j : Nat) (x : t.den) (e : AV) (o : Nat) (v : SV) (a : AV), xs[j]? = some x → ((b.drop off).take xs.length)[j]? = some e → (explode t x)[o]? = some v → e.cells[o]? = some a → ¬ ex j o → Fz F' v a
  nid : ∀ j o, ¬ J j o id
  ft : ∀ i, L.ft r i ↔ i = id ∨ ∃ j o, J j o i
  dis : ∀ j o j' o' i, J j o i → J j' o' i → j = j' ∧ o = o'
section
variable {L : Lay} {h : Heap}
theorem RowOk.rowP {r : Nat} {md : Md} {hl : Option (Nat × Nat)} {t : PT} {xs : List t.den} (hr : RowOk L h r md hl t xs) (hm : md.isFz = false) {i : Nat} (hi : i < xs.length) : ∃ id off lo q b J, RowP L h r md t xs (hlEx L hl) id off lo q b J := by
  cases hl with
  | none =>
    rcases hr.rowB hm with ⟨_, rfl, _⟩ | ⟨_, rfl, _⟩ | ⟨id, off, lo, q, b, J, h1, h2, h3, h4, h5, h6, h7⟩
    · simp at hi
    · simp at hi
    · cases md with
      | own =>
        obtain ⟨J', M, hJ⟩ := Body.mat h5
        exact ⟨id, off, lo, q, b, J', h1, h2, h3, h4, fun _ => M, M.el, fun F' f1 f2 j x e o v a k1 k2 k3 k4 _ => (M.cell j x e o v a k1 k2 k3 k4 _root_.id).frz f1 (fun i c hi hc => f2 i c ⟨j, o, hi⟩ hc) fun e t2 ys hq => explode_ex t x v (List.mem_of_getElem? k3) e t2 ys hq,
          fun j o hj => h6 ((hJ _).2 ⟨j, o, hj⟩), fun i => by rw [h7, hJ], M.dis⟩
      | flat =>
        refine ⟨id, off, lo, q, b, fun _ _ _ => False, h1, h2, h3, h4, fun hq => (by cases hq), fun j e he => ?_, fun F' f1 f2 j x e o v a k1 k2 k3 k4 _ => ((h5.1.getE j x e k1 k2).2.getA o v a k3 k4).mono f1, fun _ _ hj => hj, fun i => ?_, fun _ _ _ _ _ hj => hj.elim⟩
        · have hj : j < xs.length := by have := (List.getElem?_eq_some_iff.1 he).1; rw [h5.1.len] at this; exact this
          obtain ⟨q1, q2⟩ := h5.1.getE j _ e (List.getElem?_eq_getElem hj) he
          exact ⟨q1, by rw [q2.len, explode_len], q2.one⟩
        · rw [h7]
          exact ⟨fun hq => hq.imp _root_.id fun hj => (h5.2 i hj).elim, fun hq => hq.imp _root_.id fun ⟨_, _, hj⟩ => hj.elim⟩
      | fz => cases hm
  | some uo =>
    obtain ⟨u, o0⟩ := uo
    cases md with
    | own =>
      obtain ⟨id, off, lo, q, b, J, h1, h2, h3, h4, h5, h6, h7, M, h9, h10⟩ := hr
      exact ⟨id, off, lo, q, b, J, h1, h2, h3, h4, fun _ => M, M.el, fun F' f1 f2 j x e o v a k1 k2 k3 k4 k5 => (M.cell j x e o v a k1 k2 k3 k4 k5).frz f1 (fun i c hi hc => f2 i c ⟨j, o, hi⟩ hc) fun e t2 ys hq => explode_ex t x v (List.mem_of_getElem? k3) e t2 ys hq,
        h9, h10, M.dis⟩
    | flat => exact hr.elim
    | fz => exact hr.elim
theorem drop_set {α : Type} (b : List α) (off i len : Nat) (e : α) (hi : i < len) : ((b.set (off + i) e).drop off).take len = ((b.drop off).take len).set i e := by
  apply List.ext_getElem?
  intro k
  rw [List.getElem?_set, List.getElem?_take, List.getElem?_drop, List.getElem?_set, List.getElem?_take, List.getElem?_drop, List.length_take, List.length_drop]
  by_cases hk : i = k
  · subst hk
    rw [if_pos hi, if_pos rfl, if_pos rfl]
    by_cases hb : off + i < b.length
    · rw [if_pos hb, if_pos (by omega)]
    · rw [if_neg hb, if_neg (by omega)]
  · have : ¬ off + i = off + k := by omega
    simp only [if_neg hk, if_neg this]
end
section
variable {B : Bas} {cx : Cx} {st : St} {L : Lay} {Es : List Env} {E : Env} {h : Heap} {n : Nat} {g : Pg} {α : Type} {y : α} {k : SV → St → Option α}
theorem anyL_of : ∀ {vs : List SV} {o : Nat} {e : Bool} {t : PT} {ys : List t.den} {v : SV}, vs[o]? = some v → LeV v (.rd e t ys) → anyL vs = true
  | [], o, _, _, _, _, h, _ => by simp at h
  | w :: vs, 0, e, t, ys, v, h, hl => by
    simp at h; subst h
    cases hl <;> rfl
  | w :: vs, o + 1, e, t, ys, v, h, hl => by
    have := anyL_of (vs := vs) (o := o) (by simpa using h) hl
    cases w <;> simp [anyL, this]
theorem storeElem_ok (H : Gam B cx st L Es E h n) {t : TypeId} {pa px : Operand} {r v u s : Nat} {i : Int} {off : Nat} {cs0 : List SV} (ha : evS cx st pa = .ep r v u s i off cs0) (hk : storeS g cx st t (evS cx st pa) (evS cx st px) k = some y) : opP g.T (.store t pa px) (ev E) h n (Done B cx Es E y k) := by
  obtain ⟨hav, hal⟩ := H.ev pa
  obtain ⟨hxv, hxl⟩ := H.ev px
  rw [ha] at hk hav hal
  generalize hX : evS cx st px = X at hk hxv hxl
  obtain ⟨q1, q2⟩ := bif_some hk
  simp only [Bool.and_eq_true, Nat.blt_eq] at q1
  obtain ⟨⟨hsz, hok⟩, hpos⟩ := q1
  have hsz := Nat.eq_of_beq_eq_true hsz
  obtain ⟨env, ρ, nx, mc⟩ := st
  simp only at q2
  split at q2
  case h_2 => cases q2
  rename_i v' w s' md hole t' xs hlk
  obtain ⟨q3, q4⟩ := bif_some q2
  simp only [Bool.and_eq_true] at q3
  obtain ⟨⟨⟨c1, c2⟩, c3⟩, c4⟩ := q3
  obtain rfl := Nat.eq_of_beq_eq_true c1
  have hmd : md.isFz = false := by simpa using c3
  have hr : rootOf cx ⟨env, ρ, nx, mc⟩ r = some (.row v w s' md hole t' xs) := lkp_root hlk
  have hlow := H.lowT _ _ hr
  cases hav with
  | pl _ _ hf => cases hf
  | ep _ _ _ _ _ _ _ _ hone hv =>
    obtain ⟨k1, k2, k3, k4, k5⟩ := hv _ _ _ _ _ _ hr
    have hro : RowOk L h r md hole t' xs := H.th _ _ hr
    have hil : i.toNat < xs.length := by omega
    obtain ⟨id, off0, lo, qx, b, J, P⟩ := hro.rowP hmd hil
    have hidn := (H.ftF r _ id hr ((P.ft id).2 (.inl rfl)))
    have key : ∀ {x : t'.den}, atI xs i = some x → (dropK (explode t' x) off fun old => absorbK r u md.isOwn t'.flat off old X.cells ρ fun own' new ρ => splK (explode t' x) off new fun cs' =>
          match implode t' cs' with
          | some x' => updK ρ r (.row v (bif anyL new then nx else w) nx (ownOr t'.flat own') none t' (setI xs i x')) fun ρ => k .undef ⟨env, ρ, nx + 1, nx⟩
          | none => none) = some y → opP g.T (.store t pa px) (ev E) h n (Done B cx Es E y k) := fun {x} hx hgo => by
      have hx' : xs[i.toNat]? = some x := (atI_some hx).2.1
      have hes : ((b.drop off0).take xs.length).length = xs.length := by rw [List.length_take, List.length_drop]; have := P.le; have := P.xl; omega
      obtain ⟨e, he⟩ : ∃ e, ((b.drop off0).take xs.length)[i.toNat]? = some e := ⟨_, List.getElem?_eq_getElem (by omega)⟩
      have hbe := drop_take_get he
      obtain ⟨eg, ew, e1⟩ := P.el _ _ he
      obtain ⟨g1, g2⟩ := dropK_ok hgo
      obtain ⟨hxc, hxg⟩ := hxv.cells hok
      have cellA : ∀ o, cellAt h (L.A r) i.toNat o = e.cells[o]? := fun o => by rw [P.A]; simp [cellAt, P.hb, hbe]
      obtain ⟨own', new, ρ1, D, Z, Jn, p1, p2, p3, p4, p5, p6, p7, p8, p9⟩ := absorb_ok H (r := r) (u := u) (own0 := md.isOwn) (JK := fun o => J i.toNat o) (fun o v2 w2 s2 t2 xs2 x2 t3 ys a hq1 hq2 hq3 hq4 hq5 => by
        rw [hlk] at hq2
        cases hq2
        rw [k1] at hq3 hq5
        rw [hx] at hq3
        cases hq3
        rw [cellA] at hq5
        rw [nthS_get] at hq4
        exact (P.own rfl).cell _ _ _ _ _ _ hx' he hq4 hq5 _root_.id) (fun v2 w2 s2 md2 t2 xs2 hq1 hq2 => by
        rw [hlk] at hq2
        cases hq2
        cases md <;> first | rfl | cases hq1) t'.flat g1 (fun h => h) (AbsR.refl H.nd) hxc
      obtain ⟨s1, s2⟩ := splK_ok p1
      split at s1
      case h_2 => cases s1
      rename_i x' himp
      obtain ⟨ρ2, u1, ⟨oo, u2⟩, u3, u4⟩ := updK_ok s1
      have hDr : ¬ D r := fun hq => by have := (p2.del r hq).1; rw [this] at u2; cases u2
      have hZr : ¬ Z r := p6.2
      have hm' : X.cells.length = new.length := p4.symm
      have hxlen : (ev E px).cells.length = new.length := by rw [hxc.len, p4]
      have hew : (explode t' x).length = e.cells.length := by rw [explode_len, ew]
      have hcells := setPart_cells (e := e) (u := ev E px) (off := off) (by omega) e1 (by omega)
      have hle := implode_le himp
      have drow : ∀ {q}, D q ∨ Z q → ∃ v w s md t xs, rootOf cx ⟨env, ρ, nx, mc⟩ q = some (.row v w s md none t xs) := fun hq => by
        rcases hq with hq | hq
        · obtain ⟨_, v, w, s, md, t, xs, hx⟩ := p2.del _ hq
          exact ⟨v, w, s, md, t, xs, lkp_root hx⟩
        · obtain ⟨_, v, w, s, md, t, xs, hx, _⟩ := p2.fz _ hq
          exact ⟨v, w, s, md, t, xs, lkp_root hx⟩
      have nor : ∀ {q i}, D q ∨ Z q → L.ft q i → ¬ L.ft r i := fun {q i} h1 h2 h3 => by
        obtain ⟨_, _, _, _, _, _, h4⟩ := drow h1
        obtain rfl := H.ap q r _ _ i h4 hr h2 h3
        exact h1.elim hDr hZr
      have dz : ∀ {q q' i}, D q → Z q' → L.ft q i → L.ft q' i → False := fun {q q' i} h1 h2 h3 h4 => by
        obtain ⟨_, _, _, _, _, _, k3⟩ := drow (.inl h1)
        obtain ⟨_, _, _, _, _, _, k4⟩ := drow (.inr h2)
        obtain rfl := H.ap q q' _ _ i k3 k4 h3 h4
        exact (p2.fz _ h2).1 h1
      have Jr : ∀ {j o z}, J j o z → L.ft r z := fun hj => (P.ft _).2 (.inr ⟨_, _, hj⟩)
      have Jdis := p9 (.inr ⟨fun o o' i h1 h2 => (P.dis _ _ _ _ i h1 h2).2, fun o i h1 => Jr h1, hDr, _, hlk⟩)
      have cellN : ∀ {o w2 a}, (explode t' x')[o]? = some w2 → (setPart e off (ev E px)).cells[o]? = some a →
          (off ≤ o ∧ o < off + new.length ∧ ∃ v2, new[o - off]? = some v2 ∧ LeV v2 w2 ∧ (ev E px).cells[o - off]? = some a) ∨ ((o < off ∨ off + new.length ≤ o) ∧ ∃ v2, (explode t' x)[o]? = some v2 ∧ LeV v2 w2 ∧ e.cells[o]? = some a) := fun {o w2 a} h1 h2 => by
        obtain ⟨v2, h3, h4⟩ := hle.get o w2 h1
        rw [spl_get _ _ _ _ s2] at h3
        rw [hcells, spl_get _ _ _ _ (by omega), hxlen] at h2
        by_cases ho : o < off
        · rw [if_pos ho] at h2 h3
          exact .inr ⟨.inl ho, v2, h3, h4, h2⟩
        · rw [if_neg ho] at h2 h3
          by_cases ho2 : o < off + new.length
          · rw [if_pos ho2] at h2 h3
            exact .inl ⟨by omega, ho2, v2, h3, h4, h2⟩
          · rw [if_neg ho2] at h2 h3
            exact .inr ⟨.inr (by omega), v2, h3, h4, h2⟩
      have noex : ∀ {o}, (o < off ∨ off + new.length ≤ o) → ¬ hlEx L hole i.toNat o := fun {o} ho hq => by
        unfold hlEx at hq
        cases hole with
        | none => exact hq
        | some uo =>
          obtain ⟨u', o'⟩ := uo
          simp only [holeAt, Bool.and_eq_true] at c2
          have q1 := Nat.eq_of_beq_eq_true c2.1.2
          have q2 := Nat.eq_of_beq_eq_true c2.2
          obtain ⟨_, rfl⟩ := hq
          omega
      have noex2 : ∀ {j o}, j ≠ i.toNat → ¬ hlEx L hole j o := fun {j o} hj hq => by
        unfold hlEx at hq
        cases hole with
        | none => exact hq
        | some uo =>
          obtain ⟨u', o'⟩ := uo
          simp only [holeAt, Bool.and_eq_true] at c2
          have q1 := Nat.eq_of_beq_eq_true c2.1.1
          subst q1
          exact hj (by rw [hq.1, k1])
      have e'ok : eOk t' (setPart e off (ev E px)) ∧ (setPart e off (ev E px)).cells.length = t'.w ∧ ∀ z, z ∈ (setPart e off (ev E px)).cells → z.one = true := by
        refine ⟨⟨by cases e <;> first | exact hxg | rfl, fun hs => ?_⟩, by rw [hcells, spl_len _ _ _ (by omega), ew], fun z hz => ?_⟩
        · have he1 := eg.2 hs
          have hx1 : (ev E px).one = true := by
            rw [hs] at c4
            exact hxv.one (by simpa using c4)
          cases e <;> first | exact hx1 | cases he1
        · rw [hcells] at hz
          simp only [List.mem_append] at hz
          rcases hz with (hz | hz) | hz
          · exact e1 z (List.mem_of_mem_take hz)
          · exact hxc.one hok z hz
          · exact e1 z (List.mem_of_mem_drop hz)
      have hset : (((b.set (off0 + i.toNat) (setPart e off (ev E px))).drop off0).take xs.length) = ((b.drop off0).take xs.length).set i.toNat (setPart e off (ev E px)) := drop_set b off0 i.toNat xs.length _ hil
      have fin : ∀ {md' : Md} {Y : Nat → Prop} {J' : Ids0}, md'.isFz = false → (∀ z, Y z → (∃ q, (D q ∨ Z q) ∧ L.ft q z) ∨ ∃ j o, J j o z) → (∀ q z, Z q → L.ft q z → Y z) → (∀ z, J' z → ¬ Y z ∧ ((∃ q, D q ∧ L.ft q z) ∨ ∃ j o, J j o z)) →
          Body md' (frzF L.F h Y) h t' (setI xs i x') (((b.drop off0).take xs.length).set i.toNat (setPart e off (ev E px))) J' → md' = ownOr t'.flat own' → opP g.T (.store t pa px) (ev E) h n (Done B cx Es E y k) := fun {md' Y J'} m0 y1 y2 j1 b1 hmd' => by
        have yid : ¬ Y id := fun hq => by
          rcases y1 _ hq with ⟨q, h1, h2⟩ | ⟨j, o, h1⟩
          · exact nor h1 h2 ((P.ft _).2 (.inl rfl))
          · exact P.nid _ _ h1
        have yF : ∀ z, Y z → L.F z = none := fun z hz => by
          rcases y1 z hz with ⟨q, h1, h2⟩ | ⟨j, o, h1⟩
          · obtain ⟨_, _, _, _, _, _, h3⟩ := drow h1
            exact (H.ftF q _ z h3 h2).1
          · exact (H.ftF r _ z hr (Jr h1)).1
        have j2 : ∀ z, J' z → L.F z = none ∧ z < n ∧ z ≠ id := fun z hz => by
          rcases (j1 z hz).2 with ⟨q, h1, h2⟩ | ⟨j, o, h1⟩
          · obtain ⟨_, _, _, _, _, _, h3⟩ := drow (.inl h1)
            have := H.ftF q _ z h3 h2
            exact ⟨this.1, this.2.2.1, fun hq => nor (.inl h1) h2 ((P.ft _).2 (.inl hq))⟩
          · have := H.ftF r _ z hr (Jr h1)
            exact ⟨this.1, this.2.2.1, fun hq => P.nid _ _ (hq ▸ h1)⟩
        have hC : ∀ z, z ≠ id → (h.upd id (b.set (off0 + i.toNat) (setPart e off (ev E px)))) z = h z := fun z hz => by unfold Heap.upd; rw [if_neg hz]
        have hCi : (h.upd id (b.set (off0 + i.toNat) (setPart e off (ev E px)))) id = some (b.set (off0 + i.toNat) (setPart e off (ev E px))) := by simp
        have hlen : (setI xs i x').length = xs.length := by simp [setI]
        obtain ⟨L', G, a1, a2, a3, tv⟩ := H.absStep p2 (r0 := r) (v := v) (w := bif anyL new then nx else w) (s := nx) (md := md') (t := t') (xs := setI xs i x') (ρ2 := ρ2) (nx' := nx + 1) (mc' := nx) (F' := frzF L.F h Y) (h' := h.upd id (b.set (off0 + i.toNat) (setPart e off (ev E px)))) (n' := n) (A := L.A r) (I := fun z => z = id ∨ J' z) m0
          (by rw [hmd']; exact u4) (by rw [u3]; exact p2.nd) (.inr ⟨_, _, _, _, _, _, _, hlk⟩) hDr hZr (frzF_sub yF)
          (fun z c hc => by
            rcases frzF_from hc with hc | ⟨hy, hc⟩
            · rw [hC z (by rintro rfl; rw [hidn.1] at hc; cases hc)]; exact H.fh _ _ hc
            · rw [hC z (by rintro rfl; exact yid hy)]; exact hc)
          (fun z c hc => (frzF_from hc).imp _root_.id fun ⟨hy, _⟩ => by
            rcases y1 z hy with ⟨q, h1, h2⟩ | ⟨j, o, h1⟩
            · obtain ⟨_, _, _, _, _, _, h3⟩ := drow h1
              exact ⟨q, _, .inr h1, h3, h2, rfl⟩
            · exact ⟨r, _, .inl rfl, hr, Jr h1, rfl⟩)
          (fun q z c hq hi hc => frzF_at (y2 q z hq hi) hc) (Nat.le_refl n)
          (fun z hz => by
            by_cases hzi : z = id
            · exact .inr ⟨_, hr, (P.ft _).2 (.inl hzi)⟩
            · exact .inl (hC z hzi))
          (fun z c hc => by
            by_cases hzi : z = id
            · rw [hzi]; exact hidn.2.2.1
            · rw [hC z hzi] at hc; exact H.hlt z c hc)
          (.inr (.inr ⟨id, off0, lo, qx, b.set (off0 + i.toNat) (setPart e off (ev E px)), J', by rw [hlen]; exact P.A, hCi, by rw [List.length_set]; exact P.le, by rw [hlen]; exact P.xl, by
            rw [hlen, hset]
            exact b1.keep (fun _ _ hb => hb) fun z hz => hC z (j2 z hz).2.2, fun hq => (j2 id hq).2.2 rfl, fun z => Iff.rfl⟩))
          (fun z hz => by
            rcases hz with rfl | hz
            · refine ⟨by rw [frzF_not yid]; exact hidn.1, hidn.2.2.1, .inr ⟨r, _, .inl rfl, hr, (P.ft _).2 (.inl rfl), rfl⟩⟩
            · refine ⟨by rw [frzF_not (j1 z hz).1]; exact (j2 z hz).1, (j2 z hz).2.1, .inr ?_⟩
              rcases (j1 z hz).2 with ⟨q, h1, h2⟩ | ⟨j, o, h1⟩
              · obtain ⟨_, _, _, _, _, _, h3⟩ := drow (.inl h1)
                exact ⟨q, _, .inr (.inl h1), h3, h2, rfl⟩
              · exact ⟨r, _, .inl rfl, hr, Jr h1, rfl⟩)
          (Nat.le_succ nx) ⟨Nat.lt_succ_of_lt hlow.1, Nat.lt_succ_of_lt hlow.2.1, by cases anyL new with | true => exact Nat.lt_succ_self _ | false => exact Nat.lt_succ_of_lt hlow.2.2.1, Nat.lt_succ_self _⟩ (Nat.lt_succ_self _) (.inr (Nat.le_refl _))
          (fun _ _ => by
            refine ⟨w, s', md, hole, xs, hr, rfl, hlen, fun hq => absurd hq (Nat.lt_irrefl _), fun hq => ?_⟩
            cases hany : anyL new with
            | true => rw [hany] at hq; exact absurd hq (Nat.lt_irrefl _)
            | false =>
              refine ⟨rfl, fun j o a hj hla hcell => ?_⟩
              rw [P.A] at hcell ⊢
              simp only [cellAt, P.hb, Option.bind_some] at hcell
              simp only [cellAt, hCi, Option.bind_some]
              rw [List.getElem?_set]
              by_cases hji : j = i.toNat
              · subst hji
                have hlt : off0 + i.toNat < b.length := (List.getElem?_eq_some_iff.1 hbe).1
                rw [if_pos rfl, if_pos hlt]
                rw [hbe] at hcell
                simp only [Option.bind_some] at hcell ⊢
                obtain ⟨t2, zs, hz⟩ := hla x'
                rw [nthS_get] at hz
                have ho : o < e.cells.length := (List.getElem?_eq_some_iff.1 hcell).1
                obtain ⟨a', ha'⟩ : ∃ a', (setPart e off (ev E px)).cells[o]? = some a' := ⟨_, List.getElem?_eq_getElem (by rw [e'ok.2.1, ← ew]; exact ho)⟩
                rcases cellN hz ha' with ⟨_, _, v2, m1, m2, _⟩ | ⟨_, v2, _, _, m3⟩
                · have := anyL_of m1 m2
                  rw [hany] at this; cases this
                · rw [ha', ← m3]; exact hcell
              · rw [if_neg (by omega)]; exact hcell)
        have epx := k4
        rw [P.A] at epx
        obtain ⟨o', len', lo', ex', kk, hpa, m1, m2, m3⟩ := epx
        refine ⟨t'.w, id, o', len', lo', ex', kk, off, b, e, hpa, P.hb, by rw [m1]; exact hbe, hxg, by rw [hxc.len, hsz], hpos, by omega, .undef, ⟨env, ρ2, nx + 1, nx⟩, L', u1, .undef _, rfl, ?_⟩
        rw [m1]; exact G
      have esl : ∀ {j : Nat} {e2 : AV}, (((b.drop off0).take xs.length).set i.toNat (setPart e off (ev E px)))[j]? = some e2 → (j = i.toNat ∧ e2 = setPart e off (ev E px)) ∨ (j ≠ i.toNat ∧ ((b.drop off0).take xs.length)[j]? = some e2) := fun {j e2} h1 => by
        rw [List.getElem?_set] at h1
        by_cases hj : i.toNat = j
        · rw [if_pos hj, if_pos (by omega)] at h1
          exact .inl ⟨hj.symm, (Option.some.inj h1).symm⟩
        · rw [if_neg hj] at h1
          exact .inr ⟨fun hq => hj hq.symm, h1⟩
      have xsl : ∀ {j : Nat} {x2 : t'.den}, (setI xs i x')[j]? = some x2 → (j = i.toNat ∧ x2 = x') ∨ (j ≠ i.toNat ∧ xs[j]? = some x2) := fun {j x2} h1 => by
        unfold setI at h1
        rw [List.getElem?_set] at h1
        by_cases hj : i.toNat = j
        · rw [if_pos hj, if_pos hil] at h1
          exact .inl ⟨hj.symm, (Option.some.inj h1).symm⟩
        · rw [if_neg hj] at h1
          exact .inr ⟨fun hq => hj hq.symm, h1⟩
      have elen : (((b.drop off0).take xs.length).set i.toNat (setPart e off (ev E px))).length = (setI xs i x').length := by rw [List.length_set, hes]; simp [setI]
      have ro : ∀ {md' : Md}, md'.isFz = false → (md' = .own → t'.flat = true) → md' = ownOr t'.flat own' → opP g.T (.store t pa px) (ev E) h n (Done B cx Es E y k) := fun {md'} m0 m1 m2 => by
        have yF : ∀ z, ((∃ q, (D q ∨ Z q) ∧ L.ft q z) ∨ ∃ j o, J j o z) → L.F z = none := fun z hz => by
          rcases hz with ⟨q, h1, h2⟩ | ⟨j, o, h1⟩
          · obtain ⟨_, _, _, _, _, _, h3⟩ := drow h1
            exact (H.ftF q _ z h3 h2).1
          · exact (H.ftF r _ z hr (Jr h1)).1
        have fl : FzL (frzF L.F h fun z => (∃ q, (D q ∨ Z q) ∧ L.ft q z) ∨ ∃ j o, J j o z) t' (setI xs i x') (((b.drop off0).take xs.length).set i.toNat (setPart e off (ev E px))) := by
          refine FzL.of elen fun j x2 e2 h1 h2 => ?_
          rcases esl h2 with ⟨rfl, rfl⟩ | ⟨hj, h2⟩
          · rcases xsl h1 with ⟨_, rfl⟩ | ⟨hj, _⟩
            · refine ⟨e'ok.1, FzC.of (by rw [e'ok.2.1, explode_len]) fun o w2 a h3 h4 => ?_⟩
              rcases cellN h3 h4 with ⟨m3, m4, v2, m5, m6, m7⟩ | ⟨m3, v2, m5, m6, m7⟩
              · exact ((p7 _ v2 a m5 m7).2.1 _ (frzF_sub yF) (fun q z c hq hz hc => frzF_at (.inl ⟨q, hq, hz⟩) hc) fun z c hz hc => frzF_at (.inr ⟨_, _, hz⟩) hc).le m6
              · exact (P.frz _ (frzF_sub yF) (fun z c hz hc => frzF_at (.inr hz) hc) _ _ _ _ _ _ hx' he m5 m7 (noex m3)).le m6
            · exact absurd rfl hj
          · rcases xsl h1 with ⟨hj2, _⟩ | ⟨_, h1⟩
            · exact absurd hj2 hj
            · obtain ⟨z1, z2, z3⟩ := P.el _ _ h2
              exact ⟨z1, FzC.of (by rw [z2, explode_len]) fun o w2 a h3 h4 => P.frz _ (frzF_sub yF) (fun z c hz hc => frzF_at (.inr hz) hc) _ _ _ _ _ _ h1 h2 h3 h4 (noex2 hj)⟩
        refine fin (md' := md') (Y := fun z => (∃ q, (D q ∨ Z q) ∧ L.ft q z) ∨ ∃ j o, J j o z) (J' := fun _ => False) m0 (fun z hz => hz) (fun q z hq hz => .inl ⟨q, .inr hq, hz⟩) (fun z hz => hz.elim) ?_ m2
        cases md' with
        | own => exact Body.ofFlat (m1 rfl) fl
        | flat => exact ⟨fl, fun _ hq => hq⟩
        | fz => cases m0
      cases own' with
      | false =>
        cases hf : t'.flat with
        | true => exact ro (md' := .own) rfl (fun _ => hf) (by rw [hf]; rfl)
        | false => exact ro (md' := .flat) rfl (fun hq => by cases hq) (by rw [hf]; rfl)
      | true =>
        have hmo : md = .own := by have := p3 rfl; cases md <;> first | rfl | cases this
        have M := P.own hmo
        refine fin (md' := .own) (Y := fun z => ∃ q, Z q ∧ L.ft q z) (J' := fun z => ∃ j o, (if j = i.toNat ∧ off ≤ o ∧ o < off + new.length then Jn (o - off) z else J j o z)) rfl (fun z ⟨q, h1, h2⟩ => .inl ⟨q, .inr h1, h2⟩) (fun q z hq hz => ⟨q, hq, hz⟩) (fun z ⟨j, o, hz⟩ => ?_) ?_ (by cases t'.flat <;> rfl)
        · by_cases hc : j = i.toNat ∧ off ≤ o ∧ o < off + new.length
          · rw [if_pos hc] at hz
            rcases (p8 _ z hz).2 with ⟨q, h1, _, h2⟩ | h1
            · exact ⟨fun ⟨q', h3, h4⟩ => dz h1 h3 h2 h4, .inl ⟨q, h1, h2⟩⟩
            · exact ⟨fun ⟨q', h3, h4⟩ => nor (.inr h3) h4 (Jr h1), .inr ⟨_, _, h1⟩⟩
          · rw [if_neg hc] at hz
            exact ⟨fun ⟨q', h3, h4⟩ => nor (.inr h3) h4 (Jr hz), .inr ⟨_, _, hz⟩⟩
        · have M2 : Mat L.F h t' (setI xs i x') (((b.drop off0).take xs.length).set i.toNat (setPart e off (ev E px))) (fun j o z => if j = i.toNat ∧ off ≤ o ∧ o < off + new.length then Jn (o - off) z else J j o z) (fun _ _ => False) := by
            have jn : ∀ {o o' j' z}, Jn o z → ¬ (j' = i.toNat ∧ off ≤ o' ∧ o' < off + new.length) → J j' o' z → o < new.length → False := fun {o o' j' z} h1 h2 h3 h4 => by
              obtain ⟨h5, h6⟩ := p8 o z h1
              rcases h6 with ⟨q, m1, _, m2⟩ | m1
              · exact nor (.inl m1) m2 (Jr h3)
              · obtain ⟨m3, m4⟩ := P.dis _ _ _ _ z m1 h3
                exact h2 ⟨m3.symm, by omega, by omega⟩
            refine ⟨elen, fun j e2 h1 => ?_, fun j x2 e2 o w2 a h1 h2 h3 h4 _ => ?_, fun j o j' o' z h1 h2 => ?_, fun j o z h1 => ?_⟩
            · rcases esl h1 with ⟨rfl, rfl⟩ | ⟨hj, h1⟩
              · exact e'ok
              · exact M.el _ _ h1
            · rcases esl h2 with ⟨rfl, rfl⟩ | ⟨hj, h2⟩
              · rcases xsl h1 with ⟨_, rfl⟩ | ⟨hj, _⟩
                · rcases cellN h3 h4 with ⟨m3, m4, v2, m5, m6, m7⟩ | ⟨m3, v2, m5, m6, m7⟩
                  · exact (((p7 _ v2 a m5 m7).1 rfl).le m6).eqv fun z => by rw [if_pos ⟨rfl, m3, m4⟩]
                  · exact ((M.cell _ _ _ _ _ _ hx' he m5 m7 (noex m3)).le m6).eqv fun z => by rw [if_neg (by omega)]
                · exact absurd rfl hj
              · rcases xsl h1 with ⟨hj2, _⟩ | ⟨_, h1⟩
                · exact absurd hj2 hj
                · exact (M.cell _ _ _ _ _ _ h1 h2 h3 h4 (noex2 hj)).eqv fun z => by rw [if_neg (fun hq => hj hq.1)]
            · by_cases hc : j = i.toNat ∧ off ≤ o ∧ o < off + new.length
              · rw [if_pos hc] at h1
                by_cases hc' : j' = i.toNat ∧ off ≤ o' ∧ o' < off + new.length
                · rw [if_pos hc'] at h2
                  have := Jdis _ _ z h1 h2
                  omega
                · rw [if_neg hc'] at h2
                  exact (jn h1 hc' h2 (by omega)).elim
              · rw [if_neg hc] at h1
                by_cases hc' : j' = i.toNat ∧ off ≤ o' ∧ o' < off + new.length
                · rw [if_pos hc'] at h2
                  exact (jn h2 hc h1 (by omega)).elim
                · rw [if_neg hc'] at h2
                  exact P.dis _ _ _ _ z h1 h2
            · have hl2 : (setI xs i x').length = xs.length := by simp [setI]
              rw [hl2]
              by_cases hc : j = i.toNat ∧ off ≤ o ∧ o < off + new.length
              · exact ⟨by rw [hc.1]; exact hil, by rw [explode_len] at s2; omega, _root_.id⟩
              · rw [if_neg hc] at h1
                obtain ⟨z1, z2, _⟩ := M.sup _ _ _ h1
                exact ⟨z1, z2, _root_.id⟩
          exact (M2.keep (frzF_sub fun z ⟨q, h1, h2⟩ => by
            obtain ⟨_, _, _, _, _, _, h3⟩ := drow (.inr h1)
            exact (H.ftF q _ z h3 h2).1) fun _ _ _ _ => rfl).oe
    cases hb : s.beq s' with
    | true =>
      rw [hb] at q4
      obtain ⟨x, k7, rfl⟩ := k5 (Nat.eq_of_beq_eq_true hb)
      exact key k7 q4
    | false =>
      rw [hb] at q4
      obtain ⟨x, k7, k8⟩ := Option.bind_eq_some_iff.1 q4
      exact key k7 k8
end
end Go.Proofs.Ytcngfjmfgeckmaa
namespace Go.Proofs.Ytcngfjmfgeckmaa
open Go
section
variable {P : Program} {T : TE} {c : Cfg} {h : Heap} {n : Nat} {K : AV → Heap → Nat → Prop}
theorem zc_made' {z : Value} {m sz : Nat} (hz : z.cells.size = sz) : Builtin.zeroCells z.cells m = madeCells z.cells (m * sz) := by simp [Builtin.zeroCells, madeCells, hz]
theorem AppRun.zeros (hT : TEOk P T) {t t' e ty : TypeId} {k k0 : IntKind} (ht : (T t).ty = .slice e) (ht' : (T t').ty = .int k) (hpos : 0 < (T e).sz) {vx : Value} {m : Nat} {i : TypeInfo} {z : Value} (hi : P.info? e = some i) (i1 : i.size = (T e).sz) (i2 : i.bytes = (T e).bytes) (i3 : i.zero = some z) (hzs : z.cells.size = (T e).sz)
    (hm1 : m ≤ 140737488355328) (hm2 : m * (T e).bytes ≤ 140737488355328) (ho1 : ∀ x ∈ (Builtin.zeroCells z.cells m).toList, x.oneCell' = true) : AppRun P c (T e).sz (T e).bytes e vx m (Builtin.zeroCells z.cells m).toList (Builtin.append_ #[t, t'] ty #[vx, .int k0 m]) := by
  have hwr : IntKind.i64.wrap (m : Int) = m := by simp [IntKind.wrap, IntKind.bits, IntKind.signed]; omega
  have hneg : ¬ ((m : Int) < 0) := by omega
  have hmx : max (m : Int) 0 = m := by omega
  have hbm : ¬ (281474976710656 < (m : Int) * ((T e).bytes : Int)) := by
    have h2 : ((m * (T e).bytes : Nat) : Int) = (m : Int) * ((T e).bytes : Int) := by simp
    rw [← h2]; omega
  have hm0 : m * (T e).sz = 0 → Builtin.zeroCells z.cells m = #[] := fun hq => by rw [zc_made' hzs, hq]; simp [madeCells]
  refine ⟨fun base sLen sCap olds hx ho hlt hby h63 => ?_, fun base sLen sCap hm hx hle => ?_, fun b o sLen sCap arr E hx hb hle hroom h63 hby => ?_⟩
  · have hml : sLen + m ≤ maxLen := by unfold maxLen; omega
    refine ⟨z, grownCap c.w (sLen + m) sCap e, ?_, grownCap_ge _ _ _ _, grownCap_le_maxLen _ _ _ _ hml, hzs⟩
    have hfit := growslice_fits hlt hby
    have hnn : ¬ (sLen + m ≤ sCap) := by omega
    have h63' : ¬ (9223372036854775807 < ((sLen : Int) + (m : Int))) := by omega
    have h48' : ¬ (281474976710656 < Builtin.nextslicecap (sLen + m) sCap * (T e).bytes) := by omega
    have h1 := ho c.w.drew (fun a => by simp)
    subst hx
    by_cases hq : m * (T e).sz = 0
    · simp [Builtin.append_, run_underlying (hT.tslice t e ht), run_underlying (hT.tint t' k ht'), asInt, asIntOf, hmx, sizeOf, typeInfo, zeroValue, hi, i1, i2, i3, Builtin.lenOf, hnn, hwr, hneg, hbm, h63', h48', Question.forced, h1, hq, hm0 hq, newRow, grownCap]
    · simp [Builtin.append_, run_underlying (hT.tslice t e ht), run_underlying (hT.tint t' k ht'), asInt, asIntOf, hmx, sizeOf, typeInfo, zeroValue, hi, i1, i2, i3, Builtin.lenOf, hnn, hwr, hneg, hbm, h63', h48', Question.forced, h1, hq, newRow, grownCap]
  · subst hx; subst hm
    cases base <;> simp [Builtin.append_, run_underlying (hT.tslice t e ht), run_underlying (hT.tint t' k ht'), asInt, asIntOf, sizeOf, typeInfo, hi, i1, i2, Builtin.lenOf, hle, storeCells, hwr, hneg, hbm] <;> simp [IntKind.wrap, IntKind.bits, IntKind.signed, hle, storeCells]
  · subst hx
    have hfit : o + sLen * (T e).sz + (Builtin.zeroCells z.cells m).toList.length ≤ arr.size := by
      have := Nat.mul_le_mul_right (T e).sz hle
      rw [Nat.add_mul] at this
      have h3 : (Builtin.zeroCells z.cells m).toList.length = m * (T e).sz := by simp [size_zeroCells, hzs]
      omega
    have hst := run_storeCells_at P b (o + sLen * (T e).sz) E (Builtin.zeroCells z.cells m).toList 0 arr c.w hb (by simpa using hfit) ho1
    simp only [Nat.add_zero] at hst
    by_cases hq : m * (T e).sz = 0
    · rw [hm0 hq] at hst ⊢
      simp only at hst
      simp [Builtin.append_, run_underlying (hT.tslice t e ht), run_underlying (hT.tint t' k ht'), asInt, asIntOf, hmx, sizeOf, typeInfo, hi, i1, i2, Builtin.lenOf, hle, hwr, hneg, hbm, hq, Addr.add_lit, hst]
    · simp [Builtin.append_, run_underlying (hT.tslice t e ht), run_underlying (hT.tint t' k ht'), asInt, asIntOf, hmx, sizeOf, typeInfo, zeroValue, i3, hi, i1, i2, Builtin.lenOf, hle, hwr, hneg, hbm, hq, Addr.add_lit, hst]
def zP (T : TE) (o : Oper) (E : Env) (h : Heap) (n : Nat) (K : AV → Heap → Nat → Prop) : Prop :=
  ∃ (cl : Call) (x y : Operand) (t t' e : TypeId) (k k' : IntKind) (m : Nat), o.op = .call cl ∧ cl.callee = .builtin .append ∧ cl.args.toList = [x, y] ∧ cl.argTypes.toList = [t, t'] ∧ (T t').ty = .int k ∧ (T t).ty = .slice e ∧ 0 < (T e).sz ∧ ev E y = .int k' m ∧
    m ≤ 140737488355328 ∧ m * (T e).bytes ≤ 140737488355328 ∧ appTo T e (ev E x) (List.replicate m (T e).zero) h n K
theorem zP_ok (hT : TEOk P T) {o : Oper} {E : Env} {a : Act} (hh : HR c h) (hf : Fresh c n) (ht : ∀ t, VR c (E.get t) (a.tmps.getD t undef)) (hz : zP T o E h n K) : OpOk P c h n (execOp a.eval o) K := by
  obtain ⟨cl, x, y, t, t', e, k, k', m, q1, q2, q3, q4, q5, q6, hpos, q7, q8, q9, q10⟩ := hz
  have hv := SR.eval ht y
  rw [q7] at hv
  obtain ⟨v, hv'⟩ : ∃ v, v = a.eval y := ⟨_, rfl⟩
  rw [← hv'] at hv
  cases hv
  obtain ⟨i, z, hi, i1, i2, i3, i4, i5, i6⟩ := hT.info e hpos
  have hzs : z.cells.size = (T e).sz := by rw [(VR.cells (i4 c) i6).1, i5]
  obtain ⟨r1, r2, r3⟩ := zero_cells_rel (c := c) (m := m) (i4 c) i6 i5 hpos
  rw [← zc_made' hzs] at r3
  have ln : (Builtin.zeroCells z.cells m).toList.length = (List.replicate m (T e).zero).length * (T e).sz := by simp [size_zeroCells, hzs]
  have n1 : ∀ u ∈ (Builtin.zeroCells z.cells m).toList, u.oneCell' = true := fun u hu => by
    obtain ⟨j, hj, rfl⟩ := List.mem_iff_getElem.1 hu
    have hjs : j < m * (T e).sz := by simpa [size_zeroCells, hzs] using hj
    have hi1 : j / (T e).sz < m := Nat.div_lt_of_lt_mul (by rw [Nat.mul_comm]; exact hjs)
    have hi2 : j % (T e).sz < (T e).zero.cells.length := by rw [i5]; exact Nat.mod_lt _ hpos
    obtain ⟨x, g1, g2⟩ := r3 (j / (T e).sz) (T e).zero (j % (T e).sz) _ (by rw [List.getElem?_replicate, if_pos hi1]) (List.getElem?_eq_getElem hi2)
    have e1 : j / (T e).sz * (T e).sz + j % (T e).sz = j := by rw [Nat.mul_comm]; exact Nat.div_add_mod j _
    rw [e1] at g1
    have g1' : (Builtin.zeroCells z.cells m).toList[j]? = some x := by simpa using g1
    rw [List.getElem?_eq_getElem hj] at g1'
    rw [Option.some.inj g1']
    exact g2.one (i6 _ (List.getElem_mem _))
  have e3 := list2 q3
  have e4 := list2 q4
  refine append_okG hh hf hpos (SR.eval ht x) ln n1 (fun i q j u g1 g2 => by
    obtain ⟨x, p1, p2⟩ := r3 i q j u g1 g2
    exact ⟨x, by simpa using p1, p2⟩) r1 r2 (by
    rw [List.length_replicate]
    exact AppRun.zeros (k0 := k') (ty := o.type) hT q6 q5 hpos hi i1 i2 i3 hzs q8 q9 n1) q10 (fun v w' hr => ?_)
  simp [execOp, q1, q2, resolve, invoke, builtin, e3, e4, ← hv', hr]
def operB (P : Program) (T : TE) (o : Oper) (E : Env) (h : Heap) (n : Nat) (K : AV → Heap → Nat → Prop) : Prop := callA P T o E h n K ∨ zP T o E h n K
def stepB (P : Program) (T : TE) (ops : List Oper) (o : Oper) (E : Env) (h : Heap) (n : Nat) (K : Env → Heap → Nat → Prop) : Prop :=
  match o.guard with
  | none => operB P T o E h n (fun r h' n' => K (E.put o.dst r) h' n')
  | some (j, want) => match yieldA ops E j with
    | some y => if y = some want then operB P T o E h n (fun r h' n' => K (E.put o.dst r) h' n') else K (E.put o.dst (.tup [])) h n
    | none => False
def opsB (P : Program) (T : TE) (ops : List Oper) : List Oper → Env → Heap → Nat → (Env → Heap → Nat → Prop) → Prop
  | [], E, h, n, K => K E h n
  | o :: rest, E, h, n, K => stepB P T ops o E h n (fun E' h' n' => opsB P T ops rest E' h' n' K)
variable {N : Nat} {E : Env}
theorem operB_sound (hT : TEOk P T) {o : Oper} {b : Base} {a : Act} {w : World} {K : Env → Heap → Nat → Prop} {next : Act → World → Prop} {Q : Exit → Act → World → Prop} (hdN : ∀ t, o.dst = some t → t < N)
    (hs : SR b N E h n a w) (hc : operB P T o E h n (fun r h' n' => K (E.put o.dst r) h' n')) (hK : ∀ E' h' n' a' w', SR b N E' h' n' a' w' → K E' h' n' → next a' w') : o.wp P a w next Q := by
  rcases hc with hc | hc
  · exact callA_sound hT hdN hs hc hK
  · obtain ⟨c, rfl, e0, hh, hf, hn, hb, hd, hN, ht⟩ := hs
    obtain ⟨nx, c', r, h', n', v, q1, q2, q3, q4, q5, q6, q7, q8⟩ := zP_ok hT hh hf ht hc
    have hfin := hK _ _ _ _ _ (SR.put (d := o.dst) e0 hh hb hn hd hN ht hdN q3 q4 q5 q6 q7 rfl) q8
    unfold Oper.wp
    rw [q1]
    rcases q2 with rfl | ⟨rfl, rfl⟩
    · exact hfin
    · exact hfin
theorem stepB_sound (hT : TEOk P T) {ops : Array Oper} {o : Oper} {b : Base} {a : Act} {w : World} {K : Env → Heap → Nat → Prop} {next : Act → World → Prop} {Q : Exit → Act → World → Prop} (hdN : dstIn N o = true)
    (hs : SR b N E h n a w) (hc : stepB P T ops.toList o E h n K) (hK : ∀ E' h' n' a' w', SR b N E' h' n' a' w' → K E' h' n' → next a' w') :
    if Region.wanted o (yielded ops a.tmps) then o.wp P a w next Q else next (a.put o.dst undef) w := by
  have hd : ∀ t, o.dst = some t → t < N := fun t ht => by unfold dstIn at hdN; rw [ht] at hdN; simpa using hdN
  have hs0 := hs
  obtain ⟨c, rfl, e0, hh, hf, hn, hb, hdf, hN, ht⟩ := hs
  unfold stepB at hc
  unfold Region.wanted
  cases hg : o.guard with
  | none =>
    rw [hg] at hc
    simp only [if_true]
    exact operB_sound hT hd hs0 hc hK
  | some g =>
    obtain ⟨j, want⟩ := g
    rw [hg] at hc
    simp only at hc ⊢
    split at hc
    · rename_i y hy
      have hyd := yieldA_ok ht hy
      split at hc
      · rename_i hyw
        rw [if_pos (by simp [hyd, hyw])]
        exact operB_sound hT hd hs0 hc hK
      · rename_i hyw
        rw [if_neg (by simpa [hyd] using hyw)]
        exact hK _ _ _ _ _ (SR.put (d := o.dst) (v := undef) (r := .tup []) e0 hh hb hn hdf hN ht hd (Ext.refl c h _) hh hf (.tup _ _ rfl (fun i u v h => by simp at h)) (Nat.le_refl _) rfl) hc
    · exact hc.elim
theorem opsB_sound (hT : TEOk P T) {ops : Array Oper} {b : Base} {K : Env → Heap → Nat → Prop} {Q : Exit → Act → World → Prop} (hK : ∀ E' h' n' a' w', SR b N E' h' n' a' w' → K E' h' n' → Q .normal a' w') :
    ∀ (l : List Oper) {E : Env} {h : Heap} {n : Nat} {a : Act} {w : World}, l.all (dstIn N) = true → SR b N E h n a w → opsB P T ops.toList l E h n K → wpList P ops Q l a w
  | [], _, _, _, _, _, _, hs, hc => hK _ _ _ _ _ hs hc
  | o :: l, E, h, n, a, w, hd, hs, hc => by
    simp only [List.all_cons, Bool.and_eq_true] at hd
    refine wpList_step fun K' hK' => ?_
    exact stepB_sound hT hd.1 hs hc (fun E' h' n' a' w' hs' hc' => hK' _ _ (opsB_sound hT hK l hd.2 hs' hc'))
theorem WP.regionB (hT : TEOk P T) {Q : Exit → Env → Heap → Nat → Prop} {id : Nat} {l : List Oper} (hd : l.all (dstIn N) = true) (hc : opsB P T l l E h n (Q .normal)) : WP P N (.region id l.toArray false) Q E h n := fun _ _ _ hs =>
  wp_region_lit (opsB_sound (ops := l.toArray) hT (fun E' h' n' _ _ q1 q2 => ⟨E', h', n', q1, q2⟩) l hd hs hc)
end
end Go.Proofs.Ytcngfjmfgeckmaa
namespace Go.Proofs.Ytcngfjmfgeckmaa
open Go
section
variable {F F' h h' : Heap}
theorem OE.append {t : PT} {xs ys : List t.den} {es fs : List AV} {I J : Ids0} (h1 : OE F h t xs es I) (h2 : OE F h t ys fs J) (hd : ∀ i, I i → ¬ J i) : OE F h t (xs ++ ys) (es ++ fs) (fun i => I i ∨ J i) := by
  obtain ⟨I', M, hI⟩ := h1.mat
  obtain ⟨J', N, hJ⟩ := h2.mat
  have hl := M.len
  have MM : Mat F h t (xs ++ ys) (es ++ fs) (fun j o i => if j < xs.length then I' j o i else J' (j - xs.length) o i) (fun _ _ => False) := by
    refine ⟨by simp [M.len, N.len], fun j e he => ?_, fun j x e o v a k1 k2 k3 k4 _ => ?_, fun j o j' o' i k1 k2 => ?_, fun j o i k1 => ?_⟩
    · by_cases hj : j < xs.length
      · rw [List.getElem?_append_left (by omega)] at he; exact M.el j e he
      · rw [List.getElem?_append_right (by omega)] at he; exact N.el _ e he
    · by_cases hj : j < xs.length
      · rw [List.getElem?_append_left hj] at k1
        rw [List.getElem?_append_left (by omega)] at k2
        exact (M.cell j x e o v a k1 k2 k3 k4 id).eqv fun i => by rw [if_pos hj]
      · rw [List.getElem?_append_right (by omega)] at k1
        rw [List.getElem?_append_right (by omega), hl] at k2
        exact (N.cell _ x e o v a k1 k2 k3 k4 id).eqv fun i => by rw [if_neg hj]
    · by_cases hj : j < xs.length
      · rw [if_pos hj] at k1
        by_cases hj' : j' < xs.length
        · rw [if_pos hj'] at k2; exact M.dis _ _ _ _ i k1 k2
        · rw [if_neg hj'] at k2; exact (hd i ((hI i).2 ⟨_, _, k1⟩) ((hJ i).2 ⟨_, _, k2⟩)).elim
      · rw [if_neg hj] at k1
        by_cases hj' : j' < xs.length
        · rw [if_pos hj'] at k2; exact (hd i ((hI i).2 ⟨_, _, k2⟩) ((hJ i).2 ⟨_, _, k1⟩)).elim
        · rw [if_neg hj'] at k2
          obtain ⟨m1, m2⟩ := N.dis _ _ _ _ i k1 k2
          exact ⟨by omega, m2⟩
    · by_cases hj : j < xs.length
      · rw [if_pos hj] at k1
        obtain ⟨m1, m2, _⟩ := M.sup _ _ _ k1
        exact ⟨by simp; omega, m2, id⟩
      · rw [if_neg hj] at k1
        obtain ⟨m1, m2, _⟩ := N.sup _ _ _ k1
        exact ⟨by simp; omega, m2, id⟩
  refine MM.oe.eqv fun i => ⟨fun ⟨j, o, hi⟩ => ?_, fun hi => ?_⟩
  · by_cases hj : j < xs.length
    · rw [if_pos hj] at hi; exact .inl ((hI i).2 ⟨_, _, hi⟩)
    · rw [if_neg hj] at hi; exact .inr ((hJ i).2 ⟨_, _, hi⟩)
  · rcases hi with hi | hi
    · obtain ⟨j, o, hj⟩ := (hI i).1 hi
      exact ⟨j, o, by rw [if_pos (M.sup _ _ _ hj).1]; exact hj⟩
    · obtain ⟨j, o, hj⟩ := (hJ i).1 hi
      exact ⟨xs.length + j, o, by rw [if_neg (by omega), Nat.add_sub_cancel_left]; exact hj⟩
theorem RowB.pieceE {md : Md} {t : PT} {xs ys : List t.den} {A : AV} {I : Ids0} {i j : Int} (hb : RowB md F h t xs A I) (hs : slcI xs i j = some ys) (e : Bool) : ∃ I', RowB md F h t ys (pieceA A i.toNat j.toNat e) I' ∧ ∀ z, I' z → I z := by
  obtain ⟨h1, h2, h3, h4, h5⟩ := slcI_some hs
  rcases hb with ⟨rfl, rfl, hI⟩ | ⟨rfl, rfl, hI⟩ | ⟨id, off, lo, ex, b, J, rfl, hb, hle, hlo, hc, hid, hI⟩
  · exact ⟨I, .inl ⟨rfl, by subst h4; simp, hI⟩, fun _ hz => hz⟩
  · have hj : j.toNat = 0 := by simp at h3; omega
    refine ⟨I, .inr (.inl ⟨?_, by subst h4; simp, hI⟩), fun _ hz => hz⟩
    cases e <;> simp [pieceA, hj]
  · have hb' : ((b.drop off).take xs.length |>.drop i.toNat).take (j.toNat - i.toNat) = (b.drop (off + i.toNat)).take ys.length := by
      rw [h5, List.drop_take, List.take_take, List.drop_drop]
      congr 1; omega
    have hA : pieceA (.sl t.w id off xs.length lo ex) i.toNat j.toNat e = .sl t.w id (off + i.toNat) ys.length (if e = true then ys.length else lo - i.toNat) (if e = true then true else ex) := by simp only [pieceA, h5]
    rw [hA]
    have l1 : off + i.toNat + (if e = true then ys.length else lo - i.toNat) ≤ b.length := by split <;> omega
    have l2 : ys.length ≤ (if e = true then ys.length else lo - i.toNat) := by split <;> omega
    have fin : ∀ {J' : Ids0}, Body md F h t ys ((b.drop (off + i.toNat)).take ys.length) J' → (∀ z, J' z → J z) → ∃ I', RowB md F h t ys (.sl t.w id (off + i.toNat) ys.length (if e = true then ys.length else lo - i.toNat) (if e = true then true else ex)) I' ∧ ∀ z, I' z → I z := fun {J'} c1 c2 =>
      ⟨fun z => z = id ∨ J' z, .inr (.inr ⟨id, off + i.toNat, _, _, b, J', rfl, hb, l1, l2, c1, fun hq => hid (c2 _ hq), fun z => Iff.rfl⟩), fun z hz => (hI z).2 (hz.imp _root_.id (c2 z))⟩
    cases md with
    | own =>
      obtain ⟨J', M, hJ⟩ := Body.mat hc
      have M2 := M.slc hs
      rw [hb'] at M2
      exact fin (J' := fun z => ∃ k o, k < ys.length ∧ J' (i.toNat + k) o z) M2.oe fun z ⟨k, o, _, hz⟩ => (hJ z).2 ⟨_, _, hz⟩
    | flat =>
      have c := (hc.1.drop i.toNat).take (j.toNat - i.toNat)
      rw [hb', ← h4] at c
      exact fin (J' := fun _ => False) ⟨c, fun _ hq => hq⟩ fun _ hq => hq.elim
    | fz =>
      have c := (hc.1.drop i.toNat).take (j.toNat - i.toNat)
      rw [hb', ← h4] at c
      exact fin (J' := fun _ => False) ⟨c, fun _ hq => hq⟩ fun _ hq => hq.elim
theorem RowB.piece {md : Md} {t : PT} {xs ys : List t.den} {A : AV} {I : Ids0} {i j : Int} (hb : RowB md F h t xs A I) (hs : slcI xs i j = some ys) : ∃ I', RowB md F h t ys (pieceA A i.toNat j.toNat false) I' ∧ ∀ z, I' z → I z := hb.pieceE hs false
theorem RowB.rd {md : Md} {t : PT} {xs : List t.den} {A : AV} {I : Ids0} (hs : F.Sub h) (hb : RowB md F h t xs A I) : ∃ es J, rdSl h t.w A = some es ∧ Body md F h t xs es J ∧ (∀ i, J i → I i) ∧ ∀ {w id o ln lo ex}, A = .sl w id o ln lo ex → ¬ J id := by
  rcases hb with ⟨rfl, rfl, hI⟩ | ⟨rfl, rfl, hI⟩ | ⟨id, off, lo, ex, b, J, rfl, hb, hle, hlo, hc, hid, hI⟩
  · exact ⟨[], fun _ => False, rfl, Body.nil t, fun _ hj => hj.elim, fun hq => by cases hq⟩
  · exact ⟨[], fun _ => False, by simp [rdSl], Body.nil t, fun _ hj => hj.elim, fun hq => by cases hq⟩
  · exact ⟨_, J, by simp [rdSl, hb]; omega, hc, fun i hi => (hI i).2 (.inr hi), fun hq => by cases hq; exact hid⟩
end
section
variable {B : Bas} {cx : Cx} {L : Lay} {Es : List Env} {E : Env} {h : Heap} {n : Nat} {g : Pg} {α : Type} {y : α}
variable {env : SEnv} {ρ0 ρ1 ρ2 : Roots} {nx mc mc' : Nat} {D : Nat → Prop}
structure SrcOut (L : Lay) (h : Heap) (D : Nat → Prop) (own : Bool) (t : PT) (xs : List t.den) (a : AV) (es : List AV) : Prop where
  rd : rdSl h t.w a = some es
  own : own = true → ∃ J, OE L.F h t xs es J ∧ ∀ i, J i → ∃ q, D q ∧ L.ft q i
  fz : ∀ F', L.F.Sub F' → (∀ q i b, D q → L.ft q i → h i = some b → F' i = some b) → FzL F' t xs es
theorem castL_den {t' t : PT} {xs : List t'.den} {ys : List t.den} (h : castL t' t xs = some ys) : (⟨t', xs⟩ : LV) = ⟨t, ys⟩ := by
  obtain ⟨rfl, rfl⟩ := castL_ok h; rfl
theorem srcK_ok (H : Gam B cx ⟨env, ρ0, nx, mc⟩ L Es E h n) {flat : Bool} {v : SV} {a : AV} {t : PT} {k : Bool → List t.den → Roots → Option α} (hv : TV L (rootOf cx ⟨env, ρ0, nx, mc⟩) mc h v a) (hk : srcK cx ⟨env, ρ0, nx, mc⟩ flat v t ρ0 k = some y) (hfl : flat = true → t.flat = true) :
    ∃ (own : Bool) (xs : List t.den) (ρ' : Roots) (D : Nat → Prop) (es : List AV), k own xs ρ' = some y ∧ AbsR ρ0 ρ' D (fun _ => False) ∧ SrcOut L h D own t xs a es := by
  have asl : ∀ {k' : Src → (t : PT) → List t.den → Option α}, Go.Proofs.Ytcngfjmfgeckmaa.asL cx ⟨env, ρ0, nx, mc⟩ v k' = some y → ∃ c t xs, k' c t xs = some y ∧ SrcOk L h (rootOf cx ⟨env, ρ0, nx, mc⟩) c (.rd false t xs) a := fun hq => H.asL hv hq
  have flatOut : ∀ {c : Src} {xs : List t.den}, t.flat = true → SrcOk L h (rootOf cx ⟨env, ρ0, nx, mc⟩) c (.rd false t xs) a → ∃ es, SrcOut L h (fun _ => False) true t xs a es := fun {c xs} hf hs => by
    obtain ⟨es, q1, q2⟩ := (H.readR hs).rd H.rh
    exact ⟨es, q1, fun _ => ⟨_, Body.ofFlat (md := .own) hf q2, fun _ hi => hi.elim⟩, fun F' _ _ => (Body.ofFlat (md := .flat) (F := F') (h := h) hf q2).1⟩
  have rdOut : ∀ {xs : List t.den}, Fz L.F (.rd false t xs) a → ∃ es, SrcOut L h (fun _ => False) false t xs a es := fun {xs} hz => by
    obtain ⟨es, q1, q2⟩ := hz.rd H.fh
    exact ⟨es, q1, fun hq => (by cases hq), fun F' f1 _ => q2.mono f1⟩
  have gen : ∀ {k2 : Option α}, k2 = some y → (k2 = Go.Proofs.Ytcngfjmfgeckmaa.asL cx ⟨env, ρ0, nx, mc⟩ v fun c t' xs => match castL t' t xs with
      | some xs => (match flat with
        | true => k true xs ρ0
        | false => match c with
          | .fr => k false xs ρ0
          | _ => none)
      | none => none) → ∃ (own : Bool) (xs : List t.den) (ρ' : Roots) (D : Nat → Prop) (es : List AV), k own xs ρ' = some y ∧ AbsR ρ0 ρ' D (fun _ => False) ∧ SrcOut L h D own t xs a es := fun h1 h2 => by
    rw [h2] at h1
    obtain ⟨c, t', xs, q1, q2⟩ := asl h1
    split at q1
    · rename_i ys hc
      obtain ⟨rfl, rfl⟩ := castL_ok hc
      cases flat with
      | true =>
        obtain ⟨es, o⟩ := flatOut (hfl rfl) q2
        exact ⟨true, xs, ρ0, _, es, q1, AbsR.refl H.nd, o⟩
      | false =>
        cases c with
        | fr =>
          obtain ⟨es, o⟩ := rdOut q2
          exact ⟨false, xs, ρ0, _, es, q1, AbsR.refl H.nd, o⟩
        | live => cases q1
        | own r => cases q1
    · cases q1
  cases v with
  | nil => exact ⟨true, [], ρ0, _, [], hk, AbsR.refl H.nd, by rw [nil_inv hv]; exact ⟨rfl, fun _ => ⟨_, .nil t _ fun _ => id, fun _ hi => hi.elim⟩, fun _ _ _ => .nil t⟩⟩
  | row q w =>
    simp only [srcK] at hk
    split at hk
    · rename_i w' _ _ t' xs hq
      obtain ⟨q1, q2⟩ := bif_some hk
      obtain rfl := Nat.eq_of_beq_eq_true q1
      split at q2
      · rename_i ys hc
        obtain ⟨rfl, rfl⟩ := castL_ok hc
        have hr : rootOf cx ⟨env, ρ0, nx, mc⟩ q = _ := lkp_root hq
        cases hv with
        | pl _ _ hf => cases hf
        | row _ _ _ hone hv' =>
          obtain rfl := hv' _ _ _ _ _ _ hr
          have hro : RowOk L h q .fz none t' xs := H.th _ _ hr
          obtain ⟨es, o⟩ := rdOut hro.1
          exact ⟨false, xs, ρ0, _, es, q2, AbsR.refl H.nd, o⟩
      · cases q2
    · rename_i w' _ _ md t' xs hnf hq
      obtain ⟨q1, q2⟩ := bif_some hk
      obtain rfl := Nat.eq_of_beq_eq_true q1
      split at q2
      · rename_i ys hc
        obtain ⟨rfl, rfl⟩ := castL_ok hc
        obtain ⟨ρ1, d1, _, d3, d4, d5⟩ := delK_ok q2 H.nd
        have hr : rootOf cx ⟨env, ρ0, nx, mc⟩ q = _ := lkp_root hq
        cases hv with
        | pl _ _ hf => cases hf
        | row _ _ _ hone hv' =>
          obtain rfl := hv' _ _ _ _ _ _ hr
          have hro : RowOk L h q md none t' xs := H.th _ _ hr
          have hm : md.isFz = false := by cases md <;> first | rfl | exact absurd rfl hnf
          obtain ⟨es, J, r1, r2, r3, _⟩ := (hro.rowB hm).rd H.fh
          refine ⟨md.isOwn, xs, ρ1, _, es, d1, (AbsR.refl H.nd).delOne hq _root_.id d4 d3 d5, r1, fun ho => ?_, fun F' f1 f2 => r2.frz f1 fun i b hi hb => f2 q i b (.inr rfl) (r3 i hi) hb⟩
          cases md with
          | own => exact ⟨J, r2, fun i hi => ⟨q, .inr rfl, r3 i hi⟩⟩
          | flat => cases ho
          | fz => cases ho
      · cases q2
    · exact gen hk rfl
    · cases hk
  | _ => exact gen hk rfl
end
end Go.Proofs.Ytcngfjmfgeckmaa
namespace Go.Proofs.Ytcngfjmfgeckmaa
open Go
section
variable {B : Bas} {cx : Cx} {L : Lay} {Es : List Env} {E : Env} {h : Heap} {n : Nat} {g : Pg} {α : Type} {y : α}
variable {env : SEnv} {ρ0 ρ1 ρ2 : Roots} {nx mc mc' : Nat} {D : Nat → Prop}
theorem roomI_ok {by_ m : Nat} (h : roomI by_ m = true) : m * by_ ≤ 140737488355328 ∧ m ≤ 140737488355328 := by
  unfold roomI at h
  simpa using h
theorem app_core (H : Gam B cx ⟨env, ρ0, nx, mc⟩ L Es E h n) (R : AbsR ρ0 ρ1 D (fun _ => False)) {r0 : Nat} {md : Md} {own : Bool} {t : PT} {xs ys : List t.den} {A1 : AV} {I1 : Ids0} {es : List AV} {e : TypeId} {K : AV → Heap → Nat → Prop}
    (hm : md.isFz = false) (hB : RowB md L.F h t xs A1 I1) (hI1 : ∀ i, I1 i → ∃ ρ, rootOf cx ⟨env, ρ0, nx, mc⟩ r0 = some ρ ∧ L.ft r0 i ∧ ρ.isC = false)
    (hr0 : r0 = nx ∨ ∃ v0 w0 s0 md0 hl0 t0 xs0, lkp ρ0 r0 = some (.row v0 w0 s0 md0 hl0 t0 xs0)) (hD0 : ¬ D r0)
    (hown : own = true → ∃ J, OE L.F h t ys es J ∧ ∀ i, J i → ∃ q, D q ∧ L.ft q i) (hfz : ∀ F', L.F.Sub F' → (∀ q i b, D q → L.ft q i → h i = some b → F' i = some b) → FzL F' t ys es)
    (h2 : ∀ r, lkp ρ2 r = if r = r0 then some (.row nx nx nx (Md.of (md.isOwn && own)) none t (xs ++ ys)) else lkp ρ1 r) (nd2 : (ρ2.map Prod.fst).Nodup)
    (hsz : (g.T e).sz = t.w) (hroom : roomI (g.T e).bytes (xs.length + ys.length) = true) (hmm : (mc' = mc ∧ A1 = .nils) ∨ mc' = nx)
    (hK : ∀ A' h' n' L', Gam B cx ⟨env, ρ2, nx + 1, mc'⟩ L' Es E h' n' → TV L' (rootOf cx ⟨env, ρ2, nx + 1, mc'⟩) mc' h' (.row r0 nx) A' → K A' h' n') : appTo g.T e A1 es h n K := by
  obtain ⟨rb1, rb2⟩ := roomI_ok hroom
  have hesl : es.length = ys.length := (hfz (frzF L.F h fun i => ∃ q, D q ∧ L.ft q i) (frzF_sub fun i ⟨q, k1, k2⟩ => by
    obtain ⟨_, v, w, s, md, t, xs, hx⟩ := R.del q k1
    exact (H.ftF q _ i (lkp_root hx) k2).1) fun q i b hq hi hb => frzF_at ⟨q, hq, hi⟩ hb).len
  have drow : ∀ {q}, D q → ∃ v w s md t xs, rootOf cx ⟨env, ρ0, nx, mc⟩ q = some (.row v w s md none t xs) := fun hq => by
    obtain ⟨_, v, w, s, md, t, xs, hx⟩ := R.del _ hq
    exact ⟨v, w, s, md, t, xs, lkp_root hx⟩
  have apD : ∀ {q i}, D q → L.ft q i → ¬ I1 i := fun {q i} h1 h2' h3 => by
    obtain ⟨_, _, _, _, _, _, h4⟩ := drow h1
    obtain ⟨ρ, h5, h6, _⟩ := hI1 i h3
    obtain rfl := H.ap q r0 _ _ i h4 h5 h2' h6
    exact hD0 h1
  have I1n : ∀ i, I1 i → L.F i = none ∧ i < n := fun i hi => by
    obtain ⟨ρ, h5, h6, _⟩ := hI1 i hi
    have := H.ftF r0 ρ i h5 h6
    exact ⟨this.1, this.2.2.1⟩
  have Dn : ∀ {q i}, D q → L.ft q i → L.F i = none ∧ i < n := fun {q i} h1 h2' => by
    obtain ⟨_, _, _, _, _, _, h4⟩ := drow h1
    have := H.ftF q _ i h4 h2'
    exact ⟨this.1, this.2.2.1⟩
  obtain ⟨exs, J1, hrd, hbody, hJ1, hJid⟩ := hB.rd H.fh
  have hexl : exs.length = xs.length := hbody.len
  obtain ⟨F', J', F1, F3, hbd, hJ'⟩ : ∃ (F' : Heap) (J' : Ids0), L.F.Sub F' ∧ (∀ i b, F' i = some b → L.F i = some b ∨ (h i = some b ∧ ((∃ q, D q ∧ L.ft q i) ∨ J1 i))) ∧ Body (Md.of (md.isOwn && own)) F' h t (xs ++ ys) (exs ++ es) J' ∧ ∀ i, J' i → F' i = none ∧ ((∃ q, D q ∧ L.ft q i) ∨ J1 i) := by
    cases ho : (md.isOwn && own) with
    | true =>
      simp only [Bool.and_eq_true] at ho
      obtain ⟨J2, o1, o2⟩ := hown ho.2
      have hmo : md = .own := by cases md <;> first | rfl | cases ho.1
      subst hmo
      refine ⟨L.F, fun i => J1 i ∨ J2 i, fun _ _ hb => hb, fun i b hb => .inl hb, OE.append hbody o1 fun i h1 h3 => ?_, fun i hi => ?_⟩
      · obtain ⟨q, k1, k2⟩ := o2 i h3
        exact apD k1 k2 (hJ1 i h1)
      · rcases hi with hi | hi
        · exact ⟨(I1n i (hJ1 i hi)).1, .inr hi⟩
        · obtain ⟨q, k1, k2⟩ := o2 i hi
          exact ⟨(Dn k1 k2).1, .inl ⟨q, k1, k2⟩⟩
    | false =>
      have hs : L.F.Sub (frzF L.F h fun i => (∃ q, D q ∧ L.ft q i) ∨ J1 i) := frzF_sub fun i hi => by
        rcases hi with ⟨q, k1, k2⟩ | hi
        · exact (Dn k1 k2).1
        · exact (I1n i (hJ1 i hi)).1
      refine ⟨frzF L.F h fun i => (∃ q, D q ∧ L.ft q i) ∨ J1 i, fun _ => False, hs, fun i b hb => (frzF_from hb).imp id fun ⟨k1, k2⟩ => ⟨k2, k1⟩, ⟨FzL.append (hbody.frz hs fun i b hi hb => frzF_at (.inr hi) hb) (hfz _ hs fun q i b hq hi hb => frzF_at (.inl ⟨q, hq, hi⟩) hb), fun _ hq => hq⟩, fun i hi => hi.elim⟩
  have hmf : (Md.of (md.isOwn && own)).isFz = false := by cases (md.isOwn && own) <;> rfl
  have nid : ∀ {id}, I1 id → ¬ J1 id → ¬ ((∃ q, D q ∧ L.ft q id) ∨ J1 id) := fun h1 h3 hq => by
    rcases hq with ⟨q, k1, k2⟩ | hq
    · exact apD k1 k2 h1
    · exact h3 hq
  have fin : ∀ {A' : AV} {h' : Heap} {n' : Nat} {I' : Ids0}, RowB (Md.of (md.isOwn && own)) F' h' t (xs ++ ys) A' I' → (∀ i, I' i → F' i = none ∧ i < n' ∧ (n ≤ i ∨ (∃ q, D q ∧ L.ft q i) ∨ I1 i)) → n ≤ n' → (∀ i, i < n → h' i = h i ∨ I1 i) → (∀ i b, h' i = some b → i < n') → F'.Sub h' → ((∀ i, i < n → h' i = h i) ∨ mc' = nx) → K A' h' n' := fun {A' h' n' I'} b1 b2 b3 b4 b5 b6 b7 => by
    have src : ∀ {i}, (∃ q, D q ∧ L.ft q i) ∨ I1 i → ∃ q ρ, (q = r0 ∨ D q ∨ False) ∧ rootOf cx ⟨env, ρ0, nx, mc⟩ q = some ρ ∧ L.ft q i ∧ ρ.isC = false := fun hq => by
      rcases hq with ⟨q, k1, k2⟩ | hq
      · obtain ⟨_, _, _, _, _, _, k3⟩ := drow k1
        exact ⟨q, _, .inr (.inl k1), k3, k2, rfl⟩
      · obtain ⟨ρ, k1, k2, k3⟩ := hI1 _ hq
        exact ⟨r0, ρ, .inl rfl, k1, k2, k3⟩
    obtain ⟨L', G, a1, a2, a3, tv⟩ := H.absStep R (r0 := r0) (v := nx) (w := nx) (s := nx) (nx' := nx + 1) (mc' := mc') (h' := h') (n' := n') (A := A') (I := I') (F' := F') hmf h2 nd2 hr0 hD0 id F1 b6
      (fun i b hb => (F3 i b hb).imp id fun ⟨_, k⟩ => src (k.imp id (hJ1 i))) (fun _ _ _ hq => hq.elim) b3
      (fun i hi => (b4 i hi).imp id fun hq => by obtain ⟨ρ, k1, k2, _⟩ := hI1 i hq; exact ⟨ρ, k1, k2⟩) b5 b1 (fun i hi => by
        obtain ⟨k1, k2, k3⟩ := b2 i hi
        exact ⟨k1, k2, k3.imp id src⟩)
      (Nat.le_succ nx) ⟨by
        rcases hr0 with rfl | ⟨_, _, _, _, _, _, _, hq⟩
        · exact Nat.lt_succ_self _
        · exact Nat.lt_succ_of_lt (H.lowT _ _ (lkp_root hq)).1, Nat.lt_succ_self _, Nat.lt_succ_self _, Nat.lt_succ_self _⟩ (by
        rcases hmm with ⟨rfl, _⟩ | rfl
        · exact Nat.lt_succ_of_lt H.mcl
        · exact Nat.lt_succ_self _) (by
        rcases hmm with ⟨rfl, _⟩ | rfl
        · rcases b7 with b7 | b7
          · exact .inl ⟨rfl, b7⟩
          · exact absurd H.mcl (by rw [b7]; exact Nat.lt_irrefl nx)
        · exact .inr (Nat.le_refl _)) (fun _ hq => absurd hq (Nat.lt_irrefl _))
    exact hK A' h' n' L' G (.row _ _ _ (by
      rcases b1 with ⟨rfl, _⟩ | ⟨rfl, _⟩ | ⟨_, _, _, _, _, _, rfl, _⟩ <;> rfl) fun w s md' hl t' xs' hq => a1.symm)
  have fresh : ∀ {h' : Heap}, h' n = some (exs ++ es) → (∀ i, i < n → h' i = h i ∨ (I1 i ∧ ¬ J1 i)) → (∀ i, n < i → h' i = none) → ((∀ i, i < n → h' i = h i) ∨ mc' = nx) → K (.sl t.w n 0 (xs.length + ys.length) (xs.length + ys.length) false) h' (n + 1) := fun {h'} c1 c2 c3 c4 => by
    have same : ∀ i, (∃ q, D q ∧ L.ft q i) ∨ J1 i → h' i = h i := fun i hi => by
      have hin : i < n := by
        rcases hi with ⟨q, k1, k2⟩ | hi
        · exact (Dn k1 k2).2
        · exact (I1n i (hJ1 i hi)).2
      rcases c2 i hin with k | ⟨k1, k2⟩
      · exact k
      · exact absurd hi (nid k1 k2)
    have Fn : F' n = none := by
      cases hq : F' n with
      | none => rfl
      | some b =>
        rcases F3 n b hq with k | ⟨k, _⟩
        · exact absurd (H.hlt _ _ (H.fh _ _ k)) (Nat.lt_irrefl n)
        · exact absurd (H.hlt _ _ k) (Nat.lt_irrefl n)
    refine fin (I' := fun i => i = n ∨ J' i) (.inr (.inr ⟨n, 0, xs.length + ys.length, false, exs ++ es, J', by rw [List.length_append], c1, by rw [List.length_append]; omega, by rw [List.length_append]; exact Nat.le_refl _, ?_, fun hq => ?_, fun i => Iff.rfl⟩)) (fun i hi => ?_) (Nat.le_succ n) (fun i hi => (c2 i hi).imp id (·.1)) (fun i b hb => ?_) (fun i b hb => ?_) c4
    · rw [List.drop_zero, List.take_of_length_le (by simp; omega)]
      exact hbd.keep (fun _ _ hb => hb) fun i hi => same i (hJ' i hi).2
    · rcases (hJ' n hq).2 with ⟨q, k1, k2⟩ | k
      · exact absurd (Dn k1 k2).2 (Nat.lt_irrefl n)
      · exact absurd (I1n n (hJ1 n k)).2 (Nat.lt_irrefl n)
    · rcases hi with rfl | hi
      · exact ⟨Fn, Nat.lt_succ_self _, .inl (Nat.le_refl _)⟩
      · obtain ⟨k1, k2⟩ := hJ' i hi
        refine ⟨k1, ?_, .inr (k2.imp id (hJ1 i))⟩
        rcases k2 with ⟨q, m1, m2⟩ | k
        · exact Nat.lt_succ_of_lt (Dn m1 m2).2
        · exact Nat.lt_succ_of_lt (I1n i (hJ1 i k)).2
    · by_cases hi : i ≤ n
      · omega
      · rw [c3 i (by omega)] at hb; cases hb
    · rcases F3 i b hb with k | ⟨k1, k2⟩
      · have hin := H.hlt _ _ (H.fh _ _ k)
        rcases c2 i hin with m | ⟨m1, _⟩
        · rw [m]; exact H.fh _ _ k
        · rw [(I1n i m1).1] at k; cases k
      · rw [same i k2]; exact k1
  have hn : ∀ i, n ≤ i → h i = none := fun i hi => H.hlt' hi
  have freshU : mc' = nx ∨ A1 = .nils → K (.sl t.w n 0 (xs.length + ys.length) (xs.length + ys.length) false) (h.upd n (exs ++ es)) (n + 1) := fun _ => fresh (by simp [Heap.upd]) (fun i hi => .inl (by unfold Heap.upd; rw [if_neg (by omega)])) (fun i hi => by unfold Heap.upd; rw [if_neg (by omega)]; exact hn i (by omega)) (.inl fun i hi => by unfold Heap.upd; rw [if_neg (by omega)])
  have emps : es = [] → ys = [] := fun hq => by rw [hq] at hesl; exact List.eq_nil_of_length_eq_zero hesl.symm
  have F2 : F'.Sub h := fun i b hb => (F3 i b hb).elim (H.fh i b) (·.1)
  rcases hB with ⟨rfl, rfl, hI⟩ | ⟨rfl, rfl, hI⟩ | ⟨id, off, lo, ex, b, J, rfl, hb, hle, hlo, hc, hid, hI⟩
  · have hex0 : exs = [] := by cases exs with | nil => rfl | cons => simp [rdSl] at hrd
    subst hex0
    refine ⟨by rw [hesl]; simpa using rb1, by rw [hesl]; simpa using rb2, ?_⟩
    split
    · rename_i hq
      obtain rfl := emps hq
      exact fin (I' := fun _ => False) (.inl ⟨rfl, rfl, fun _ hq => hq⟩) (fun _ hq => hq.elim) (Nat.le_refl n) (fun i _ => .inl rfl) H.hlt F2 (.inl fun _ _ => rfl)
    · have := freshU (.inr rfl)
      rw [hesl, hsz]; simpa using this
  · have hex0 : exs = [] := List.eq_nil_of_length_eq_zero hexl
    subst hex0
    have hmc : mc' = nx := by rcases hmm with ⟨_, hq⟩ | hq; cases hq; exact hq
    refine ⟨hsz.symm, by rw [hesl]; simpa using rb1, by rw [hesl]; simpa using rb2, ?_⟩
    split
    · rename_i hq
      obtain rfl := emps hq
      exact fin (I' := fun _ => False) (.inr (.inl ⟨rfl, rfl, fun _ hq => hq⟩)) (fun _ hq => hq.elim) (Nat.le_refl n) (fun i _ => .inl rfl) H.hlt F2 (.inr hmc)
    · refine ⟨rfl, ?_⟩
      have := freshU (.inl hmc)
      rw [hesl]
      simpa using this
  · have hmc : mc' = nx := by rcases hmm with ⟨_, hq⟩ | hq; cases hq; exact hq
    have hidI : I1 id := (hI id).2 (.inl rfl)
    have hidJ : ¬ J1 id := hJid rfl
    have hexb : exs = (b.drop off).take xs.length := by
      simp only [rdSl, if_true, hb] at hrd
      rw [if_pos (by omega)] at hrd
      exact (Option.some.inj hrd).symm
    refine ⟨hsz.symm, by rw [hesl]; exact rb1, by rw [hesl]; exact rb2, b, hb, hle, ?_⟩
    rw [hesl]
    split
    · rename_i hfit
      have hC : ∀ z, z ≠ id → (h.upd id (b.take (off + xs.length) ++ es ++ b.drop (off + xs.length + ys.length))) z = h z := fun z hz => by unfold Heap.upd; rw [if_neg hz]
      have same : ∀ i, (∃ q, D q ∧ L.ft q i) ∨ J1 i → (h.upd id (b.take (off + xs.length) ++ es ++ b.drop (off + xs.length + ys.length))) i = h i := fun i hi => hC i (by rintro rfl; exact nid hidI hidJ hi)
      have hbl : (b.take (off + xs.length) ++ es ++ b.drop (off + xs.length + ys.length)).length = b.length := by rw [← hesl]; exact spl_len b es _ (by omega)
      have hcut : ((b.take (off + xs.length) ++ es ++ b.drop (off + xs.length + ys.length)).drop off).take (xs.length + ys.length) = exs ++ es := by
        apply List.ext_getElem?
        intro k
        rw [List.getElem?_take, List.getElem?_drop, show b.drop (off + xs.length + ys.length) = b.drop (off + xs.length + es.length) by rw [hesl], spl_get _ _ _ _ (by omega)]
        by_cases hk : k < xs.length
        · rw [if_pos (by omega), if_pos (by omega), List.getElem?_append_left (by omega), hexb, List.getElem?_take, if_pos hk, List.getElem?_drop]
        · rw [List.getElem?_append_right (by omega), hexl]
          by_cases hk2 : k < xs.length + ys.length
          · rw [if_pos hk2, if_neg (by omega), if_pos (by omega)]
            congr 1; omega
          · rw [if_neg hk2, List.getElem?_eq_none (by omega)]
      refine fin (I' := fun i => i = id ∨ J' i) (.inr (.inr ⟨id, off, lo, ex, b.take (off + xs.length) ++ es ++ b.drop (off + xs.length + ys.length), J', by rw [List.length_append], by simp [Heap.upd], by rw [hbl]; exact hle, by rw [List.length_append]; exact hfit, ?_, fun hq => nid hidI hidJ (hJ' id hq).2, fun i => Iff.rfl⟩)) (fun i hi => ?_) (Nat.le_refl n) (fun i hi => ?_) (fun i c hc => ?_) (fun i c hc => ?_) (.inr hmc)
      · rw [List.length_append, hcut]
        exact hbd.keep (fun _ _ hb => hb) fun i hi => same i (hJ' i hi).2
      · rcases hi with rfl | hi
        · refine ⟨?_, (I1n _ hidI).2, .inr (.inr hidI)⟩
          cases hq : F' i with
          | none => rfl
          | some c =>
            rcases F3 _ c hq with k | ⟨_, k⟩
            · rw [(I1n _ hidI).1] at k; cases k
            · exact absurd k (nid hidI hidJ)
        · obtain ⟨k1, k2⟩ := hJ' i hi
          refine ⟨k1, ?_, .inr (k2.imp _root_.id (hJ1 i))⟩
          rcases k2 with ⟨q, m1, m2⟩ | k
          · exact (Dn m1 m2).2
          · exact (I1n i (hJ1 i k)).2
      · by_cases hii : i = id
        · exact .inr (hii ▸ hidI)
        · exact .inl (hC i hii)
      · by_cases hii : i = id
        · rw [hii]; exact (I1n id hidI).2
        · rw [hC i hii] at hc; exact H.hlt i c hc
      · have hii : i ≠ id := by
          rintro rfl
          rcases F3 _ c hc with k | ⟨_, k⟩
          · rw [(I1n _ hidI).1] at k; cases k
          · exact nid hidI hidJ k
        rw [hC i hii]; exact F2 i c hc
    · rw [← hexb]
      split
      · exact freshU (.inl hmc)
      · refine fresh (by simp [Heap.upd]) (fun i hi => ?_) (fun i hi => ?_) (.inr hmc)
        · by_cases hii : i = id
          · exact .inr ⟨hii ▸ hidI, hii ▸ hidJ⟩
          · refine .inl ?_
            unfold Heap.upd Heap.del
            rw [if_neg (by omega), if_neg hii]
        · unfold Heap.upd Heap.del
          rw [if_neg (by omega)]
          split
          · rfl
          · exact hn i (by omega)
end
end Go.Proofs.Ytcngfjmfgeckmaa
