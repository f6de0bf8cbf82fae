import Derived.Test.YtcngfjmfgeckmaaZ11c
set_option linter.unusedSimpArgs false
set_option linter.unusedVariables false
set_option linter.unusedSectionVars false
namespace Go.Proofs.Ytcngfjmfgeckmaa
open Go
def AV.isEp : AV → Bool
  | .ep _ _ _ _ => true
  | _ => false
theorem isEp_one {a : AV} (h : a.isEp = true) : a.one = true := by cases a <;> first | rfl | cases h
structure LV where
  t : PT
  xs : List t.den
structure Lay where
  F : Heap
  R : Heap
  A : Nat → AV
  C : Nat → Nat
  U : Nat → Int
  ft : Nat → Nat → Prop
def pieceA (A : AV) (i j : Nat) (e : Bool) : AV := match A with
  | .sl w id off _ lo ex => .sl w id (off + i) (j - i) (if e = true then j - i else lo - i) (if e = true then true else ex)
  | .ro w ex l => .ro w (if e = true then true else (ex && decide (j = l.length))) ((l.drop i).take (j - i))
  | a => a
def cellAt (h : Heap) (A : AV) (i o : Nat) : Option AV := match A with
  | .sl _ id off _ _ _ => (h id).bind fun b => (b[off + i]?).bind fun e => e.cells[o]?
  | .ro _ _ l => (l[i]?).bind fun e => e.cells[o]?
  | _ => none
def epA (A : AV) (i off : Nat) (a : AV) : Prop := match A with
  | .sl w id o len _ _ => ∃ o' len' lo' ex' k, a = .ep w (.sl w id o' len' lo' ex') k off ∧ o' + k = o + i ∧ k < len' ∧ o' + len' ≤ o + len
  | .ro w _ l => ∃ ex' l' k, a = .ep w (.ro w ex' l') k off ∧ l'[k]? = l[i]?
  | _ => False
def prA (F : Heap) (cs : List SV) (off : Nat) (a : AV) : Prop :=
  ∃ w s i l e o0, a = .ep w s i (o0 + off) ∧ rdSl F w s = some l ∧ l[i]? = some e ∧ e.good = true ∧ o0 + cs.length ≤ e.cells.length ∧ FzC F cs ((e.cells.drop o0).take cs.length)
abbrev Rt := Nat → Option Root
mutual
inductive TV (L : Lay) (ρ : Rt) (mc : Nat) (h : Heap) : SV → AV → Prop
  | pl (v : SV) (a : AV) (hv : Fz L.F v a) : TV L ρ mc h v a
  | vw (e : Bool) (m : Nat) (t : PT) (xs : List t.den) (a : AV) (ho : a.one = true) (hv : m = mc → Fz L.R (.rd e t xs) a) : TV L ρ mc h (.vw e m t xs) a
  | row (r v : Nat) (a : AV) (ho : a.one = true) (hv : ∀ w s md hl t xs, ρ r = some (.row v w s md hl t xs) → a = L.A r) : TV L ρ mc h (.row r v) a
  | sub (r v s : Nat) (i j : Int) (e : Bool) (t : PT) (ys : List t.den) (a : AV) (ho : a.one = true)
      (hv : ∀ w s' md hl t' xs, ρ r = some (.row v w s' md hl t' xs) → (0 ≤ i ∧ i ≤ j ∧ j ≤ (xs.length : Int)) ∧ a = pieceA (L.A r) i.toNat j.toNat e ∧ (s = s' → ∃ zs, slcI xs i j = some zs ∧ (⟨t, ys⟩ : LV) = ⟨t', zs⟩)) :
      TV L ρ mc h (.sub r v s i j e t ys) a
  | nst (r v w u s : Nat) (i : Int) (off : Nat) (t : PT) (ys : List t.den) (a : AV) (ho : a.one = true)
      (hv : ∀ s' md hl t' xs, ρ r = some (.row v w s' md hl t' xs) → L.U u = i ∧ 0 ≤ i ∧ i < (xs.length : Int) ∧ listAt t' off ∧ cellAt h (L.A r) i.toNat off = some a ∧ (s = s' → ∃ x, atI xs i = some x ∧ nthS (explode t' x) off = some (.rd false t ys))) :
      TV L ρ mc h (.nst r v w u s i off t ys) a
  | nsub (r v w u s : Nat) (i : Int) (off : Nat) (p q : Int) (t : PT) (ys : List t.den) (a : AV) (ho : a.one = true)
      (hv : ∀ s' md hl t' xs, ρ r = some (.row v w s' md hl t' xs) → L.U u = i ∧ 0 ≤ i ∧ i < (xs.length : Int) ∧ listAt t' off ∧ (∃ a0, cellAt h (L.A r) i.toNat off = some a0 ∧ a = pieceA a0 p.toNat q.toNat false) ∧ 0 ≤ p ∧ p ≤ q ∧
        (s = s' → ∃ x t2 zs ws, atI xs i = some x ∧ nthS (explode t' x) off = some (.rd false t2 zs) ∧ slcI zs p q = some ws ∧ (⟨t, ys⟩ : LV) = ⟨t2, ws⟩)) :
      TV L ρ mc h (.nsub r v w u s i off p q t ys) a
  | pr (cs : List SV) (off : Nat) (a : AV) (hv : prA L.F cs off a) : TV L ρ mc h (.pr cs off) a
  | pv (m : Nat) (cs : List SV) (off : Nat) (a : AV) (ho : a.isEp = true) (hv : ∃ cs0, cs = vwC m cs0 ∧ (m = mc → prA L.R cs0 off a)) : TV L ρ mc h (.pv m cs off) a
  | cp (c off : Nat) (a : AV) (ho : a.isEp = true) (hv : ∀ cs, ρ c = some (.cell cs) → a = .ep cs.length (.sl cs.length (L.C c) 0 1 1 true) 0 off) : TV L ρ mc h (.cp c off) a
  | ep (r v u s : Nat) (i : Int) (off : Nat) (cs : List SV) (a : AV) (ho : a.isEp = true)
      (hv : ∀ w s' md hl t xs, ρ r = some (.row v w s' md hl t xs) → L.U u = i ∧ 0 ≤ i ∧ i < (xs.length : Int) ∧ epA (L.A r) i.toNat off a ∧ (s = s' → ∃ x, atI xs i = some x ∧ cs = explode t x)) :
      TV L ρ mc h (.ep r v u s i off cs) a
  | en (r v w u s : Nat) (i : Int) (off : Nat) (j : Int) (off2 : Nat) (cs : List SV) (a : AV) (ho : a.isEp = true)
      (hv : ∀ s' md hl t xs, ρ r = some (.row v w s' md hl t xs) → L.U u = i ∧ 0 ≤ i ∧ i < (xs.length : Int) ∧ 0 ≤ j ∧ listAt t off ∧ (∃ a0, cellAt h (L.A r) i.toNat off = some a0 ∧ epA a0 j.toNat off2 a) ∧
        (s = s' → ∃ x t2 ys y, atI xs i = some x ∧ nthS (explode t x) off = some (.rd false t2 ys) ∧ atI ys j = some y ∧ cs = explode t2 y)) :
      TV L ρ mc h (.en r v w u s i off j off2 cs) a
  | agg (cs : List SV) (asl : List AV) (hc : TVs L ρ mc h cs asl) : TV L ρ mc h (.agg cs) (.agg asl)
  | tup (cs : List SV) (asl : List AV) (hc : TVs L ρ mc h cs asl) : TV L ρ mc h (.tup cs) (.tup asl)
  | fn (f : FuncId) (cs : List SV) (asl : List AV) (hc : TVs L ρ mc h cs asl) : TV L ρ mc h (.fn f cs) (.fn f asl)
  | nilp : TV L ρ mc h .nilp .nilp
  | nilf : TV L ρ mc h .nilf .nilf
  | undef (a : AV) : TV L ρ mc h .undef a
inductive TVs (L : Lay) (ρ : Rt) (mc : Nat) (h : Heap) : List SV → List AV → Prop
  | nil : TVs L ρ mc h [] []
  | cons (v : SV) (vs : List SV) (a : AV) (asl : List AV) (hv : TV L ρ mc h v a) (hl : TVs L ρ mc h vs asl) : TVs L ρ mc h (v :: vs) (a :: asl)
end
def HoleOk (F h : Heap) (t : PT) (xs : List t.den) (A : AV) (I : Ids0) (i : Int) (o : Nat) : Prop :=
  ∃ id off lo ex b J, A = .sl t.w id off xs.length lo ex ∧ h id = some b ∧ off + lo ≤ b.length ∧ xs.length ≤ lo ∧ 0 ≤ i ∧ i.toNat < xs.length ∧ o < t.w ∧
    Mat F h t xs ((b.drop off).take xs.length) J (fun j o' => j = i.toNat ∧ o' = o) ∧ (∀ j o, ¬ J j o id) ∧ ∀ i, I i ↔ i = id ∨ ∃ j o, J j o i
def FlatOk (F h : Heap) (t : PT) (xs : List t.den) (A : AV) (I : Ids0) : Prop :=
  (A = .nils ∧ xs = [] ∧ ∀ i, ¬ I i) ∨ (A = .ro t.w true [] ∧ xs = [] ∧ ∀ i, ¬ I i) ∨
    ∃ id off lo ex b, A = .sl t.w id off xs.length lo ex ∧ h id = some b ∧ off + lo ≤ b.length ∧ xs.length ≤ lo ∧ FzL F t xs ((b.drop off).take xs.length) ∧ ∀ i, I i ↔ i = id
def RowOk (L : Lay) (h : Heap) (r : Nat) (md : Md) (hl : Option (Nat × Nat)) (t : PT) (xs : List t.den) : Prop := match md, hl with
  | .own, none => OS L.F h (.rd false t xs) (L.A r) (L.ft r)
  | .own, some (u, o) => HoleOk L.F h t xs (L.A r) (L.ft r) (L.U u) o
  | .flat, none => FlatOk L.F h t xs (L.A r) (L.ft r)
  | .fz, none => Fz L.F (.rd false t xs) (L.A r) ∧ ∀ i, ¬ L.ft r i
  | _, some _ => False
def ThOk (L : Lay) (ρ : Rt) (mc : Nat) (h : Heap) (r : Nat) : Root → Prop
  | .cell cs => ∃ e, h (L.C r) = some [e] ∧ e.good = true ∧ (∀ u, u ∈ e.cells → u.one = true) ∧ 0 < cs.length ∧ TVs L ρ mc h cs e.cells ∧ (∀ i, L.ft r i ↔ i = L.C r)
  | .row _ _ _ md hl t xs => RowOk L h r md hl t xs
def Root.lowN (n : Nat) : Root → Prop
  | .cell cs => SV.lowNs n cs = true
  | .row v w s _ hl _ _ => v < n ∧ w < n ∧ s < n ∧ ∀ u o, hl = some (u, o) → u < n
structure Bas where
  F0 : Heap
  G : Heap
  n0 : Nat
  lk : Nat → Prop
  X : Nat → Nat → Prop
  H : Nat → Prop
  HG : ∀ i, H i → G i ≠ none
structure Gam (B : Bas) (cx : Cx) (st : St) (L : Lay) (Es : List Env) (E : Env) (h : Heap) (n : Nat) : Prop where
  f0 : B.F0.Sub L.F
  fh : L.F.Sub h
  gh : B.G.Sub h
  fr : L.F.Sub L.R
  rh : L.R.Sub h
  fnew : ∀ id b, L.F id = some b → (B.F0 id = some b ∨ B.n0 ≤ id) ∧ ¬ B.H id
  hlt : ∀ id b, h id = some b → id < n
  nn : B.n0 ≤ n
  th : ∀ r ρ, rootOf cx st r = some ρ → ThOk L (rootOf cx st) st.mc h r ρ
  lowT : ∀ r ρ, rootOf cx st r = some ρ → r < st.nx ∧ ρ.lowN st.nx
  ap : ∀ r r' ρ ρ' i, rootOf cx st r = some ρ → rootOf cx st r' = some ρ' → L.ft r i → L.ft r' i → r = r'
  ftF : ∀ r ρ i, rootOf cx st r = some ρ → L.ft r i → L.F i = none ∧ B.n0 ≤ i ∧ i < n ∧ (¬ B.lk r → B.G i = none) ∧ (B.lk r → ¬ B.X r i ∧ B.G i = h i)
  ftR : ∀ r v w s md hl t xs i, rootOf cx st r = some (.row v w s md hl t xs) → L.ft r i → L.R i = h i
  ftC : ∀ r cs i, rootOf cx st r = some (.cell cs) → L.ft r i → L.R i = none
  env : ∀ t v, lkp st.env t = some v → TV L (rootOf cx st) st.mc h v (E t) ∧ v.lowN st.nx = true
  env0 : ∀ t v, lkp cx.env0 t = some v → TV L (rootOf cx st) st.mc h v (E t) ∧ v.lowN st.nx = true
  frs : ∀ (i : Nat) (fr : SEnv) (E' : Env), cx.frames[i]? = some fr → Es[i]? = some E' → ∀ t v, lkp fr t = some v → TV L (rootOf cx st) st.mc h v (E' t) ∧ v.lowN st.nx = true
  dj : ∀ t v, lkp cx.env0 t = some v → lkp st.env t = none
  frl : Es.length = cx.frames.length
  mcl : st.mc < st.nx
  nd : (st.roots.map Prod.fst).Nodup
  lkd : ∀ r, (∃ x, lkp st.roots r = some x) ∨ st.nx ≤ r → ¬ B.lk r
  lkc : ∀ r ρ ρ0, lkp st.roots r = some ρ → lkp cx.roots0 r = some ρ0 → ∃ cs cs0, ρ = .cell cs ∧ ρ0 = .cell cs0 ∧ cs.length = cs0.length
end Go.Proofs.Ytcngfjmfgeckmaa
namespace Go.Proofs.Ytcngfjmfgeckmaa
open Go
structure Tr (nx : Nat) (L L' : Lay) (ρ ρ' : Rt) (mc mc' : Nat) (h h' : Heap) : Prop where
  F : L.F.Sub L'.F
  R : mc' < nx → mc' = mc ∧ L.R.Sub L'.R
  row : ∀ r v w s md hl t xs, ρ' r = some (.row v w s md hl t xs) → r < nx → v < nx → ∃ w0 s0 md0 hl0 xs0, ρ r = some (.row v w0 s0 md0 hl0 t xs0) ∧ L'.A r = L.A r ∧ xs.length = xs0.length ∧ (s < nx → s0 = s ∧ xs0 = xs) ∧
    (w < nx → w0 = w ∧ ∀ i o a, i < xs.length → listAt t o → cellAt h (L.A r) i o = some a → cellAt h' (L.A r) i o = some a)
  cell : ∀ c cs, ρ' c = some (.cell cs) → c < nx → ∃ cs0, ρ c = some (.cell cs0) ∧ cs.length = cs0.length ∧ L'.C c = L.C c
  U : ∀ u, u < nx → L'.U u = L.U u
theorem rdSl_mono {a b : Heap} (hs : a.Sub b) {sz : Nat} {x : AV} {l : List AV} (hr : rdSl a sz x = some l) : rdSl b sz x = some l := rdSl_sub hs hr
theorem prA.mono {F F' : Heap} (hs : F.Sub F') {cs : List SV} {off : Nat} {a : AV} (h : prA F cs off a) : prA F' cs off a := by
  obtain ⟨w, s, i, l, e, o0, h1, h2, h3, h4, h5, h6⟩ := h
  exact ⟨w, s, i, l, e, o0, h1, rdSl_sub hs h2, h3, h4, h5, h6.mono hs⟩
section
variable {nx : Nat} {L L' : Lay} {ρ ρ' : Rt} {mc mc' : Nat} {h h' : Heap}
mutual
theorem TV.tr (T : Tr nx L L' ρ ρ' mc mc' h h') : ∀ {v : SV} {a : AV}, TV L ρ mc h v a → v.lowN nx = true → TV L' ρ' mc' h' v a
  | _, _, .pl v a hv, _ => .pl v a (hv.mono T.F)
  | _, _, .vw e m t xs a ho hv, hl => .vw e m t xs a ho fun hm => by
      have hm' : mc' < nx := by subst hm; simpa [SV.lowN] using hl
      obtain ⟨q1, q2⟩ := T.R hm'
      exact (hv (hm.trans q1)).mono q2
  | _, _, .row r v a ho hv, hl => .row r v a ho fun w s md hl' t xs hr => by
      simp only [SV.lowN, Bool.and_eq_true, Nat.blt_eq] at hl
      obtain ⟨w0, s0, md0, hl0, xs0, q1, q2, _⟩ := T.row r v w s md hl' t xs hr hl.1 hl.2
      rw [q2]; exact hv _ _ _ _ _ _ q1
  | _, _, .sub r v s i j e t ys a ho hv, hl => .sub r v s i j e t ys a ho fun w s' md hl' t' xs hr => by
      simp only [SV.lowN, Bool.and_eq_true, Nat.blt_eq] at hl
      obtain ⟨w0, s0, md0, hl0, xs0, q1, q2, q3, q4, _⟩ := T.row r v w s' md hl' t' xs hr hl.1.1 hl.1.2
      obtain ⟨k1, k2, k3⟩ := hv _ _ _ _ _ _ q1
      rw [q2, q3]
      refine ⟨k1, k2, fun hs => ?_⟩
      subst hs
      obtain ⟨rfl, rfl⟩ := q4 hl.2
      exact k3 rfl
  | _, _, .nst r v w u s i off t ys a ho hv, hl => .nst r v w u s i off t ys a ho fun s' md hl' t' xs hr => by
      simp only [SV.lowN, Bool.and_eq_true, Nat.blt_eq] at hl
      obtain ⟨w0, s0, md0, hl0, xs0, q1, q2, q3, q4, q5⟩ := T.row r v w s' md hl' t' xs hr hl.1.1.1.1 hl.1.1.1.2
      obtain ⟨rfl, q6⟩ := q5 hl.1.1.2
      obtain ⟨k1, k2, k3, k4, k5, k6⟩ := hv _ _ _ _ _ q1
      rw [q2, q3, T.U u hl.1.2]
      refine ⟨k1, k2, k3, k4, q6 _ _ _ (by omega) k4 k5, fun hs => ?_⟩
      subst hs
      obtain ⟨rfl, rfl⟩ := q4 hl.2
      exact k6 rfl
  | _, _, .nsub r v w u s i off p q t ys a ho hv, hl => .nsub r v w u s i off p q t ys a ho fun s' md hl' t' xs hr => by
      simp only [SV.lowN, Bool.and_eq_true, Nat.blt_eq] at hl
      obtain ⟨w0, s0, md0, hl0, xs0, q1, q2, q3, q4, q5⟩ := T.row r v w s' md hl' t' xs hr hl.1.1.1.1 hl.1.1.1.2
      obtain ⟨rfl, q6⟩ := q5 hl.1.1.2
      obtain ⟨k1, k2, k3, k4, ⟨a0, k5, k5'⟩, k7, k8, k6⟩ := hv _ _ _ _ _ q1
      rw [q2, q3, T.U u hl.1.2]
      refine ⟨k1, k2, k3, k4, ⟨a0, q6 _ _ _ (by omega) k4 k5, k5'⟩, k7, k8, fun hs => ?_⟩
      subst hs
      obtain ⟨rfl, rfl⟩ := q4 hl.2
      exact k6 rfl
  | _, _, .pr cs off a hv, _ => .pr cs off a (hv.mono T.F)
  | _, _, .pv m cs off a ho ⟨cs0, hq, hv⟩, hl => .pv m cs off a ho ⟨cs0, hq, fun hm => by
      have hm' : mc' < nx := by subst hm; simp only [SV.lowN, Bool.and_eq_true, Nat.blt_eq] at hl; exact hl.1
      obtain ⟨q1, q2⟩ := T.R hm'
      exact (hv (hm.trans q1)).mono q2⟩
  | _, _, .cp c off a ho hv, hl => .cp c off a ho fun cs hr => by
      simp only [SV.lowN, Nat.blt_eq] at hl
      obtain ⟨cs0, q1, q2, q3⟩ := T.cell c cs hr hl
      rw [q2, q3]; exact hv _ q1
  | _, _, .ep r v u s i off cs a ho hv, hl => .ep r v u s i off cs a ho fun w s' md hl' t xs hr => by
      simp only [SV.lowN, Bool.and_eq_true, Nat.blt_eq] at hl
      obtain ⟨w0, s0, md0, hl0, xs0, q1, q2, q3, q4, _⟩ := T.row r v w s' md hl' t xs hr hl.1.1.1.1 hl.1.1.1.2
      obtain ⟨k1, k2, k3, k4, k5⟩ := hv _ _ _ _ _ _ q1
      rw [q2, q3, T.U u hl.1.1.2]
      refine ⟨k1, k2, k3, k4, fun hs => ?_⟩
      subst hs
      obtain ⟨rfl, rfl⟩ := q4 hl.1.2
      exact k5 rfl
  | _, _, .en r v w u s i off j off2 cs a ho hv, hl => .en r v w u s i off j off2 cs a ho fun s' md hl' t xs hr => by
      simp only [SV.lowN, Bool.and_eq_true, Nat.blt_eq] at hl
      obtain ⟨w0, s0, md0, hl0, xs0, q1, q2, q3, q4, q5⟩ := T.row r v w s' md hl' t xs hr hl.1.1.1.1.1 hl.1.1.1.1.2
      obtain ⟨rfl, q6⟩ := q5 hl.1.1.1.2
      obtain ⟨k1, k2, k3, k7, k4, ⟨a0, k5, k5'⟩, k6⟩ := hv _ _ _ _ _ q1
      rw [q2, q3, T.U u hl.1.1.2]
      refine ⟨k1, k2, k3, k7, k4, ⟨a0, q6 _ _ _ (by omega) k4 k5, k5'⟩, fun hs => ?_⟩
      subst hs
      obtain ⟨rfl, rfl⟩ := q4 hl.1.2
      exact k6 rfl
  | _, _, .agg cs asl hc, hl => .agg cs asl (TVs.tr T hc (by simpa [SV.lowN] using hl))
  | _, _, .tup cs asl hc, hl => .tup cs asl (TVs.tr T hc (by simpa [SV.lowN] using hl))
  | _, _, .fn f cs asl hc, hl => .fn f cs asl (TVs.tr T hc (by simpa [SV.lowN] using hl))
  | _, _, .nilp, _ => .nilp
  | _, _, .nilf, _ => .nilf
  | _, _, .undef a, _ => .undef a
theorem TVs.tr (T : Tr nx L L' ρ ρ' mc mc' h h') : ∀ {vs : List SV} {asl : List AV}, TVs L ρ mc h vs asl → SV.lowNs nx vs = true → TVs L' ρ' mc' h' vs asl
  | _, _, .nil, _ => .nil
  | _, _, .cons v vs a asl hv hl, hw => by
      simp only [SV.lowNs, Bool.and_eq_true] at hw
      exact .cons v vs a asl (TV.tr T hv hw.1) (TVs.tr T hl hw.2)
end
theorem TVs.len : ∀ {vs : List SV} {asl : List AV}, TVs L ρ mc h vs asl → asl.length = vs.length
  | _, _, .nil => rfl
  | _, _, .cons _ _ _ _ _ hl => by simp [TVs.len hl]
theorem TVs.get : ∀ {vs : List SV} {asl : List AV}, TVs L ρ mc h vs asl → ∀ (i : Nat) (v : SV), vs[i]? = some v → ∃ a, asl[i]? = some a ∧ TV L ρ mc h v a
  | _, _, .nil, i, v, hi => by simp at hi
  | _, _, .cons v vs a asl hv hl, 0, w, hi => by simp at hi; subst hi; exact ⟨a, rfl, hv⟩
  | _, _, .cons v vs a asl hv hl, i + 1, w, hi => TVs.get hl i w (by simpa using hi)
theorem TVs.drop : ∀ {vs : List SV} {asl : List AV}, TVs L ρ mc h vs asl → ∀ i, TVs L ρ mc h (vs.drop i) (asl.drop i)
  | _, _, .nil, i => by simpa using .nil
  | _, _, .cons v vs a asl hv hl, 0 => .cons v vs a asl hv hl
  | _, _, .cons v vs a asl hv hl, i + 1 => by simpa using TVs.drop hl i
theorem TVs.take : ∀ {vs : List SV} {asl : List AV}, TVs L ρ mc h vs asl → ∀ i, TVs L ρ mc h (vs.take i) (asl.take i)
  | _, _, .nil, i => by simpa using .nil
  | _, _, .cons v vs a asl hv hl, 0 => .nil
  | _, _, .cons v vs a asl hv hl, i + 1 => by simpa using .cons v _ a _ hv (TVs.take hl i)
theorem TVs.append : ∀ {vs ws : List SV} {asl bs : List AV}, TVs L ρ mc h vs asl → TVs L ρ mc h ws bs → TVs L ρ mc h (vs ++ ws) (asl ++ bs)
  | _, _, _, _, .nil, hb => hb
  | _, _, _, _, .cons v vs a asl hv hl, hb => .cons v _ a _ hv (TVs.append hl hb)
theorem TVs.ofFz : ∀ {vs : List SV} {asl : List AV}, FzC L.F vs asl → TVs L ρ mc h vs asl
  | _, _, .nil => .nil
  | _, _, .cons v vs a asl hv hl => .cons v vs a asl (.pl v a hv) (TVs.ofFz hl)
end
end Go.Proofs.Ytcngfjmfgeckmaa
namespace Go.Proofs.Ytcngfjmfgeckmaa
open Go
section
variable {F F' h : Heap}
theorem FzL.get : ∀ {t : PT} {xs : List t.den} {es : List AV}, FzL F t xs es → ∀ (i : Nat) (x : t.den), xs[i]? = some x → ∃ e, es[i]? = some e ∧ e.good = true ∧ FzC F (explode t x) e.cells
  | _, _, _, .nil t, i, x, hi => by simp at hi
  | _, _, _, .cons t x xs e es hg hc hl, 0, y, hi => by simp at hi; subst hi; exact ⟨e, rfl, hg.1, hc⟩
  | _, _, _, .cons t x xs e es hg hc hl, i + 1, y, hi => FzL.get hl i y (by simpa using hi)
theorem FzC.get : ∀ {vs : List SV} {asl : List AV}, FzC F vs asl → ∀ (i : Nat) (v : SV), vs[i]? = some v → ∃ a, asl[i]? = some a ∧ Fz F v a
  | _, _, .nil, i, v, hi => by simp at hi
  | _, _, .cons v vs a asl hv hl, 0, w, hi => by simp at hi; subst hi; exact ⟨a, rfl, hv⟩
  | _, _, .cons v vs a asl hv hl, i + 1, w, hi => FzC.get hl i w (by simpa using hi)
theorem OE.get : ∀ {t : PT} {xs : List t.den} {es : List AV} {I : Ids0}, OE F h t xs es I → ∀ (i : Nat) (x : t.den), xs[i]? = some x → ∃ e J, es[i]? = some e ∧ e.good = true ∧ OC F h (explode t x) e.cells J ∧ ∀ i, J i → I i
  | _, _, _, _, .nil t I hI, i, x, hi => by simp at hi
  | _, _, _, _, .cons t x xs e es I J K hg hc hl hd hI, 0, y, hi => by simp at hi; subst hi; exact ⟨e, J, rfl, hg.1, hc, fun i hi => (hI i).2 (.inl hi)⟩
  | _, _, _, _, .cons t x xs e es I J K hg hc hl hd hI, i + 1, y, hi => by
    obtain ⟨e', J', h1, h2, h3, h4⟩ := OE.get hl i y (by simpa using hi)
    exact ⟨e', J', by simpa using h1, h2, h3, fun i hi => (hI i).2 (.inr (h4 i hi))⟩
theorem OC.get : ∀ {vs : List SV} {asl : List AV} {I : Ids0}, OC F h vs asl I → ∀ (i : Nat) (v : SV), vs[i]? = some v → ∃ a J, asl[i]? = some a ∧ OS F h v a J ∧ ∀ i, J i → I i
  | _, _, _, .nil I hI, i, v, hi => by simp at hi
  | _, _, _, .cons v vs a asl I J K hv hl hd hI, 0, w, hi => by simp at hi; subst hi; exact ⟨a, J, rfl, hv, fun i hi => (hI i).2 (.inl hi)⟩
  | _, _, _, .cons v vs a asl I J K hv hl hd hI, i + 1, w, hi => by
    obtain ⟨a', J', h1, h2, h3⟩ := OC.get hl i w (by simpa using hi)
    exact ⟨a', J', by simpa using h1, h2, fun i hi => (hI i).2 (.inr (h3 i hi))⟩
theorem FzL.drop : ∀ {t : PT} {xs : List t.den} {es : List AV}, FzL F t xs es → ∀ i, FzL F t (xs.drop i) (es.drop i)
  | _, _, _, .nil t, i => by simpa using .nil t
  | _, _, _, .cons t x xs e es hg hc hl, 0 => .cons t x xs e es hg hc hl
  | _, _, _, .cons t x xs e es hg hc hl, i + 1 => by simpa using FzL.drop hl i
theorem FzL.take : ∀ {t : PT} {xs : List t.den} {es : List AV}, FzL F t xs es → ∀ i, FzL F t (xs.take i) (es.take i)
  | _, _, _, .nil t, i => by simpa using .nil t
  | _, _, _, .cons t x xs e es hg hc hl, 0 => .nil t
  | _, _, _, .cons t x xs e es hg hc hl, i + 1 => by simpa using .cons t x _ e _ hg hc (FzL.take hl i)
theorem FzL.append : ∀ {t : PT} {xs ys : List t.den} {es fs : List AV}, FzL F t xs es → FzL F t ys fs → FzL F t (xs ++ ys) (es ++ fs)
  | _, _, _, _, _, .nil t, hb => hb
  | _, _, _, _, _, .cons t x xs e es hg hc hl, hb => .cons t x _ e _ hg hc (FzL.append hl hb)
theorem Fz.weak {e : Bool} {t : PT} {xs : List t.den} {a : AV} (hv : Fz F (.rd e t xs) a) : Fz F (.rd false t xs) a := by
  cases hv with
  | rdn => exact .rdn _ _
  | ro _ ex _ _ l he hc => exact .ro false ex t xs l (fun hq => by cases hq) hc
  | sl _ _ _ id off lo ex b hb hle hlo he hc => exact .sl false t xs id off lo ex b hb hle hlo (fun hq => by cases hq) hc
theorem Fz.rd {e : Bool} {t : PT} {xs : List t.den} {a : AV} (hv : Fz F (.rd e t xs) a) (hs : F.Sub h) : ∃ es, rdSl h t.w a = some es ∧ FzL F t xs es := by
  cases hv with
  | rdn => exact ⟨[], rfl, .nil t⟩
  | ro _ ex _ _ l he hc => exact ⟨l, by simp [rdSl], hc⟩
  | sl _ _ _ id off lo ex b hb hle hlo he hc => exact ⟨_, by simp [rdSl, hs _ _ hb]; omega, hc⟩
theorem Fz.le {v w : SV} {a : AV} (hl : LeV v w) (hv : Fz F v a) : Fz F w a := by
  cases hl with
  | refl => exact hv
  | rd e t xs => exact hv.weak
  | nil t => cases hv; exact .rdn _ _
theorem OS.le {v w : SV} {a : AV} {I : Ids0} (hl : LeV v w) (hv : OS F h v a I) : OS F h w a I := by
  cases hl with
  | refl => exact hv
  | rd e t xs => cases hv with
    | rdn _ _ _ hI => exact .rdn _ _ _ hI
    | emp _ _ _ hI => exact .emp _ _ _ hI
    | sl _ _ _ id off lo ex b _ J hb hle hlo hc hid hI => exact .sl _ _ _ id off lo ex b _ J hb hle hlo hc hid hI
  | nil t => cases hv with
    | nil _ hI => exact .rdn _ _ _ hI
theorem FzC.le : ∀ {vs ws : List SV} {asl : List AV}, LeL vs ws → FzC F vs asl → FzC F ws asl
  | _, _, _, .nil, .nil => .nil
  | _, _, _, .cons v w vs ws hv hl, .cons _ _ a asl ha hs => .cons w ws a asl (ha.le hv) (FzC.le hl hs)
theorem OC.le : ∀ {vs ws : List SV} {asl : List AV} {I : Ids0}, LeL vs ws → OC F h vs asl I → OC F h ws asl I
  | _, _, _, _, .nil, .nil I hI => .nil I hI
  | _, _, _, _, .cons v w vs ws hv hl, .cons _ _ a asl I J K ha hs hd hI => .cons w ws a asl I J K (ha.le hv) (OC.le hl hs) hd hI
theorem slcI_some {α : Type} {xs ys : List α} {i j : Int} (h : slcI xs i j = some ys) : 0 ≤ i ∧ i ≤ j ∧ j ≤ (xs.length : Int) ∧ ys = (xs.drop i.toNat).take (j.toNat - i.toNat) ∧ ys.length = j.toNat - i.toNat := by
  unfold slcI at h
  split at h
  · rename_i hc
    have h' := Option.some.inj h
    have e1 : (j - i).toNat = j.toNat - i.toNat := by omega
    rw [e1] at h'
    subst h'
    refine ⟨hc.1, hc.2.1, hc.2.2, rfl, ?_⟩
    simp; omega
  · cases h
theorem Fz.pieceX {e e' : Bool} {t : PT} {xs ys : List t.den} {A : AV} {i j : Int} (hv : Fz F (.rd e t xs) A) (hs : slcI xs i j = some ys) : Fz F (.rd e' t ys) (pieceA A i.toNat j.toNat e') := by
  obtain ⟨h1, h2, h3, h4, h5⟩ := slcI_some hs
  cases hv with
  | rdn =>
    have : ys = [] := by subst h4; simp
    subst this; exact .rdn _ _
  | ro _ ex _ _ l he hc =>
    have hc' := (hc.drop i.toNat).take (j.toNat - i.toNat)
    rw [← h4] at hc'
    exact .ro e' _ t ys _ (fun hq => by simp [hq]) hc'
  | sl _ _ _ id off lo ex b hb hle hlo he hc =>
    have hc' := (hc.drop i.toNat).take (j.toNat - i.toNat)
    rw [← h4] at hc'
    have hb' : ((b.drop off).take xs.length |>.drop i.toNat).take (j.toNat - i.toNat) = (b.drop (off + i.toNat)).take ys.length := by
      rw [h5, List.drop_take, List.take_take, List.drop_drop]
      congr 1; omega
    rw [hb'] at hc'
    have key : pieceA (.sl t.w id off xs.length lo ex) i.toNat j.toNat e' = .sl t.w id (off + i.toNat) ys.length (if e' = true then ys.length else lo - i.toNat) (if e' = true then true else ex) := by
      simp only [pieceA, h5]
    rw [key]
    refine .sl e' t ys id (off + i.toNat) _ _ b hb ?_ ?_ (fun hq => by simp [hq]) hc'
    · split <;> omega
    · split <;> omega
theorem Fz.piece {e e' : Bool} {t : PT} {xs ys : List t.den} {A : AV} {i j : Int} (hv : Fz F (.rd e t xs) A) (hs : slcI xs i j = some ys) : Fz F (.rd false t ys) (pieceA A i.toNat j.toNat e') := (hv.pieceX hs).weak
theorem FlatOk.frz {t : PT} {xs : List t.den} {A : AV} {I : Ids0} (hv : FlatOk F h t xs A I) (hs : F.Sub F') (hk : ∀ i b, I i → h i = some b → F' i = some b) : Fz F' (.rd false t xs) A := by
  rcases hv with ⟨rfl, rfl, _⟩ | ⟨rfl, rfl, _⟩ | ⟨id, off, lo, ex, b, rfl, hb, hle, hlo, hc, hI⟩
  · exact .rdn _ _
  · exact .ro false true t [] [] (fun _ => rfl) (.nil t)
  · exact .sl false t xs id off lo ex b (hk id b ((hI id).2 rfl) hb) hle hlo (fun hq => by cases hq) (hc.mono hs)
end
def SrcOk (L : Lay) (h : Heap) (ρ : Rt) (c : Src) (v : SV) (a : AV) : Prop := match c with
  | .fr => Fz L.F v a
  | .live => Fz L.R v a
  | .own r => (∃ w s' x md t xs, ρ r = some (.row w s' x md none t xs)) ∧ ∀ F', L.F.Sub F' → (∀ i b, L.ft r i → h i = some b → F' i = some b) → Fz F' v a
theorem RowOk.frz {L : Lay} {h : Heap} {r : Nat} {md : Md} {t : PT} {xs : List t.den} (hr : RowOk L h r md none t xs) {F' : Heap} (hs : L.F.Sub F') (hk : ∀ i b, L.ft r i → h i = some b → F' i = some b) : Fz F' (.rd false t xs) (L.A r) := by
  cases md with
  | own => exact OS.frz hs hr hk fun e t xs hq => by cases hq; rfl
  | flat => exact FlatOk.frz hr hs hk
  | fz => exact hr.1.mono hs
theorem drop_take_get {b : List AV} {off len i : Nat} {e : AV} (h : ((b.drop off).take len)[i]? = some e) : b[off + i]? = some e := by
  rw [List.getElem?_take] at h
  split at h
  · rwa [List.getElem?_drop] at h
  · cases h
theorem nested_ok {L : Lay} {h : Heap} {ρ : Rt} {r : Nat} {v w s : Nat} {md : Md} {t : PT} {xs : List t.den} (hfh : L.F.Sub h) (hρ : ρ r = some (.row v w s md none t xs)) (hr : RowOk L h r md none t xs) (hm : md.nest = true) {i o : Nat} {x : t.den} {t2 : PT} {zs : List t2.den} {a : AV}
    (hx : xs[i]? = some x) (hz : nthS (explode t x) o = some (.rd false t2 zs)) (ha : cellAt h (L.A r) i o = some a) : SrcOk L h ρ (srcOf md r) (.rd false t2 zs) a := by
  rw [nthS_get] at hz
  cases md with
  | flat => cases hm
  | own =>
    generalize hA : L.A r = A at ha hr
    have hr' : OS L.F h (.rd false t xs) A (L.ft r) := by have := hr; unfold RowOk at this; simpa [hA] using this
    cases hr' with
    | rdn => simp at hx
    | emp => simp at hx
    | sl _ _ _ id off lo ex b I J hb hle hlo hc hid hI =>
      obtain ⟨e, J1, q1, q2, q3, q4⟩ := hc.get i x hx
      obtain ⟨a', J2, p1, p2, p3⟩ := q3.get o _ hz
      have : cellAt h (.sl t.w id off xs.length lo ex) i o = some a' := by simp [cellAt, hb, drop_take_get q1, p1]
      rw [this] at ha
      obtain rfl := Option.some.inj ha
      exact ⟨⟨_, _, _, _, _, _, hρ⟩, fun F' hF hk => p2.frz hF (fun j b hj hb => hk j b ((hI j).2 (.inr (q4 _ (p3 _ hj)))) hb) fun e t xs hq => by cases hq; rfl⟩
  | fz =>
    obtain ⟨h1, h3⟩ := hr
    generalize hA : L.A r = A at ha h1
    cases h1 with
    | rdn => simp at hx
    | ro _ ex _ _ l _ hc =>
      obtain ⟨e, q1, q2, q3⟩ := hc.get i x hx
      obtain ⟨a', p1, p2⟩ := q3.get o _ hz
      have : cellAt h (.ro t.w ex l) i o = some a' := by simp only [cellAt, q1, Option.bind_some]; exact p1
      rw [this] at ha
      obtain rfl := Option.some.inj ha
      exact p2
    | sl _ _ _ id off lo ex b hb hle hlo he hc =>
      obtain ⟨e, q1, q2, q3⟩ := hc.get i x hx
      obtain ⟨a', p1, p2⟩ := q3.get o _ hz
      have : cellAt h (.sl t.w id off xs.length lo ex) i o = some a' := by simp [cellAt, hfh _ _ hb, drop_take_get q1, p1]
      rw [this] at ha
      obtain rfl := Option.some.inj ha
      exact p2
section
variable {B : Bas} {cx : Cx} {st : St} {L : Lay} {Es : List Env} {E : Env} {h : Heap} {n : Nat}
theorem Gam.readR (H : Gam B cx st L Es E h n) {c : Src} {v : SV} {a : AV} (hs : SrcOk L h (rootOf cx st) c v a) : Fz L.R v a := by
  cases c with
  | fr => exact hs.mono H.fr
  | live => exact hs
  | own r =>
    obtain ⟨⟨w, s', x, md, t, xs, hr⟩, hf⟩ := hs
    exact hf L.R H.fr fun i b hi hb => by rw [H.ftR _ _ _ _ _ _ _ _ _ hr hi, hb]
theorem Gam.asL (H : Gam B cx st L Es E h n) {v : SV} {a : AV} {α : Type} {y : α} (hv : TV L (rootOf cx st) st.mc h v a) {k : Src → (t : PT) → List t.den → Option α} (hk : Go.Proofs.Ytcngfjmfgeckmaa.asL cx st v k = some y) :
    ∃ c t xs, k c t xs = some y ∧ SrcOk L h (rootOf cx st) c (.rd false t xs) a := by
  have beq : ∀ {p q : Nat} {α : Type} {A : Option α} {y : α}, (bif p.beq q then A else none) = some y → p = q ∧ A = some y := fun {p q α A y} hq => by
    cases hb : p.beq q with
    | true => rw [hb] at hq; exact ⟨Nat.eq_of_beq_eq_true hb, hq⟩
    | false => rw [hb] at hq; cases hq
  have own : ∀ {r v w s md t xs}, rootOf cx st r = some (.row v w s md none t xs) → RowOk L h r md none t xs := fun hr => H.th _ _ hr
  have src : ∀ {r v w s md t} {xs : List t.den} {a : AV} {u : SV}, rootOf cx st r = some (.row v w s md none t xs) → (md = .fz → Fz L.F u a) → (∀ F', L.F.Sub F' → (∀ i b, L.ft r i → h i = some b → F' i = some b) → Fz F' u a) → SrcOk L h (rootOf cx st) (srcOf md r) u a := fun {r v w s md t xs a u} hr h1 h2 => by
    cases md with
    | fz => exact h1 rfl
    | own => exact ⟨⟨_, _, _, _, _, _, hr⟩, h2⟩
    | flat => exact ⟨⟨_, _, _, _, _, _, hr⟩, h2⟩
  cases hv with
  | pl v a hv =>
    cases hv with
    | rdn e t => exact ⟨.fr, t, [], hk, .rdn _ _⟩
    | ro e ex t xs l he hc => exact ⟨.fr, t, xs, hk, .ro false ex t xs l (fun hq => by cases hq) hc⟩
    | sl e t xs id off lo ex b hb hle hlo he hc => exact ⟨.fr, t, xs, hk, .sl false t xs id off lo ex b hb hle hlo (fun hq => by cases hq) hc⟩
    | _ => exact absurd hk (by simp [Go.Proofs.Ytcngfjmfgeckmaa.asL])
  | vw e m t xs a ho hv =>
    obtain ⟨q1, q2⟩ := beq hk
    exact ⟨.live, t, xs, q2, (hv q1).weak⟩
  | row r v a ho hv =>
    simp only [Go.Proofs.Ytcngfjmfgeckmaa.asL] at hk
    split at hk
    · rename_i v' w s md t xs hr
      obtain ⟨rfl, q2⟩ := beq hk
      rw [hv _ _ _ _ _ _ hr]
      exact ⟨_, t, xs, q2, src hr (fun hm => by subst hm; exact (own hr).1) fun F' h1 h2 => (own hr).frz h1 h2⟩
    · cases hk
  | sub r v s i j e t ys a ho hv =>
    simp only [Go.Proofs.Ytcngfjmfgeckmaa.asL] at hk
    split at hk
    · rename_i v' w s' md t' xs hr
      obtain ⟨rfl, q2⟩ := beq hk
      obtain ⟨k1, rfl, k3⟩ := hv _ _ _ _ _ _ hr
      have pc : ∀ {zs}, slcI xs i j = some zs → SrcOk L h (rootOf cx st) (srcOf md r) (.rd false t' zs) (pieceA (L.A r) i.toNat j.toNat e) := fun hz =>
        src hr (fun hm => by subst hm; exact (own hr).1.piece hz) fun F' h1 h2 => ((own hr).frz h1 h2).piece hz
      cases hb : s.beq s' with
      | true =>
        rw [hb] at q2
        obtain ⟨zs, k4, k5⟩ := k3 (Nat.eq_of_beq_eq_true hb)
        cases k5
        exact ⟨_, t, ys, q2, pc k4⟩
      | false =>
        rw [hb] at q2
        obtain ⟨zs, k4, k5⟩ := Option.bind_eq_some_iff.1 q2
        exact ⟨_, t', zs, k5, pc k4⟩
    · cases hk
  | nst r v w u s i off t ys a ho hv =>
    simp only [Go.Proofs.Ytcngfjmfgeckmaa.asL] at hk
    split at hk
    · rename_i v' w' s' md t' xs hr
      cases hc : (v.beq v' && w.beq w' && md.nest) with
      | false => rw [hc] at hk; cases hk
      | true =>
        rw [hc] at hk
        simp only [Bool.and_eq_true] at hc
        obtain rfl := Nat.eq_of_beq_eq_true hc.1.1
        obtain rfl := Nat.eq_of_beq_eq_true hc.1.2
        obtain ⟨k1, k2, k3, k4, k5, k6⟩ := hv _ _ _ _ _ hr
        have get : ∀ {x}, atI xs i = some x → xs[i.toNat]? = some x := fun hx => by unfold atI at hx; rwa [if_pos k2] at hx
        have q2 : (bif s.beq s' then k (srcOf md r) t ys else _) = some y := hk
        cases hb : s.beq s' with
        | true =>
          rw [hb] at q2
          obtain ⟨x, k7, k8⟩ := k6 (Nat.eq_of_beq_eq_true hb)
          exact ⟨_, t, ys, q2, nested_ok H.fh hr (own hr) hc.2 (get k7) k8 k5⟩
        | false =>
          rw [hb] at q2
          obtain ⟨x, k7, k8⟩ := Option.bind_eq_some_iff.1 q2
          split at k8
          · rename_i e2 t2 zs hz
            have he := explode_ex t' x _ (by rw [nthS_get] at hz; exact List.mem_of_getElem? hz) _ _ _ rfl
            subst he
            exact ⟨_, t2, zs, k8, nested_ok H.fh hr (own hr) hc.2 (get k7) hz k5⟩
          · cases k8
    · cases hk
  | nsub r v w u s i off p q t ys a ho hv =>
    simp only [Go.Proofs.Ytcngfjmfgeckmaa.asL] at hk
    split at hk
    · rename_i v' w' s' md t' xs hr
      cases hc : (v.beq v' && w.beq w' && md.nest) with
      | false => rw [hc] at hk; cases hk
      | true =>
        rw [hc] at hk
        simp only [Bool.and_eq_true] at hc
        obtain rfl := Nat.eq_of_beq_eq_true hc.1.1
        obtain rfl := Nat.eq_of_beq_eq_true hc.1.2
        obtain ⟨k1, k2, k3, k4, ⟨a0, k5, rfl⟩, _, _, k6⟩ := hv _ _ _ _ _ hr
        have get : ∀ {x}, atI xs i = some x → xs[i.toNat]? = some x := fun hx => by unfold atI at hx; rwa [if_pos k2] at hx
        have pc : ∀ {x t2} {zs : List t2.den} {ws}, atI xs i = some x → nthS (explode t' x) off = some (.rd false t2 zs) → slcI zs p q = some ws → SrcOk L h (rootOf cx st) (srcOf md r) (.rd false t2 ws) (pieceA a0 p.toNat q.toNat false) := fun k7 k8 k9 => by
          have := nested_ok H.fh hr (own hr) hc.2 (get k7) k8 k5
          cases md with
          | fz => exact Fz.piece this k9
          | flat => cases hc.2
          | own => exact ⟨this.1, fun F' h1 h2 => (this.2 F' h1 h2).piece k9⟩
        have q2 : (bif s.beq s' then k (srcOf md r) t ys else _) = some y := hk
        cases hb : s.beq s' with
        | true =>
          rw [hb] at q2
          obtain ⟨x, t2, zs, ws, k7, k8, k9, k10⟩ := k6 (Nat.eq_of_beq_eq_true hb)
          cases k10
          exact ⟨_, t, ys, q2, pc k7 k8 k9⟩
        | false =>
          rw [hb] at q2
          obtain ⟨x, k7, k8⟩ := Option.bind_eq_some_iff.1 q2
          split at k8
          · rename_i e2 t2 zs hz
            have he := explode_ex t' x _ (by rw [nthS_get] at hz; exact List.mem_of_getElem? hz) _ _ _ rfl
            subst he
            obtain ⟨ws, k9, k10⟩ := Option.bind_eq_some_iff.1 k8
            exact ⟨_, t2, ws, k10, pc k7 hz k9⟩
          · cases k8
    · cases hk
  | _ => exact absurd hk (by simp [Go.Proofs.Ytcngfjmfgeckmaa.asL])
end
end Go.Proofs.Ytcngfjmfgeckmaa
namespace Go.Proofs.Ytcngfjmfgeckmaa
open Go
section
variable {L : Lay} {ρ : Rt} {mc : Nat} {h : Heap}
theorem prA.one {F : Heap} {cs : List SV} {off : Nat} {a : AV} (hp : prA F cs off a) : a.one = true := by
  obtain ⟨w, s, i, l, e, o0, rfl, _⟩ := hp; rfl
theorem one_cells {a : AV} (ha : a.one = true) : a.cells = [a] := by cases a <;> first | rfl | cases ha
theorem one_good {a : AV} (ha : a.one = true) : a.good = true := by cases a <;> first | rfl | exact ha
theorem TV.one {v : SV} {a : AV} (hv : TV L ρ mc h v a) (ho : v.oneV = true) : a.one = true := by
  cases hv with
  | pl _ _ hv => exact hv.one
  | pr _ _ _ hv => exact hv.one
  | agg => cases ho
  | tup => cases ho
  | undef => cases ho
  | fn => rfl
  | nilp => rfl
  | nilf => rfl
  | pv | cp | ep | en => exact isEp_one (by assumption)
  | _ => assumption
theorem TVs.one : ∀ {vs : List SV} {asl : List AV}, TVs L ρ mc h vs asl → okC vs = true → ∀ u, u ∈ asl → u.one = true
  | _, _, .nil, _, u, hu => by cases hu
  | _, _, .cons v vs a asl hv hl, ho, u, hu => by
    simp only [okC, Bool.and_eq_true] at ho
    rcases List.mem_cons.1 hu with rfl | hu
    · exact hv.one ho.1
    · exact TVs.one hl ho.2 u hu
theorem TV.cells {v : SV} {a : AV} (hv : TV L ρ mc h v a) (ho : okC v.cells = true) : TVs L ρ mc h v.cells a.cells ∧ a.good = true := by
  by_cases hq : v.oneV = true
  · have h1 := hv.one hq
    have : v.cells = [v] := by cases v <;> first | rfl | cases hq
    rw [this, one_cells h1]
    exact ⟨.cons _ _ _ _ hv .nil, one_good h1⟩
  · cases hv with
    | agg cs asl hc => exact ⟨hc, rfl⟩
    | pl _ _ hv => cases hv <;> exact absurd rfl hq
    | undef => simp [SV.cells, okC, SV.oneV] at ho
    | tup => simp [SV.cells, okC, SV.oneV] at ho
    | _ => exact absurd rfl hq
theorem TV.svOf (a : AV) : TV L ρ mc h (svOf a) a := by
  unfold Go.Proofs.Ytcngfjmfgeckmaa.svOf
  split
  · exact .pl _ _ (.bool _)
  · exact .pl _ _ (.int _ _)
  · exact .pl _ _ (.str _)
  · exact .pl _ _ .nil
  · exact .nilp
  · exact .nilf
  · exact .fn _ [] [] .nil
  · exact .undef _
theorem svOf_low (a : AV) (n : Nat) : (svOf a).lowN n = true := by unfold svOf; split <;> rfl
theorem TVs.svsOf : ∀ (l : List AV), TVs L ρ mc h (svsOf l) l
  | [] => .nil
  | a :: l => .cons _ _ _ _ (.svOf a) (TVs.svsOf l)
theorem svsOf_low (n : Nat) : ∀ (l : List AV), SV.lowNs n (svsOf l) = true
  | [] => rfl
  | a :: l => by simp [Go.Proofs.Ytcngfjmfgeckmaa.svsOf, SV.lowNs, svOf_low, svsOf_low n l]
end
section
variable {B : Bas} {cx : Cx} {st : St} {L : Lay} {Es : List Env} {E : Env} {h : Heap} {n : Nat}
theorem Gam.getT (H : Gam B cx st L Es E h n) (t : Nat) : TV L (rootOf cx st) st.mc h (getT cx st t) (E t) ∧ (getT cx st t).lowN st.nx = true := by
  unfold Go.Proofs.Ytcngfjmfgeckmaa.getT
  split
  · rename_i v hv; exact H.env t v hv
  · split
    · rename_i v hv; exact H.env0 t v hv
    · exact ⟨.undef _, rfl⟩
theorem Gam.ev (H : Gam B cx st L Es E h n) (x : Operand) : TV L (rootOf cx st) st.mc h (evS cx st x) (ev E x) ∧ (evS cx st x).lowN st.nx = true := by
  cases x with
  | tmp t => exact H.getT t
  | const v => exact ⟨.svOf _, svOf_low _ _⟩
  | func f => exact ⟨.fn f [] [] .nil, rfl⟩
  | global g => exact ⟨.undef _, rfl⟩
def Done (B : Bas) (cx : Cx) (Es : List Env) (E : Env) {α : Type} (y : α) (k : SV → St → Option α) (r : AV) (h' : Heap) (n' : Nat) : Prop :=
  ∃ v st' L', k v st' = some y ∧ TV L' (rootOf cx st') st'.mc h' v r ∧ v.lowN st'.nx = true ∧ Gam B cx st' L' Es E h' n'
variable {α : Type} {y : α} {k : SV → St → Option α}
theorem Gam.done (H : Gam B cx st L Es E h n) {v : SV} {r : AV} (hk : k v st = some y) (hv : TV L (rootOf cx st) st.mc h v r) (hl : v.lowN st.nx = true) : Done B cx Es E y k r h n := ⟨v, st, L, hk, hv, hl, H⟩
theorem int_inv {ρ : Rt} {mc : Nat} {i : IntKind} {x : Int} {a : AV} (hv : TV L ρ mc h (.int i x) a) : a = .int i x := by cases hv with | pl _ _ hv => cases hv; rfl
theorem bool_inv {ρ : Rt} {mc : Nat} {b : Bool} {a : AV} (hv : TV L ρ mc h (.bool b) a) : a = .bool b := by cases hv with | pl _ _ hv => cases hv; rfl
theorem str_inv {ρ : Rt} {mc : Nat} {b : ByteArray} {a : AV} (hv : TV L ρ mc h (.str b) a) : a = .str b := by cases hv with | pl _ _ hv => cases hv; rfl
theorem nil_inv {ρ : Rt} {mc : Nat} {a : AV} (hv : TV L ρ mc h .nil a) : a = .nils := by cases hv with | pl _ _ hv => cases hv; rfl
theorem agg_inv {ρ : Rt} {mc : Nat} {cs : List SV} {a : AV} (hv : TV L ρ mc h (.agg cs) a) : ∃ asl, a = .agg asl ∧ TVs L ρ mc h cs asl := by
  cases hv with
  | pl _ _ hv => cases hv
  | agg _ asl hc => exact ⟨asl, rfl, hc⟩
theorem tup_inv {ρ : Rt} {mc : Nat} {cs : List SV} {a : AV} (hv : TV L ρ mc h (.tup cs) a) : ∃ asl, a = .tup asl ∧ TVs L ρ mc h cs asl := by
  cases hv with
  | pl _ _ hv => cases hv
  | tup _ asl hc => exact ⟨asl, rfl, hc⟩
theorem fn_inv {ρ : Rt} {mc : Nat} {f : FuncId} {cs : List SV} {a : AV} (hv : TV L ρ mc h (.fn f cs) a) : ∃ asl, a = .fn f asl ∧ TVs L ρ mc h cs asl := by
  cases hv with
  | pl _ _ hv => cases hv
  | fn _ _ asl hc => exact ⟨asl, rfl, hc⟩
theorem TV.int {ρ : Rt} {mc : Nat} (i : IntKind) (x : Int) : TV L ρ mc h (.int i x) (.int i x) := .pl _ _ (.int i x)
theorem TV.bool {ρ : Rt} {mc : Nat} (b : Bool) : TV L ρ mc h (.bool b) (.bool b) := .pl _ _ (.bool b)
theorem TV.str {ρ : Rt} {mc : Nat} (b : ByteArray) : TV L ρ mc h (.str b) (.str b) := .pl _ _ (.str b)
theorem lowNs_get {n : Nat} : ∀ {vs : List SV} {i : Nat} {v : SV}, SV.lowNs n vs = true → vs[i]? = some v → v.lowN n = true
  | [], i, v, _, hi => by simp at hi
  | w :: vs, 0, v, hl, hi => by simp only [SV.lowNs, Bool.and_eq_true] at hl; simp at hi; subst hi; exact hl.1
  | w :: vs, i + 1, v, hl, hi => by simp only [SV.lowNs, Bool.and_eq_true] at hl; exact lowNs_get hl.2 (by simpa using hi)
theorem lowNs_drop {n : Nat} : ∀ {vs : List SV} (i : Nat), SV.lowNs n vs = true → SV.lowNs n (vs.drop i) = true
  | [], i, _ => by simp [SV.lowNs]
  | w :: vs, 0, hl => hl
  | w :: vs, i + 1, hl => by simp only [SV.lowNs, Bool.and_eq_true] at hl; simpa using lowNs_drop i hl.2
theorem lowNs_take {n : Nat} : ∀ {vs : List SV} (i : Nat), SV.lowNs n vs = true → SV.lowNs n (vs.take i) = true
  | [], i, _ => by simp [SV.lowNs]
  | w :: vs, 0, hl => by simp [SV.lowNs]
  | w :: vs, i + 1, hl => by simp only [SV.lowNs, Bool.and_eq_true] at hl; simp [SV.lowNs, hl.1, lowNs_take i hl.2]
theorem dropK_ok : ∀ {cs : List SV} {i : Nat} {k : List SV → Option α}, dropK cs i k = some y → k (cs.drop i) = some y ∧ i ≤ cs.length
  | cs, 0, k, hk => ⟨by simpa [dropK] using hk, Nat.zero_le _⟩
  | _ :: l, i + 1, k, hk => by
    obtain ⟨h1, h2⟩ := dropK_ok (cs := l) (i := i) (by simpa [dropK] using hk)
    exact ⟨by simpa using h1, by simpa using h2⟩
  | [], i + 1, k, hk => by cases hk
theorem takeK_ok : ∀ {cs : List SV} {i : Nat} {k : List SV → Option α}, takeK cs i k = some y → k (cs.take i) = some y ∧ i ≤ cs.length
  | cs, 0, k, hk => ⟨by simpa [takeK] using hk, Nat.zero_le _⟩
  | a :: l, i + 1, k, hk => by
    obtain ⟨h1, h2⟩ := takeK_ok (cs := l) (i := i) (k := fun l => k (a :: l)) (by simpa [takeK] using hk)
    exact ⟨by simpa using h1, by simpa using h2⟩
  | [], i + 1, k, hk => by cases hk
theorem partK_ok {g : Pg} {t : TypeId} {off : Nat} {cs : List SV} {o0 : Nat} {k : SV → Option α} {ρ : Rt} {mc : Nat} {e : AV} (hk : partK g t off cs k = some y) (hc : TVs L ρ mc h cs ((e.cells.drop o0).take cs.length)) (hle : o0 + cs.length ≤ e.cells.length) (hlow : SV.lowNs n cs = true) :
    ∃ v u, k v = some y ∧ part g.T t (o0 + off) e = some u ∧ TV L ρ mc h v u ∧ v.lowN n = true := by
  unfold partK at hk
  have key : ∀ {v}, nthS cs off = some v → ∃ u, e.cells[o0 + off]? = some u ∧ TV L ρ mc h v u ∧ v.lowN n = true := fun {v} hv => by
    rw [nthS_get] at hv
    obtain ⟨u, q1, q2⟩ := hc.get off v hv
    rw [List.getElem?_take] at q1
    split at q1
    · rw [List.getElem?_drop] at q1; exact ⟨u, q1, q2, lowNs_get hlow hv⟩
    · cases q1
  split at hk
  · rename_i fs hfs
    obtain ⟨h1, h2⟩ := dropK_ok hk
    obtain ⟨h3, h4⟩ := takeK_ok h1
    rw [List.length_drop] at h4
    refine ⟨_, _, h3, by unfold part; rw [hfs]; simp only; rw [if_pos (by omega)], .agg _ _ ?_, by simpa [SV.lowN] using lowNs_take _ (lowNs_drop _ hlow)⟩
    have := (hc.drop off).take (g.T t).sz
    rw [List.drop_take, List.take_take, List.drop_drop] at this
    rw [Nat.min_eq_left (by omega)] at this
    exact this
  · cases hk
  · rename_i h1 h2
    split at hk
    · rename_i v hv
      obtain ⟨u, q1, q2, q3⟩ := key hv
      refine ⟨v, u, hk, ?_, q2, q3⟩
      unfold part
      split
      · rename_i fs hfs; exact absurd hfs (h1 fs)
      · rename_i hfs; exact absurd hfs h2
      · exact q1
    · cases hk
end
end Go.Proofs.Ytcngfjmfgeckmaa
namespace Go.Proofs.Ytcngfjmfgeckmaa
open Go
def ElemC (md : Md) (F h : Heap) (t : PT) (x : t.den) (e : AV) : Prop := match md with
  | .own => ∃ J, OC F h (explode t x) e.cells J
  | _ => FzC F (explode t x) e.cells
section
variable {L : Lay} {ρ : Rt} {mc : Nat} {h : Heap}
theorem elem_ok (hfh : L.F.Sub h) {r : Nat} {md : Md} {t : PT} {xs : List t.den} (hr : RowOk L h r md none t xs) {i off : Nat} {x : t.den} {a : AV} (hx : xs[i]? = some x) (ha : epA (L.A r) i off a) :
    ∃ s k l e, a = .ep t.w s k off ∧ rdSl h t.w s = some l ∧ l[k]? = some e ∧ e.good = true ∧ e.cells.length = t.w ∧ (∀ o, cellAt h (L.A r) i o = e.cells[o]?) ∧ ElemC md L.F h t x e := by
  have hxl : i < xs.length := (List.getElem?_eq_some_iff.1 hx).1
  have key : ∀ {id off0 lo : Nat} {ex : Bool} {b : List AV} {e : AV}, L.A r = .sl t.w id off0 xs.length lo ex → h id = some b → off0 + lo ≤ b.length → xs.length ≤ lo → ((b.drop off0).take xs.length)[i]? = some e →
      ∃ s k l, a = .ep t.w s k off ∧ rdSl h t.w s = some l ∧ l[k]? = some e ∧ (∀ o, cellAt h (L.A r) i o = e.cells[o]?) := fun {id off0 lo ex b e} hA hb hle hlo he => by
    rw [hA] at ha ⊢
    obtain ⟨o', len', lo', ex', k, rfl, h1, h2, h3⟩ := ha
    have hbe := drop_take_get he
    refine ⟨_, k, (b.drop o').take len', rfl, by simp only [rdSl, if_true, hb]; rw [if_pos (by omega)], ?_, fun o => ?_⟩
    · rw [List.getElem?_take, if_pos h2, List.getElem?_drop, h1]; exact hbe
    · simp [cellAt, hb, hbe]
  cases md with
  | own =>
    generalize hA : L.A r = A at key
    have hr' : OS L.F h (.rd false t xs) A (L.ft r) := by have := hr; unfold RowOk at this; simpa [hA] using this
    cases hr' with
    | rdn => simp at hx
    | emp => simp at hx
    | sl _ _ _ id off0 lo ex b I J hb hle hlo hc hid hI =>
      obtain ⟨e, J1, q1, q2, q3, q4⟩ := hc.get i x hx
      obtain ⟨s, k, l, k1, k2, k3, k4⟩ := key rfl hb hle hlo q1
      exact ⟨s, k, l, e, k1, k2, k3, q2, by rw [q3.len, explode_len], k4, J1, q3⟩
  | flat =>
    rcases hr with ⟨hA, rfl, _⟩ | ⟨hA, rfl, _⟩ | ⟨id, off0, lo, ex, b, hA, hb, hle, hlo, hc, hI⟩
    · simp at hx
    · simp at hx
    · obtain ⟨e, q1, q2, q3⟩ := hc.get i x hx
      obtain ⟨s, k, l, k1, k2, k3, k4⟩ := key hA hb hle hlo q1
      exact ⟨s, k, l, e, k1, k2, k3, q2, by rw [q3.len, explode_len], k4, q3⟩
  | fz =>
    obtain ⟨h1, h3⟩ := hr
    generalize hA : L.A r = A at h1 key
    cases h1 with
    | rdn => simp at hx
    | ro _ _ _ _ l _ hc =>
      rw [hA] at ha
      obtain ⟨ex', l', k, rfl, hk⟩ := ha
      obtain ⟨e, q1, q2, q3⟩ := hc.get i x hx
      exact ⟨_, k, l', e, rfl, by simp [rdSl], by rw [hk]; exact q1, q2, by rw [q3.len, explode_len], fun o => by simp [cellAt, q1], q3⟩
    | sl _ _ _ id off0 lo ex b hb hle hlo he hc =>
      obtain ⟨e, q1, q2, q3⟩ := hc.get i x hx
      obtain ⟨s, k, l, k1, k2, k3, k4⟩ := key rfl (hfh _ _ hb) hle hlo q1
      exact ⟨s, k, l, e, k1, k2, k3, q2, by rw [q3.len, explode_len], k4, q3⟩
theorem OS.scalar {F : Heap} {v : SV} {a : AV} {I : Ids0} (hv : OS F h v a I) (hq : ∀ e t xs, v ≠ .rd e t xs) : Fz F v a := by
  cases hv with
  | int => exact .int _ _
  | bool => exact .bool _
  | str => exact .str _
  | nil => exact .nil
  | rdn => exact absurd rfl (hq _ _ _)
  | emp => exact absurd rfl (hq _ _ _)
  | sl => exact absurd rfl (hq _ _ _)
theorem nestE_ok {r v w u s : Nat} {i : Int} {t : PT} {xs : List t.den} {x : t.den} {e : AV} (hρ : ρ r = some (.row v w s .own none t xs)) (hU : L.U u = i) (h0 : 0 ≤ i) (hi : i < (xs.length : Int)) (hx : atI xs i = some x) (hat : ∀ o, cellAt h (L.A r) i.toNat o = e.cells[o]?) :
    ∀ {vs : List SV} {asl : List AV} {J : Ids0} (o : Nat), OC L.F h vs asl J → (∀ j, vs[j]? = (explode t x)[o + j]?) → (∀ j, asl[j]? = e.cells[o + j]?) → TVs L ρ mc h (nestE r v w u s i o vs) asl
  | _, _, _, o, .nil I hI, _, _ => .nil
  | _, _, _, o, .cons c vs a asl I J K hv hl hd hI, h1, h2 => by
    have rest := nestE_ok hρ hU h0 hi hx hat (o + 1) hl (fun j => by have := h1 (j + 1); simpa [Nat.add_assoc, Nat.add_comm 1 j] using this) (fun j => by have := h2 (j + 1); simpa [Nat.add_assoc, Nat.add_comm 1 j] using this)
    have hc : nthS (explode t x) o = some c := by rw [nthS_get]; have := h1 0; simpa using this.symm
    have ha : cellAt h (L.A r) i.toNat o = some a := by rw [hat]; have := h2 0; simpa using this.symm
    by_cases hq : ∃ e t xs, c = .rd e t xs
    · obtain ⟨e', t', ys, rfl⟩ := hq
      have he : e' = false := explode_ex t x _ (by rw [nthS_get] at hc; exact List.mem_of_getElem? hc) _ _ _ rfl
      subst he
      refine .cons _ _ _ _ (.nst _ _ _ _ _ _ _ _ _ _ hv.one fun s' md hl' t2 xs2 hr2 => ?_) rest
      rw [hρ] at hr2
      cases hr2
      exact ⟨hU, h0, hi, listAt_of hc, ha, fun _ => ⟨x, hx, hc⟩⟩
    · have hs := hv.scalar (fun e t xs hq' => hq ⟨e, t, xs, hq'⟩)
      cases c <;> first | exact .cons _ _ _ _ (.pl _ _ hs) rest | exact absurd ⟨_, _, _, rfl⟩ hq
theorem explode_low (t : PT) (x : t.den) (n : Nat) : SV.lowNs n (explode t x) = true := by
  have key : ∀ (l : List SV), (∀ v, v ∈ l → v.lowN n = true) → SV.lowNs n l = true := by
    intro l hl
    induction l with
    | nil => rfl
    | cons v l ih => simp only [SV.lowNs, Bool.and_eq_true]; exact ⟨hl v (by simp), ih fun w hw => hl w (by simp [hw])⟩
  refine key _ fun v hv => ?_
  have : ckOf v ≠ none := by
    obtain ⟨i, hi⟩ := List.mem_iff_getElem?.1 hv
    intro hq
    have h1 : ((explode t x).map ckOf)[i]? = some none := by rw [List.getElem?_map, hi]; simp [hq]
    exact explode_some t x i h1
  unfold ckOf at this
  split at this <;> first | rfl | exact absurd rfl this
theorem nestE_low {r v w u s : Nat} {i : Int} {n : Nat} (hr : r < n) (hv : v < n) (hw : w < n) (hu : u < n) (hs : s < n) : ∀ (o : Nat) (vs : List SV), SV.lowNs n vs = true → SV.lowNs n (nestE r v w u s i o vs) = true
  | o, [], _ => rfl
  | o, c :: vs, hl => by
    simp only [SV.lowNs, Bool.and_eq_true] at hl
    have := nestE_low hr hv hw hu hs (o + 1) vs hl.2 (i := i)
    cases c <;> simp [nestE, SV.lowNs, SV.lowN, this, hr, hv, hw, hu, hs] <;> simpa [SV.lowN] using hl.1
theorem vwC_ok {m : Nat} (hm : m = mc) : ∀ {vs : List SV} {asl : List AV}, FzC L.R vs asl → TVs L ρ mc h (vwC m vs) asl
  | _, _, .nil => .nil
  | _, _, .cons v vs a asl hv hl => by
    have rest := vwC_ok hm hl
    cases v with
    | rd e t xs => exact .cons _ _ _ _ (.vw _ _ _ _ _ hv.one fun _ => hv) rest
    | int k x => cases hv; exact .cons _ _ _ _ (.pl _ _ (.int _ _)) rest
    | bool k => cases hv; exact .cons _ _ _ _ (.pl _ _ (.bool _)) rest
    | str k => cases hv; exact .cons _ _ _ _ (.pl _ _ (.str _)) rest
    | nil => cases hv; exact .cons _ _ _ _ (.pl _ _ .nil) rest
    | _ => cases hv
theorem vwC_len (m : Nat) : ∀ (vs : List SV), (vwC m vs).length = vs.length
  | [] => rfl
  | v :: vs => by cases v <;> simp [vwC, vwC_len m vs]
theorem vwC_low {m n : Nat} (hm : m < n) : ∀ (vs : List SV), SV.lowNs n vs = true → SV.lowNs n (vwC m vs) = true
  | [], _ => rfl
  | v :: vs, hl => by
    simp only [SV.lowNs, Bool.and_eq_true] at hl
    have := vwC_low hm vs hl.2
    cases v <;> simp [vwC, SV.lowNs, SV.lowN, this, hm] <;> simpa [SV.lowN] using hl.1
theorem explode_ckne (t : PT) (x : t.den) : ∀ v, v ∈ explode t x → ckOf v ≠ none := fun v hv hq => by
  obtain ⟨i, hi⟩ := List.mem_iff_getElem?.1 hv
  exact explode_some t x i (by rw [List.getElem?_map, hi]; simp [hq])
theorem TVs.scal {R : Heap} : ∀ {vs : List SV} {asl : List AV}, FzC R vs asl → anyL vs = false → TVs L ρ mc h vs asl
  | _, _, .nil, _ => .nil
  | _, _, .cons v vs a asl hv hl, hq => by
    cases hv with
    | int k x => exact .cons _ _ _ _ (.pl _ _ (.int _ _)) (TVs.scal hl (by simpa [anyL] using hq))
    | bool k => exact .cons _ _ _ _ (.pl _ _ (.bool _)) (TVs.scal hl (by simpa [anyL] using hq))
    | str k => exact .cons _ _ _ _ (.pl _ _ (.str _)) (TVs.scal hl (by simpa [anyL] using hq))
    | _ => simp [anyL] at hq
theorem read_ok {R : Heap} (hs : R.Sub h) {t : PT} {ys : List t.den} {A a : AV} (hv : Fz R (.rd false t ys) A) {j off : Nat} {y : t.den} (hy : ys[j]? = some y) (ha : epA A j off a) :
    ∃ s k l e, a = .ep t.w s k off ∧ rdSl h t.w s = some l ∧ l[k]? = some e ∧ e.good = true ∧ e.cells.length = t.w ∧ FzC R (explode t y) e.cells := by
  have hyl : j < ys.length := (List.getElem?_eq_some_iff.1 hy).1
  cases hv with
  | rdn => exact ha.elim
  | ro _ _ _ _ l _ hc =>
    obtain ⟨ex', l', k, rfl, hk⟩ := ha
    obtain ⟨e, q1, q2, q3⟩ := hc.get j y hy
    exact ⟨_, k, l', e, rfl, by simp [rdSl], by rw [hk]; exact q1, q2, by rw [q3.len, explode_len], q3⟩
  | sl _ _ _ id off0 lo ex b hb hle hlo he hc =>
    obtain ⟨e, q1, q2, q3⟩ := hc.get j y hy
    obtain ⟨o', len', lo', ex', k, rfl, h1, h2, h3⟩ := ha
    refine ⟨_, k, (b.drop o').take len', e, rfl, by simp only [rdSl, if_true, hs _ _ hb]; rw [if_pos (by omega)], ?_, q2, by rw [q3.len, explode_len], q3⟩
    rw [List.getElem?_take, if_pos h2, List.getElem?_drop, h1]; exact drop_take_get q1
end
section
variable {B : Bas} {cx : Cx} {st : St} {L : Lay} {Es : List Env} {E : Env} {h : Heap} {n : Nat}
theorem bif_some {α : Type} {b : Bool} {A : Option α} {y : α} (hq : (bif b then A else none) = some y) : b = true ∧ A = some y := by
  cases b with
  | true => exact ⟨rfl, hq⟩
  | false => cases hq
def DerefOk (L : Lay) (ρ : Rt) (mc nx : Nat) (h : Heap) (a : AV) (cs : List SV) (off : Nat) : Prop :=
  ∃ o0 w s i l e, a = .ep w s i (o0 + off) ∧ rdSl h w s = some l ∧ l[i]? = some e ∧ e.good = true ∧ TVs L ρ mc h cs ((e.cells.drop o0).take cs.length) ∧ o0 + cs.length ≤ e.cells.length ∧ SV.lowNs nx cs = true
theorem DerefOk.mk0 {L : Lay} {ρ : Rt} {mc nx w i off : Nat} {h : Heap} {cs : List SV} {s e : AV} {l : List AV} (h1 : rdSl h w s = some l) (h2 : l[i]? = some e) (h3 : e.good = true) (h4 : TVs L ρ mc h cs e.cells) (h5 : SV.lowNs nx cs = true) :
    DerefOk L ρ mc nx h (.ep w s i off) cs off :=
  ⟨0, w, s, i, l, e, by simp, h1, h2, h3, by rw [List.drop_zero, ← h4.len, List.take_length]; exact h4, by rw [Nat.zero_add, h4.len]; exact Nat.le_refl _, h5⟩
theorem Gam.derefK (H : Gam B cx st L Es E h n) {v : SV} {a : AV} {α : Type} {y : α} (hv : TV L (rootOf cx st) st.mc h v a) (hl : v.lowN st.nx = true) {k : List SV → Nat → Option α} (hk : Go.Proofs.Ytcngfjmfgeckmaa.derefK cx st v k = some y) :
    ∃ cs off, k cs off = some y ∧ DerefOk L (rootOf cx st) st.mc st.nx h a cs off := by
  have own : ∀ {r v w s md t xs}, rootOf cx st r = some (.row v w s md none t xs) → RowOk L h r md none t xs := fun hr => H.th _ _ hr
  cases hv with
  | pl v a hv => cases hv <;> exact absurd hk (by simp [Go.Proofs.Ytcngfjmfgeckmaa.derefK])
  | cp c off a ho hv =>
    simp only [Go.Proofs.Ytcngfjmfgeckmaa.derefK] at hk
    split at hk
    · rename_i cs hr
      obtain ⟨e, q1, q2, q3, q4, q5, q6⟩ := H.th _ _ hr
      rw [hv _ hr]
      refine ⟨cs, off, hk, DerefOk.mk0 (l := [e]) ?_ rfl q2 q5 (H.lowT _ _ hr).2⟩
      simp [rdSl, q1]
    · cases hk
  | pr cs off a hv =>
    obtain ⟨w, s, i, l, e, o0, rfl, h1, h2, h3, h4, h5⟩ := hv
    exact ⟨cs, off, hk, o0, w, s, i, l, e, rfl, rdSl_mono H.fh h1, h2, h3, TVs.ofFz h5, h4, by simpa [SV.lowN] using hl⟩
  | pv m cs off a ho hv =>
    obtain ⟨q1, q2⟩ := bif_some hk
    obtain ⟨cs0, rfl, hv⟩ := hv
    have hm := Nat.eq_of_beq_eq_true q1
    obtain ⟨w, s, i, l, e, o0, rfl, h1, h2, h3, h4, h5⟩ := hv hm
    simp only [SV.lowN, Bool.and_eq_true] at hl
    exact ⟨_, off, q2, o0, w, s, i, l, e, rfl, rdSl_mono H.rh h1, h2, h3, by rw [vwC_len]; exact vwC_ok hm h5, by rw [vwC_len]; exact h4, hl.2⟩
  | ep r v u s i off cs a ho hv =>
    simp only [Go.Proofs.Ytcngfjmfgeckmaa.derefK] at hk
    split at hk
    · rename_i v' w s' md t xs hr
      obtain ⟨q1, q2⟩ := bif_some hk
      obtain rfl := Nat.eq_of_beq_eq_true q1
      obtain ⟨k1, k2, k3, k4, k5⟩ := hv _ _ _ _ _ _ hr
      have get : ∀ {x}, atI xs i = some x → xs[i.toNat]? = some x := fun hx => by unfold atI at hx; rwa [if_pos k2] at hx
      simp only [SV.lowN, Bool.and_eq_true, Nat.blt_eq] at hl
      have low := H.lowT _ _ hr
      have key : ∀ {x}, atI xs i = some x → DerefOk L (rootOf cx st) st.mc st.nx h a (nestIf md r v w u s' i (explode t x)) off := fun {x} hx => by
        obtain ⟨sl, kk, l, e, rfl, p2, p3, p4, p5, p6, p7⟩ := elem_ok H.fh (own hr) (get hx) k4
        cases md with
        | own =>
          obtain ⟨J, hJ⟩ := p7
          refine DerefOk.mk0 p2 p3 p4 ?_ (nestE_low low.1 hl.1.1.1.2 low.2.2.1 hl.1.1.2 low.2.2.2.1 _ _ (explode_low _ _ _))
          exact nestE_ok hr k1 k2 k3 hx (fun o => p6 o) 0 hJ (fun j => by simp) (fun j => by simp)
        | flat => exact DerefOk.mk0 p2 p3 p4 (TVs.ofFz p7) (explode_low _ _ _)
        | fz => exact DerefOk.mk0 p2 p3 p4 (TVs.ofFz p7) (explode_low _ _ _)
      cases hb : s.beq s' with
      | true =>
        rw [hb] at q2
        obtain ⟨x, k7, rfl⟩ := k5 (Nat.eq_of_beq_eq_true hb)
        exact ⟨_, _, q2, key k7⟩
      | false =>
        rw [hb] at q2
        obtain ⟨x, k7, k8⟩ := Option.bind_eq_some_iff.1 q2
        exact ⟨_, _, k8, key k7⟩
    · cases hk
  | en r v w u s i off j off2 cs a ho hv =>
    simp only [Go.Proofs.Ytcngfjmfgeckmaa.derefK] at hk
    split at hk
    · rename_i v' w' s' md t xs hr
      obtain ⟨hc, q2⟩ := bif_some hk
      simp only [Bool.and_eq_true] at hc
      obtain rfl := Nat.eq_of_beq_eq_true hc.1.1
      obtain rfl := Nat.eq_of_beq_eq_true hc.1.2
      obtain ⟨k1, k2, k3, k4, k5, ⟨a0, k6, k7⟩, k8⟩ := hv _ _ _ _ _ hr
      have get : ∀ {x}, atI xs i = some x → xs[i.toNat]? = some x := fun hx => by unfold atI at hx; rwa [if_pos k2] at hx
      have key : ∀ {x t2} {ys : List t2.den} {z}, atI xs i = some x → nthS (explode t x) off = some (.rd false t2 ys) → atI ys j = some z → anyL (explode t2 z) = false → DerefOk L (rootOf cx st) st.mc st.nx h a (explode t2 z) off2 := fun {x t2 ys z} hx hy hz hq => by
        have hz' : ys[j.toNat]? = some z := by unfold atI at hz; rwa [if_pos k4] at hz
        have := H.readR (nested_ok H.fh hr (own hr) hc.2 (get hx) hy k6)
        obtain ⟨sl, kk, l, e, rfl, p2, p3, p4, p5, p7⟩ := read_ok H.rh this hz' k7
        exact DerefOk.mk0 p2 p3 p4 (TVs.scal p7 hq) (explode_low _ _ _)
      have q3 : (bif s.beq s' then (bif anyL cs then none else k cs off2) else _) = some y := q2
      cases hb : s.beq s' with
      | true =>
        rw [hb] at q3
        obtain ⟨x, t2, ys, z, m1, m2, m3, rfl⟩ := k8 (Nat.eq_of_beq_eq_true hb)
        cases hq : anyL (explode t2 z) with
        | true => rw [hq] at q3; cases q3
        | false => rw [hq] at q3; exact ⟨_, _, q3, key m1 m2 m3 hq⟩
      | false =>
        rw [hb] at q3
        obtain ⟨x, m1, q4⟩ := Option.bind_eq_some_iff.1 q3
        split at q4
        · rename_i e2 t2 ys hz
          have he := explode_ex t x _ (by rw [nthS_get] at hz; exact List.mem_of_getElem? hz) _ _ _ rfl
          subst he
          obtain ⟨z, m3, q5⟩ := Option.bind_eq_some_iff.1 q4
          cases hq : anyL (explode t2 z) with
          | true => rw [hq] at q5; cases q5
          | false => rw [hq] at q5; exact ⟨_, _, q5, key m1 hz m3 hq⟩
        · cases q4
    · cases hk
  | _ => exact absurd hk (by simp [Go.Proofs.Ytcngfjmfgeckmaa.derefK])
end
end Go.Proofs.Ytcngfjmfgeckmaa
namespace Go.Proofs.Ytcngfjmfgeckmaa
open Go
structure POk (g : Pg) : Prop where
  pos : ∀ t fs, (g.T t).ty = .struct fs → 0 < (g.T t).sz ∧ fs.all (fun p => decide (0 < (g.T p.2).sz)) = true
  zero : ∀ t, 0 < (g.T t).sz → (g.T t).zero.good = true ∧ (g.T t).zero.cells.length = (g.T t).sz ∧ ∀ u, u ∈ (g.T t).zero.cells → u.one = true
section
variable {B : Bas} {cx : Cx} {st : St} {L : Lay} {Es : List Env} {E : Env} {h : Heap} {n : Nat} {g : Pg} {α : Type} {y : α} {k : SV → St → Option α}
theorem move_ok (H : Gam B cx st L Es E h n) {x : Operand} (hk : opS g cx st (.move x) k = some y) : opP g.T (.move x) (ev E) h n (Done B cx Es E y k) := H.done hk (H.ev x).1 (H.ev x).2
theorem assign_ok (H : Gam B cx st L Es E h n) {x : Operand} (hk : opS g cx st (.assign x) k = some y) : opP g.T (.assign x) (ev E) h n (Done B cx Es E y k) := H.done hk (H.ev x).1 (H.ev x).2
theorem load_ok (gk : POk g) (H : Gam B cx st L Es E h n) {t : TypeId} {x : Operand} (hk : opS g cx st (.load t x) k = some y) : opP g.T (.load t x) (ev E) h n (Done B cx Es E y k) := by
  obtain ⟨cs, off, q1, o0, w, s, i, l, e, ha, h1, h2, h3, h4, h5, h6⟩ := H.derefK (H.ev x).1 (H.ev x).2 hk
  obtain ⟨v, u, p1, p2, p3, p4⟩ := partK_ok q1 h4 h5 h6
  exact ⟨w, s, i, o0 + off, l, e, u, ha, h1, h2, p2, fun fs hf => (gk.pos t fs hf).1, H.done p1 p3 p4⟩
theorem pick_ok (H : Gam B cx st L Es E h n) {c a b : Operand} (hk : opS g cx st (.pick c a b) k = some y) : opP g.T (.pick c a b) (ev E) h n (Done B cx Es E y k) := by
  have hc := (H.ev c).1
  have ha := H.ev a
  have hb := H.ev b
  simp only [opS] at hk
  split at hk
  · rename_i t ht
    rw [ht] at hc
    refine ⟨t, bool_inv hc, ?_⟩
    split at hk
    · rename_i i x j z h1 h2
      rw [h1] at ha; rw [h2] at hb
      obtain ⟨q1, q2⟩ := bif_some hk
      obtain rfl := kindNum_inj (Nat.eq_of_beq_eq_true q1)
      rw [int_inv ha.1, int_inv hb.1]
      cases t <;> exact H.done q2 (TV.int _ _) rfl
    · rename_i x z h1 h2
      rw [h1] at ha; rw [h2] at hb
      rw [bool_inv ha.1, bool_inv hb.1]
      cases t <;> exact H.done hk (TV.bool _) rfl
    · rename_i x z h1 h2
      rw [h1] at ha; rw [h2] at hb
      rw [str_inv ha.1, str_inv hb.1]
      cases t <;> exact H.done hk (TV.str _) rfl
    · cases t with
      | true => exact H.done (by simpa using hk) ha.1 ha.2
      | false => exact H.done (by simpa using hk) hb.1 hb.2
  · cases hk
theorem isEp_ex {a : AV} (ha : a.isEp = true) : ∃ sz b i off, a = .ep sz b i off := by cases a <;> first | exact ⟨_, _, _, _, rfl⟩ | cases ha
theorem nilCheck_ok (H : Gam B cx st L Es E h n) {x : Operand} (hk : opS g cx st (.nilCheck x) k = some y) : opP g.T (.nilCheck x) (ev E) h n (Done B cx Es E y k) := by
  obtain ⟨hv, hl⟩ := H.ev x
  generalize hw : evS cx st x = w at hv hl
  generalize ha : ev E x = a at hv
  simp only [opS, hw] at hk
  simp only [opP, ha]
  cases hv with
  | pl v a hv => cases hv <;> cases hk
  | cp c off a ho hv' =>
    obtain ⟨sz, b, i, o, rfl⟩ := isEp_ex ho
    exact H.done hk (.cp _ _ _ ho hv') hl
  | pr cs off a hv' =>
    have hv'' := hv'
    obtain ⟨w, s, i, l, e, o0, rfl, _⟩ := hv''
    exact H.done hk (.pr _ _ _ hv') hl
  | pv m cs off a ho hv' =>
    obtain ⟨sz, b, i, o, rfl⟩ := isEp_ex ho
    exact H.done hk (.pv _ _ _ _ ho hv') hl
  | ep r v u s i off cs a ho hv' =>
    obtain ⟨sz, b, i', o, rfl⟩ := isEp_ex ho
    exact H.done hk (.ep _ _ _ _ _ _ _ _ ho hv') hl
  | en r v w u s i off j off2 cs a ho hv' =>
    obtain ⟨sz, b, i', o, rfl⟩ := isEp_ex ho
    exact H.done hk (.en _ _ _ _ _ _ _ _ _ _ _ ho hv') hl
  | fn f cs asl hc => exact H.done hk (.fn _ _ _ hc) hl
  | _ => cases hk
theorem epA_add {A a : AV} {i off o sz i' off' : Nat} {b : AV} (ha : a = .ep sz b i' off') (he : epA A i off a) : epA A i (off + o) (.ep sz b i' (off' + o)) := by
  subst ha
  cases A with
  | sl w id o1 len lo ex =>
    obtain ⟨o', len', lo', ex', k, q1, q2, q3, q4⟩ := he
    cases q1
    exact ⟨o', len', lo', ex', _, rfl, q2, q3, q4⟩
  | ro w ex l =>
    obtain ⟨ex', l', k, q1, q2⟩ := he
    cases q1
    exact ⟨ex', l', _, rfl, q2⟩
  | _ => exact he.elim
theorem prA_add {F : Heap} {cs : List SV} {off o sz i off' : Nat} {b : AV} (hp : prA F cs off (.ep sz b i off')) : prA F cs (off + o) (.ep sz b i (off' + o)) := by
  obtain ⟨w, s, i, l, e, o0, q, rest⟩ := hp
  cases q
  exact ⟨_, _, _, l, e, o0, by rw [Nat.add_assoc], rest⟩
theorem addOff_ok {ρ : Rt} {mc nx : Nat} {v v' : SV} {a : AV} {o : Nat} (hv : TV L ρ mc h v a) (hl : v.lowN nx = true) (hq : addOff v o = some v') :
    ∃ sz b i off, a = .ep sz b i off ∧ TV L ρ mc h v' (.ep sz b i (off + o)) ∧ v'.lowN nx = true := by
  cases hv with
  | pl v a hv => cases hv <;> cases hq
  | cp c off a ho hv =>
    obtain ⟨sz, b, i, o1, rfl⟩ := isEp_ex ho
    cases hq
    refine ⟨_, _, _, _, rfl, .cp _ _ _ rfl fun cs hr => ?_, hl⟩
    have := hv cs hr
    cases this; rfl
  | pr cs off a hv =>
    obtain ⟨sz, b, i, o1, rfl⟩ : ∃ sz b i o1, a = .ep sz b i o1 := by obtain ⟨w, s, i, l, e, o0, rfl, _⟩ := hv; exact ⟨_, _, _, _, rfl⟩
    cases hq
    exact ⟨_, _, _, _, rfl, .pr _ _ _ (prA_add hv), hl⟩
  | pv m cs off a ho hv =>
    obtain ⟨sz, b, i, o1, rfl⟩ := isEp_ex ho
    cases hq
    obtain ⟨cs0, q1, q2⟩ := hv
    exact ⟨_, _, _, _, rfl, .pv _ _ _ _ rfl ⟨cs0, q1, fun hm => prA_add (q2 hm)⟩, hl⟩
  | ep r v u s i off cs a ho hv =>
    obtain ⟨sz, b, i', o1, rfl⟩ := isEp_ex ho
    cases hq
    refine ⟨_, _, _, _, rfl, .ep _ _ _ _ _ _ _ _ rfl fun w s' md hl t xs hr => ?_, hl⟩
    obtain ⟨k1, k2, k3, k4, k5⟩ := hv _ _ _ _ _ _ hr
    exact ⟨k1, k2, k3, epA_add rfl k4, k5⟩
  | en r v w u s i off j off2 cs a ho hv =>
    obtain ⟨sz, b, i', o1, rfl⟩ := isEp_ex ho
    cases hq
    refine ⟨_, _, _, _, rfl, .en _ _ _ _ _ _ _ _ _ _ _ rfl fun s' md hl t xs hr => ?_, hl⟩
    obtain ⟨k1, k2, k3, k4, k5, ⟨a0, k6, k7⟩, k8⟩ := hv _ _ _ _ _ hr
    exact ⟨k1, k2, k3, k4, k5, ⟨a0, k6, epA_add rfl k7⟩, k8⟩
  | _ => cases hq
theorem fieldAddr_ok (H : Gam B cx st L Es E h n) {s : TypeId} {x : Operand} {f : Nat} (hk : opS g cx st (.fieldAddr s x f) k = some y) : opP g.T (.fieldAddr s x f) (ev E) h n (Done B cx Es E y k) := by
  simp only [opS] at hk
  split at hk
  · rename_i fs hfs
    split at hk
    · rename_i p hp
      obtain ⟨q1, q2⟩ := bif_some hk
      split at q2
      · rename_i v hv
        obtain ⟨sz, b, i, off, ha, h1, h2⟩ := addOff_ok (H.ev x).1 (H.ev x).2 hv
        exact ⟨sz, b, i, off, fs, p, ha, hfs, hp, by simpa using q1, H.done q2 h1 h2⟩
      · cases q2
    · cases hk
  · cases hk
theorem field_ok (gk : POk g) (H : Gam B cx st L Es E h n) {t : TypeId} {x : Operand} {f : Nat} (hk : opS g cx st (.field t x f) k = some y) : opP g.T (.field t x f) (ev E) h n (Done B cx Es E y k) := by
  obtain ⟨hv, hl⟩ := H.ev x
  simp only [opS] at hk
  split at hk
  · rename_i fs cs hfs hx
    rw [hx] at hv hl
    split at hk
    · rename_i p hp
      obtain ⟨asl, ha, hc⟩ := agg_inv hv
      obtain ⟨v, u, p1, p2, p3, p4⟩ := partK_ok (e := .agg asl) (o0 := 0) hk (by show TVs _ _ _ _ cs ((asl.drop 0).take cs.length); rw [List.drop_zero, ← hc.len, List.take_length]; exact hc) (by show 0 + cs.length ≤ asl.length; rw [hc.len]; omega) (by simpa [SV.lowN] using hl)
      exact ⟨fs, p, asl, u, hfs, hp, ha, by simpa using p2, fun fs hf => (gk.pos _ fs hf).1, H.done p1 p3 p4⟩
    · cases hk
  · cases hk
theorem extract_ok (H : Gam B cx st L Es E h n) {t : Operand} {ix : Nat} (hk : opS g cx st (.extract t ix) k = some y) : opP g.T (.extract t ix) (ev E) h n (Done B cx Es E y k) := by
  obtain ⟨hv, hl⟩ := H.ev t
  simp only [opS] at hk
  split at hk
  · rename_i vs hx
    rw [hx] at hv hl
    split at hk
    · rename_i r hr
      obtain ⟨asl, ha, hc⟩ := tup_inv hv
      rw [nthS_get] at hr
      obtain ⟨a, h1, h2⟩ := hc.get _ _ hr
      exact ⟨asl, a, ha, h1, H.done hk h2 (lowNs_get (by simpa [SV.lowN] using hl) hr)⟩
    · cases hk
  · cases hk
theorem index_ok (H : Gam B cx st L Es E h n) {t : TypeId} {x ix : Operand} (hk : opS g cx st (.index t x ix) k = some y) : opP g.T (.index t x ix) (ev E) h n (Done B cx Es E y k) := by
  have hx := (H.ev x).1
  have hi := (H.ev ix).1
  simp only [opS] at hk
  split at hk
  · rename_i s kk i ht h1 h2
    rw [h1] at hx; rw [h2] at hi
    obtain ⟨z, q1, q2⟩ := Option.bind_eq_some_iff.1 hk
    unfold strAt at q1
    split at q1
    · rename_i hh
      cases q1
      exact ⟨s, kk, i, ht, str_inv hx, int_inv hi, hh.1, hh.2, H.done q2 (TV.int _ _) rfl⟩
    · cases q1
  · cases hk
theorem unOp_ok (H : Gam B cx st L Es E h n) {op : UnOp} {t : TypeId} {x : Operand} (hk : opS g cx st (.unOp op t x) k = some y) : opP g.T (.unOp op t x) (ev E) h n (Done B cx Es E y k) := by
  have hx := (H.ev x).1
  simp only [opS] at hk
  split at hk
  · rename_i b h1
    rw [h1] at hx
    simp only [opP, bool_inv hx, unP]
    exact H.done hk (TV.bool _) rfl
  · rename_i i m h1
    rw [h1] at hx
    simp only [opP, int_inv hx, unP]
    exact H.done hk (TV.int _ _) rfl
  · cases hk
theorem TVs.map {ρ : Rt} {mc : Nat} {f : Operand → SV} {e : Operand → AV} (hf : ∀ x, TV L ρ mc h (f x) (e x)) : ∀ (l : List Operand), TVs L ρ mc h (l.map f) (l.map e)
  | [] => .nil
  | x :: l => .cons _ _ _ _ (hf x) (TVs.map hf l)
theorem lowNs_map {m : Nat} {f : Operand → SV} (hf : ∀ x, (f x).lowN m = true) : ∀ (l : List Operand), SV.lowNs m (l.map f) = true
  | [] => rfl
  | x :: l => by simp [SV.lowNs, hf x, lowNs_map hf l]
theorem makeFunc_ok (H : Gam B cx st L Es E h n) {f : FuncId} {first : Array Operand} {cap : Array Operand} (hk : opS g cx st (.makeFunc (.func f) first cap) k = some y) : opP g.T (.makeFunc (.func f) first cap) (ev E) h n (Done B cx Es E y k) := by
  simp only [opS] at hk
  obtain ⟨q1, q2⟩ := bif_some hk
  exact ⟨by simpa using q1, H.done q2 (.fn _ _ _ (TVs.map (fun x => (H.ev x).1) _)) (by simpa [SV.lowN] using lowNs_map (fun x => (H.ev x).2) _)⟩
end
end Go.Proofs.Ytcngfjmfgeckmaa
namespace Go.Proofs.Ytcngfjmfgeckmaa
open Go
mutual
theorem lowN_mono {m n : Nat} (hm : m ≤ n) : ∀ (v : SV), v.lowN m = true → v.lowN n = true
  | .vw e k t xs, h => by simp only [SV.lowN, Nat.blt_eq] at h ⊢; omega
  | .row r v, h => by simp only [SV.lowN, Bool.and_eq_true, Nat.blt_eq] at h ⊢; omega
  | .sub r v s _ _ _ _ _, h => by simp only [SV.lowN, Bool.and_eq_true, Nat.blt_eq] at h ⊢; omega
  | .nst r v w u s _ _ _ _, h => by simp only [SV.lowN, Bool.and_eq_true, Nat.blt_eq] at h ⊢; omega
  | .nsub r v w u s _ _ _ _ _ _, h => by simp only [SV.lowN, Bool.and_eq_true, Nat.blt_eq] at h ⊢; omega
  | .pr cs _, h => lowNs_mono hm cs h
  | .pv k cs _, h => by
    simp only [SV.lowN, Bool.and_eq_true, Nat.blt_eq] at h ⊢
    exact ⟨by omega, lowNs_mono hm cs h.2⟩
  | .cp c _, h => by simp only [SV.lowN, Nat.blt_eq] at h ⊢; omega
  | .ep r v u s _ _ cs, h => by
    simp only [SV.lowN, Bool.and_eq_true, Nat.blt_eq] at h ⊢
    exact ⟨by omega, lowNs_mono hm cs h.2⟩
  | .en r v w u s _ _ _ _ cs, h => by
    simp only [SV.lowN, Bool.and_eq_true, Nat.blt_eq] at h ⊢
    exact ⟨by omega, lowNs_mono hm cs h.2⟩
  | .agg cs, h => lowNs_mono hm cs h
  | .tup cs, h => lowNs_mono hm cs h
  | .fn _ cs, h => lowNs_mono hm cs h
  | .int _ _, _ => rfl
  | .bool _, _ => rfl
  | .str _, _ => rfl
  | .nil, _ => rfl
  | .rd _ _ _, _ => rfl
  | .nilp, _ => rfl
  | .nilf, _ => rfl
  | .undef, _ => rfl
  | .lk, _ => rfl
theorem lowNs_mono {m n : Nat} (hm : m ≤ n) : ∀ (vs : List SV), SV.lowNs m vs = true → SV.lowNs n vs = true
  | [], _ => rfl
  | v :: l, h => by
    simp only [SV.lowNs, Bool.and_eq_true] at h ⊢
    exact ⟨lowN_mono hm v h.1, lowNs_mono hm l h.2⟩
end
theorem Root.low_mono {m n : Nat} (hm : m ≤ n) {ρ : Root} (h : ρ.lowN m) : ρ.lowN n := by
  cases ρ with
  | cell cs => exact lowNs_mono hm cs h
  | row v w s md hl t xs => exact ⟨Nat.lt_of_lt_of_le h.1 hm, Nat.lt_of_lt_of_le h.2.1 hm, Nat.lt_of_lt_of_le h.2.2.1 hm, fun u o hq => Nat.lt_of_lt_of_le (h.2.2.2 u o hq) hm⟩
section
variable {B : Bas} {cx : Cx} {L : Lay} {Es : List Env} {E : Env} {h : Heap} {n : Nat} {g : Pg} {α : Type} {y : α} {k : SV → St → Option α}
def Lay.setU (L : Lay) (u : Nat) (i : Int) : Lay := { L with U := fun u' => if u' = u then i else L.U u' }
theorem Gam.newU {env : SEnv} {ρ : Roots} {nx mc : Nat} (H : Gam B cx ⟨env, ρ, nx, mc⟩ L Es E h n) (i : Int) :
    Gam B cx ⟨env, ρ, nx + 1, mc⟩ (L.setU nx i) Es E h n ∧ ∀ v a, TV L (rootOf cx ⟨env, ρ, nx, mc⟩) mc h v a → v.lowN nx = true → TV (L.setU nx i) (rootOf cx ⟨env, ρ, nx + 1, mc⟩) mc h v a ∧ v.lowN (nx + 1) = true := by
  have hU : ∀ u, u < nx → (L.setU nx i).U u = L.U u := fun u hu => by show (if u = nx then i else L.U u) = L.U u; rw [if_neg (by omega)]
  have T : Tr nx L (L.setU nx i) (rootOf cx ⟨env, ρ, nx, mc⟩) (rootOf cx ⟨env, ρ, nx + 1, mc⟩) mc mc h h :=
    ⟨fun _ _ hb => hb, fun _ => ⟨rfl, fun _ _ hb => hb⟩, fun r v w s md hl t xs hr _ _ => ⟨w, s, md, hl, xs, hr, rfl, rfl, fun _ => ⟨rfl, rfl⟩, fun _ => ⟨rfl, fun _ _ _ _ _ hc => hc⟩⟩, fun c cs hr _ => ⟨cs, hr, rfl, rfl⟩, hU⟩
  have tv : ∀ v a, TV L (rootOf cx ⟨env, ρ, nx, mc⟩) mc h v a → v.lowN nx = true → TV (L.setU nx i) (rootOf cx ⟨env, ρ, nx + 1, mc⟩) mc h v a ∧ v.lowN (nx + 1) = true := fun v a hv hl => ⟨hv.tr T hl, lowN_mono (Nat.le_succ _) v hl⟩
  refine ⟨⟨H.f0, H.fh, H.gh, H.fr, H.rh, H.fnew, H.hlt, H.nn, fun r ρ' hr => ?_, fun r ρ' hr => ⟨Nat.lt_succ_of_lt (H.lowT r ρ' hr).1, Root.low_mono (Nat.le_succ _) (H.lowT r ρ' hr).2⟩, H.ap, H.ftF, H.ftR, H.ftC, fun t v hv => ?_, fun t v hv => ?_, fun j fr E' h1 h2 t v hv => ?_, H.dj, H.frl, Nat.lt_succ_of_lt H.mcl, H.nd, fun r hr => H.lkd r (hr.imp id Nat.le_of_succ_le), H.lkc⟩, tv⟩
  · have h1 := H.th r ρ' hr
    have h2 := (H.lowT r ρ' hr).2
    cases ρ' with
    | cell cs =>
      obtain ⟨e, q1, q2, q3, q4, q5, q6⟩ := h1
      exact ⟨e, q1, q2, q3, q4, q5.tr T h2, q6⟩
    | row v w s md hl t xs =>
      cases hl with
      | none => cases md <;> exact h1
      | some uo =>
        obtain ⟨u, o⟩ := uo
        cases md with
        | own =>
          show HoleOk _ _ _ _ _ _ ((L.setU nx i).U u) o
          rw [hU u (h2.2.2.2 u o rfl)]
          exact h1
        | flat => exact h1
        | fz => exact h1
  · exact tv v _ (H.env t v hv).1 (H.env t v hv).2
  · exact tv v _ (H.env0 t v hv).1 (H.env0 t v hv).2
  · exact tv v _ (H.frs j fr E' h1 h2 t v hv).1 (H.frs j fr E' h1 h2 t v hv).2
def HdOk (sz len : Nat) (A : AV) : Prop := match A with
  | .nils => len = 0
  | .sl s _ _ ln lo _ => s = sz ∧ ln = len ∧ len ≤ lo
  | .ro s _ l => s = sz ∧ l.length = len
  | _ => False
theorem Fz.hd {F : Heap} {e : Bool} {t : PT} {xs : List t.den} {A : AV} (hv : Fz F (.rd e t xs) A) : HdOk t.w xs.length A := by
  cases hv with
  | rdn => rfl
  | ro _ _ _ _ l _ hc => exact ⟨rfl, hc.len⟩
  | sl => exact ⟨rfl, rfl, by assumption⟩
theorem RowOk.hd {r : Nat} {md : Md} {t : PT} {xs : List t.den} (hr : RowOk L h r md none t xs) : HdOk t.w xs.length (L.A r) := by
  cases md with
  | own =>
    have hr' : OS L.F h (.rd false t xs) (L.A r) (L.ft r) := hr
    generalize L.A r = A at hr'
    cases hr' with
    | rdn => exact rfl
    | emp => exact ⟨rfl, rfl⟩
    | sl => exact ⟨rfl, rfl, by assumption⟩
  | flat =>
    rcases hr with ⟨hA, rfl, _⟩ | ⟨hA, rfl, _⟩ | ⟨id, off0, lo, ex, b, hA, hb, hle, hlo, hc, hI⟩
    · rw [hA]; exact rfl
    · rw [hA]; exact ⟨rfl, rfl⟩
    · rw [hA]; exact ⟨rfl, rfl, hlo⟩
  | fz => exact hr.1.hd
theorem HdOk.epA {sz len i : Nat} {A : AV} (hd : HdOk sz len A) (hi : i < len) : epA A i 0 (.ep sz A i 0) := by
  cases A with
  | nils => exact absurd hi (by rw [show len = 0 from hd]; omega)
  | sl w id off ln lo ex =>
    obtain ⟨rfl, rfl, _⟩ := hd
    exact ⟨off, ln, lo, ex, i, rfl, rfl, hi, Nat.le_refl _⟩
  | ro s ex l =>
    obtain ⟨rfl, rfl⟩ := hd
    exact ⟨ex, l, i, rfl, rfl⟩
  | _ => exact hd.elim
theorem HdOk.epA_sub {sz len i a j : Nat} {e : Bool} {A : AV} (hd : HdOk sz len A) (hj : j ≤ len) (hi : i < j - a) : Go.Proofs.Ytcngfjmfgeckmaa.epA A (a + i) 0 (.ep sz (pieceA A a j e) i 0) := by
  cases A with
  | nils => exact absurd hi (by rw [show len = 0 from hd] at hj; omega)
  | sl w id off ln lo ex =>
    obtain ⟨rfl, rfl, _⟩ := hd
    exact ⟨off + a, j - a, _, _, i, rfl, by omega, hi, by omega⟩
  | ro s ex l =>
    obtain ⟨rfl, rfl⟩ := hd
    exact ⟨_, _, i, rfl, by rw [List.getElem?_take, if_pos hi, List.getElem?_drop]⟩
  | _ => exact hd.elim
theorem atI_some {β : Type} {xs : List β} {i : Int} {x : β} (hx : atI xs i = some x) : 0 ≤ i ∧ xs[i.toNat]? = some x ∧ i < (xs.length : Int) := by
  unfold atI at hx
  split at hx
  · rename_i h0
    have := (List.getElem?_eq_some_iff.1 hx).1
    exact ⟨h0, hx, by omega⟩
  · cases hx
theorem Fz.pr_ok {F : Heap} {e : Bool} {t : PT} {xs : List t.den} {A : AV} (hv : Fz F (.rd e t xs) A) {i : Int} {x : t.den} (hx : atI xs i = some x) : prA F (explode t x) 0 (.ep t.w A i.toNat 0) := by
  obtain ⟨h0, h1, h2⟩ := atI_some hx
  obtain ⟨es, q1, q2⟩ := hv.rd (h := F) fun _ _ hb => hb
  obtain ⟨u, p1, p2, p3⟩ := q2.get _ _ h1
  exact ⟨t.w, A, i.toNat, es, u, 0, rfl, q1, p1, p2, by rw [Nat.zero_add, ← p3.len]; exact Nat.le_refl _, by rw [List.drop_zero, ← p3.len, List.take_length]; exact p3⟩
theorem slcI_at {β : Type} {xs ys : List β} {a b i : Int} {x : β} (hs : slcI xs a b = some ys) (hx : atI ys i = some x) : atI xs (a + i) = some x ∧ i.toNat < b.toNat - a.toNat ∧ (a + i).toNat = a.toNat + i.toNat ∧ 0 ≤ a ∧ b.toNat ≤ xs.length := by
  obtain ⟨h1, h2, h3, h4, h5⟩ := slcI_some hs
  obtain ⟨k1, k2, k3⟩ := atI_some hx
  have hn : (a + i).toNat = a.toNat + i.toNat := by omega
  have hlt : i.toNat < b.toNat - a.toNat := by omega
  refine ⟨?_, hlt, hn, h1, by omega⟩
  unfold atI
  rw [if_pos (by omega), hn]
  rw [h4, List.getElem?_take, if_pos hlt, List.getElem?_drop] at k2
  exact k2
variable {st : St}
theorem Gam.rdR (H : Gam B cx st L Es E h n) {v : SV} {a : AV} (hv : TV L (rootOf cx st) st.mc h v a) {t : PT} {xs : List t.den} {c : Src} (hk : Go.Proofs.Ytcngfjmfgeckmaa.asL cx st v (fun c t xs => some (c, (⟨t, xs⟩ : LV))) = some (c, ⟨t, xs⟩)) : Fz L.R (.rd false t xs) a := by
  obtain ⟨c', t', xs', q1, q2⟩ := H.asL hv hk
  cases q1
  exact H.readR q2
theorem indexAddr_ok (H : Gam B cx st L Es E h n) {tt : TypeId} {px ix : Operand} (hk : opS g cx st (.indexAddr tt px ix) k = some y) : opP g.T (.indexAddr tt px ix) (ev E) h n (Done B cx Es E y k) := by
  obtain ⟨hv, hl⟩ := H.ev px
  have hi := (H.ev ix).1
  obtain ⟨env, ρ, nx, mc⟩ := st
  generalize hw : evS cx ⟨env, ρ, nx, mc⟩ px = w at hv hl
  generalize ha : ev E px = a at hv
  generalize hj : evS cx ⟨env, ρ, nx, mc⟩ ix = u at hi
  simp only [opS, hw, hj] at hk
  unfold indexAddrS at hk
  split at hk
  case h_2 => cases hk
  rename_i e he
  cases u with
  | int kk i =>
    simp only [intK] at hk
    have fin : ∀ {t : PT} {xs : List t.den} {x : t.den}, Fz L.R (.rd false t xs) a → Nat.beq (g.T e).sz t.w = true → atI xs i = some x → Done B cx Es E y k (.ep t.w a i.toNat 0) h n → opP g.T (.indexAddr tt px ix) (ev E) h n (Done B cx Es E y k) := fun {t xs x} hf hb hx hd => by
      have hw := Nat.eq_of_beq_eq_true hb
      obtain ⟨es, q1, q2⟩ := hf.rd H.rh
      obtain ⟨h0, h1, h2⟩ := atI_some hx
      exact ⟨e, es, kk, i, he, by rw [hw]; exact t.w_pos, by rw [ha, hw]; exact q1, int_inv hi, h0, by rw [q2.len]; exact h2, by rw [ha, hw]; exact hd⟩
    cases hv with
    | pl _ _ hv =>
      cases w with
      | rd ex t xs =>
        obtain ⟨q1, q2⟩ := bif_some hk
        obtain ⟨x, hx, q3⟩ := Option.bind_eq_some_iff.1 q2
        exact fin (hv.weak.mono H.fr) q1 hx (H.done q3 (.pr _ _ _ (hv.pr_ok hx)) (explode_low _ _ _))
      | _ => first | cases hk | cases hv
    | vw ex m t xs a ho hv =>
      obtain ⟨q1, q2⟩ := bif_some hk
      simp only [Bool.and_eq_true] at q1
      obtain ⟨x, hx, q3⟩ := Option.bind_eq_some_iff.1 q2
      have hm := Nat.eq_of_beq_eq_true q1.2
      refine fin (hv hm).weak q1.1 hx (H.done q3 (.pv _ _ _ _ rfl ⟨_, rfl, fun hm => (hv hm).pr_ok hx⟩) ?_)
      simp only [SV.lowN, Bool.and_eq_true]
      exact ⟨by simpa [SV.lowN] using hl, vwC_low (by simpa [SV.lowN] using hl) _ (explode_low _ _ _)⟩
    | row r v a ho hv =>
      simp only at hk
      split at hk
      case h_2 => cases hk
      rename_i v' w s md t xs hr
      obtain ⟨q1, q2⟩ := bif_some hk
      simp only [Bool.and_eq_true] at q1
      obtain rfl := Nat.eq_of_beq_eq_true q1.2
      obtain ⟨x, hx, q3⟩ := Option.bind_eq_some_iff.1 q2
      obtain rfl := hv _ _ _ _ _ _ hr
      have hro : RowOk L h r md none t xs := H.th _ _ hr
      have hlo := H.lowT _ _ hr
      simp only [SV.lowN, Bool.and_eq_true, Nat.blt_eq] at hl
      have hlo1 : r < nx := hl.1
      have hlo2 : s < nx := hlo.2.2.2.1
      obtain ⟨h0, h1, h2⟩ := atI_some hx
      have rd := H.rdR (c := srcOf md r) (xs := xs) (.row r v (L.A r) ho hv) (by simp only [Go.Proofs.Ytcngfjmfgeckmaa.asL, hr]; rw [show v.beq v = true from Nat.beq_refl v]; rfl)
      obtain ⟨H', tv⟩ := H.newU i
      refine fin rd q1.1 hx (H'.done q3 (.ep _ _ _ _ _ _ _ _ rfl fun w' s' md' hl' t' xs' hr' => ?_) ?_)
      · have := hr.symm.trans hr'
        cases this
        exact ⟨if_pos rfl, h0, h2, (RowOk.hd hro).epA (by omega), fun _ => ⟨x, hx, rfl⟩⟩
      · simp only [SV.lowN, Bool.and_eq_true, Nat.blt_eq]
        have hl2 : v < nx := hl.2
        refine ⟨⟨⟨⟨?_, ?_⟩, ?_⟩, ?_⟩, explode_low _ _ _⟩ <;> show _ < nx + 1 <;> omega
    | sub r v s a0 b0 ex t ys a ho hv =>
      simp only at hk
      split at hk
      case h_2 => cases hk
      rename_i v' w s' md t' xs hr
      obtain ⟨q1, q2⟩ := bif_some hk
      simp only [Bool.and_eq_true] at q1
      obtain rfl := Nat.eq_of_beq_eq_true q1.1.2
      have hss := Nat.eq_of_beq_eq_true q1.2
      obtain ⟨x, hx, q3⟩ := Option.bind_eq_some_iff.1 q2
      have hv0 := hv
      obtain ⟨k1, rfl, k3⟩ := hv _ _ _ _ _ _ hr
      obtain ⟨zs, k4, k5⟩ := k3 hss
      cases k5
      have hro : RowOk L h r md none t xs := H.th _ _ hr
      have hlo := H.lowT _ _ hr
      simp only [SV.lowN, Bool.and_eq_true, Nat.blt_eq] at hl
      obtain ⟨h0, h1, h2⟩ := atI_some hx
      obtain ⟨m1, m2, m3, m4, m5⟩ := slcI_at k4 hx
      obtain ⟨n0, n1, n2⟩ := atI_some m1
      have rd := H.rdR (c := srcOf md r) (t := t) (xs := ys) (.sub r v s a0 b0 ex t ys _ ho hv0) (by simp only [Go.Proofs.Ytcngfjmfgeckmaa.asL, hr]; rw [show v.beq v = true from Nat.beq_refl v, q1.2]; rfl)
      obtain ⟨H', tv⟩ := H.newU (a0 + i)
      refine fin rd q1.1.1 hx (H'.done q3 (.ep _ _ _ _ _ _ _ _ rfl fun w' s2 md' hl' t' xs' hr' => ?_) ?_)
      · have := hr.symm.trans hr'
        cases this
        exact ⟨if_pos rfl, n0, n2, by rw [m3]; exact (RowOk.hd hro).epA_sub m5 m2, fun _ => ⟨x, m1, rfl⟩⟩
      · simp only [SV.lowN, Bool.and_eq_true, Nat.blt_eq]
        have hl1 : r < nx := hl.1.1
        have hl2 : v < nx := hl.1.2
        have hl3 : s < nx := hl.2
        refine ⟨⟨⟨⟨?_, ?_⟩, ?_⟩, ?_⟩, explode_low _ _ _⟩ <;> show _ < nx + 1 <;> omega
    | nst r v w u s i' off t ys a ho hv =>
      have hv0 := hv
      simp only at hk
      split at hk
      case h_2 => cases hk
      rename_i v' w' s' md t' xs hr
      obtain ⟨q1, q2⟩ := bif_some hk
      simp only [Bool.and_eq_true] at q1
      obtain rfl := Nat.eq_of_beq_eq_true q1.1.1.2
      obtain rfl := Nat.eq_of_beq_eq_true q1.1.2
      obtain ⟨k1, k2, k3, k4, k5, k6⟩ := hv _ _ _ _ _ hr
      have hro : RowOk L h r md none t' xs := H.th _ _ hr
      have hlo := H.lowT _ _ hr
      have hlo2 : s' < nx := hlo.2.2.2.1
      simp only [SV.lowN, Bool.and_eq_true, Nat.blt_eq] at hl
      have get : ∀ {x}, atI xs i' = some x → xs[i'.toNat]? = some x := fun hx => (atI_some hx).2.1
      have key : ∀ {x0 t2} {zs : List t2.den} {z : t2.den} {s2 : Nat}, s2 < nx → atI xs i' = some x0 → nthS (explode t' x0) off = some (.rd false t2 zs) → Nat.beq (g.T e).sz t2.w = true → atI zs i = some z →
          k (.en r v w u s2 i' off i 0 (explode t2 z)) ⟨env, ρ, nx, mc⟩ = some y → opP g.T (.indexAddr tt px ix) (ev E) h n (Done B cx Es E y k) := fun {x0 t2 zs z s2} hs hx hz hb hzi hk' => by
        have rd := H.readR (nested_ok H.fh hr hro q1.2 (get hx) hz k5)
        obtain ⟨h0, h1, h2⟩ := atI_some hzi
        refine fin rd hb hzi (H.done hk' (.en _ _ _ _ _ _ _ _ _ _ _ rfl fun s3 md3 hl3 t3 xs3 hr' => ?_) ?_)
        · have := hr.symm.trans hr'
          cases this
          exact ⟨k1, k2, k3, h0, k4, ⟨a, k5, rd.hd.epA (by omega)⟩, fun _ => ⟨x0, t2, zs, z, hx, hz, hzi, rfl⟩⟩
        · simp only [SV.lowN, Bool.and_eq_true, Nat.blt_eq]
          exact ⟨⟨hl.1, hs⟩, explode_low _ _ _⟩
      have q3 : (bif s.beq s' then (atI ys i).bind _ else _) = some y := q2
      cases hb : s.beq s' with
      | true =>
        rw [hb] at q3
        obtain ⟨x0, m1, m2⟩ := k6 (Nat.eq_of_beq_eq_true hb)
        obtain ⟨z, p1, p2⟩ := Option.bind_eq_some_iff.1 q3
        exact key hl.2 m1 m2 q1.1.1.1 p1 p2
      | false =>
        rw [hb] at q3
        obtain ⟨x0, m1, q4⟩ := Option.bind_eq_some_iff.1 q3
        split at q4
        · rename_i e2 t2 zs hz
          have he := explode_ex t' x0 _ (by rw [nthS_get] at hz; exact List.mem_of_getElem? hz) _ _ _ rfl
          subst he
          obtain ⟨hb2, q5⟩ := bif_some q4
          obtain ⟨z, p1, p2⟩ := Option.bind_eq_some_iff.1 q5
          exact key hlo2 m1 hz hb2 p1 p2
        · cases q4
    | nsub r v w u s i' off p q t ys a ho hv =>
      have hv0 := hv
      simp only at hk
      split at hk
      case h_2 => cases hk
      rename_i v' w' s' md t' xs hr
      obtain ⟨q1, q2⟩ := bif_some hk
      simp only [Bool.and_eq_true] at q1
      obtain rfl := Nat.eq_of_beq_eq_true q1.1.1.1.2
      obtain rfl := Nat.eq_of_beq_eq_true q1.1.1.2
      have hss := Nat.eq_of_beq_eq_true q1.1.2
      obtain ⟨z, p1, p2⟩ := Option.bind_eq_some_iff.1 q2
      obtain ⟨k1, k2, k3, k4, ⟨a0, k5, rfl⟩, n0, n1, k6⟩ := hv _ _ _ _ _ hr
      obtain ⟨x0, t2, zs, ws, m1, m2, m3, m4⟩ := k6 hss
      cases m4
      have hro : RowOk L h r md none t' xs := H.th _ _ hr
      simp only [SV.lowN, Bool.and_eq_true, Nat.blt_eq] at hl
      have rd := H.readR (nested_ok H.fh hr hro q1.2 (atI_some m1).2.1 m2 k5)
      obtain ⟨j1, j2, j3, j4, j5⟩ := slcI_at m3 p1
      obtain ⟨h0, h1, h2⟩ := atI_some j1
      refine fin (rd.piece m3) q1.1.1.1.1 p1 (H.done p2 (.en _ _ _ _ _ _ _ _ _ _ _ rfl fun s3 md3 hl3 t3 xs3 hr' => ?_) ?_)
      · have := hr.symm.trans hr'
        cases this
        exact ⟨k1, k2, k3, h0, k4, ⟨a0, k5, by rw [j3]; exact rd.hd.epA_sub j5 j2⟩, fun _ => ⟨x0, t, zs, z, m1, m2, j1, rfl⟩⟩
      · simp only [SV.lowN, Bool.and_eq_true, Nat.blt_eq]
        exact ⟨hl, explode_low _ _ _⟩
    | _ => cases hk
  | _ => cases hk
end
end Go.Proofs.Ytcngfjmfgeckmaa
namespace Go.Proofs.Ytcngfjmfgeckmaa
open Go
section
variable {B : Bas} {cx : Cx} {st : St} {L : Lay} {Es : List Env} {E : Env} {h : Heap} {n : Nat} {g : Pg} {α : Type} {y : α} {k : SV → St → Option α}
theorem eqS_ok {ρ : Rt} {mc : Nat} {v w : SV} {a b : AV} {r : Bool} (hv : TV L ρ mc h v a) (hw : TV L ρ mc h w b) (hq : eqS v w = some r) : eqC a b = some r := by
  unfold eqS at hq
  split at hq
  · obtain ⟨q1, q2⟩ := bif_some hq
    obtain rfl := kindNum_inj (Nat.eq_of_beq_eq_true q1)
    rw [int_inv hv, int_inv hw]
    simpa [eqC] using q2
  · rw [bool_inv hv, bool_inv hw]; exact hq
  · rw [str_inv hv, str_inv hw]; exact hq
  · cases hq
theorem eqSs_ok {ρ : Rt} {mc : Nat} : ∀ {vs ws : List SV} {asl bs : List AV} {r : Bool}, TVs L ρ mc h vs asl → TVs L ρ mc h ws bs → eqSs vs ws = some r → eqCells asl bs = some r
  | _, _, _, _, r, .nil, .nil, hq => hq
  | _, _, _, _, r, .nil, .cons .., hq => by cases hq
  | _, _, _, _, r, .cons .., .nil, hq => by simp [eqSs] at hq
  | _, _, _, _, r, .cons v vs a asl hv hl, .cons w ws b bs hw hm, hq => by
    have gen : ∀ {r1 r2 : Bool}, eqS v w = some r1 → eqSs vs ws = some r2 → eqCells (a :: asl) (b :: bs) = some (r1 && r2) := fun {r1 r2} h1 h2 => by
      simp [eqCells, eqS_ok hv hw h1, eqSs_ok hl hm h2]
    cases vs with
    | nil =>
      cases ws with
      | nil =>
        have := gen (r1 := r) (r2 := true) hq rfl
        simpa using this
      | cons w2 ws =>
        simp only [eqSs] at hq
        split at hq <;> first | cases hq | simp at hq
    | cons v2 vs =>
      simp only [eqSs] at hq
      split at hq
      · rename_i r1 h1
        split at hq
        · rename_i r2 h2
          cases hq
          exact gen h1 h2
        · cases hq
      · cases hq
theorem fitsS_ok {ρ : Rt} {mc : Nat} : ∀ {fs : List (Nat × TypeId)} {vs : List SV} {asl : List AV}, TVs L ρ mc h vs asl → fitsS g fs vs = true → fitsP g.T fs asl
  | [], _, _, .nil, _ => trivial
  | [], _, _, .cons .., hq => by cases hq
  | _ :: _, _, _, .nil, hq => by cases hq
  | p :: fs, _, _, .cons v vs a asl hv hl, hq => by
    simp only [fitsS, Bool.and_eq_true] at hq
    refine ⟨?_, fitsS_ok hl hq.2⟩
    have := hq.1
    unfold fitS at this
    unfold scalarFits
    split at this
    · rename_i h1; rw [h1, int_inv hv]; trivial
    · rename_i h1; rw [h1, bool_inv hv]; trivial
    · rename_i h1; rw [h1, str_inv hv]; trivial
    · cases this
theorem binS_ok {ρ : Rt} {mc : Nat} {op : BinOp} {t : TypeId} {v w : SV} {a b : AV} (hv : TV L ρ mc h v a) (hw : TV L ρ mc h w b) {k : SV → Option α} {K : AV → Prop} (hK : ∀ u c, k u = some y → TV L ρ mc h u c → u.lowN 0 = true → K c) (hk : binS g op t v w k = some y) : binP g.T op t a b K := by
  have bl : ∀ {x : Bool}, k (.bool x) = some y → K (.bool x) := fun hx => hK _ _ hx (TV.bool _) rfl
  have it : ∀ {i x}, k (.int i x) = some y → K (.int i x) := fun hx => hK _ _ hx (TV.int _ _) rfl
  unfold binS at hk
  split at hk
  · rw [int_inv hv, int_inv hw]; split at hk
    · rename_i h0; exact ⟨h0, it hk⟩
    · cases hk
  · rw [int_inv hv, int_inv hw]; split at hk
    · rename_i h0; exact ⟨h0, it hk⟩
    · cases hk
  · rw [str_inv hv, str_inv hw]; split at hk
    · rename_i h0; exact ⟨h0, hK _ _ hk (TV.str _) rfl⟩
    · cases hk
  · rw [str_inv hv, str_inv hw]; exact bl hk
  · rw [str_inv hv, str_inv hw]; exact bl hk
  · rw [bool_inv hv, bool_inv hw]; split at hk
    · rename_i h0; exact ⟨h0, bl hk⟩
    · cases hk
  · rw [bool_inv hv, bool_inv hw]; split at hk
    · rename_i h0; exact ⟨h0, bl hk⟩
    · cases hk
  · obtain ⟨asl, rfl, ha⟩ := agg_inv hv
    obtain ⟨bs, rfl, hb⟩ := agg_inv hw
    split at hk
    · rename_i fs h0
      obtain ⟨q1, q2⟩ := bif_some hk
      simp only [Bool.and_eq_true] at q1
      split at q2
      · rename_i r hr
        exact ⟨fs, h0, q1.1, fitsS_ok ha q1.2, r, eqSs_ok ha hb hr, bl q2⟩
      · cases q2
    · cases hk
  · obtain ⟨asl, rfl, ha⟩ := agg_inv hv
    obtain ⟨bs, rfl, hb⟩ := agg_inv hw
    split at hk
    · rename_i fs h0
      obtain ⟨q1, q2⟩ := bif_some hk
      simp only [Bool.and_eq_true] at q1
      split at q2
      · rename_i r hr
        exact ⟨fs, h0, q1.1, fitsS_ok ha q1.2, r, eqSs_ok ha hb hr, bl q2⟩
      · cases q2
    · cases hk
  · obtain ⟨q1, q2⟩ := bif_some hk
    obtain rfl := kindNum_inj (Nat.eq_of_beq_eq_true q1)
    rw [int_inv hv, int_inv hw]
    split at q2
    · exact ⟨rfl, it q2⟩
    · exact ⟨rfl, it q2⟩
    · exact ⟨rfl, it q2⟩
    · split at q2
      · rename_i h0; exact ⟨rfl, h0, it q2⟩
      · cases q2
    · split at q2
      · rename_i h0; exact ⟨rfl, h0, it q2⟩
      · cases q2
    · exact ⟨rfl, it q2⟩
    · exact ⟨rfl, it q2⟩
    · exact ⟨rfl, bl q2⟩
    · exact ⟨rfl, bl q2⟩
    · exact ⟨rfl, bl q2⟩
    · exact ⟨rfl, bl q2⟩
    · exact ⟨rfl, bl q2⟩
    · exact ⟨rfl, bl q2⟩
    · cases q2
  · cases hk
theorem binOp_ok (H : Gam B cx st L Es E h n) {op : BinOp} {t : TypeId} {x z : Operand} {b : _} (hk : opS g cx st (.binOp op t x z b) k = some y) : opP g.T (.binOp op t x z b) (ev E) h n (Done B cx Es E y k) :=
  binS_ok (y := y) (k := fun r => k r st) (H.ev x).1 (H.ev z).1 (fun u c h1 h2 h3 => H.done h1 h2 (lowN_mono (Nat.zero_le _) _ h3)) hk
theorem FzL.bytes {F : Heap} {kk : IntKind} : ∀ {xs : List Int} {es : List AV}, FzL F (.int kk) xs es → es = xs.map (AV.int kk)
  | [], _, .nil _ => rfl
  | x :: xs, _, .cons _ _ _ e es hg hc hl => by
    have := FzL.bytes hl
    subst this
    have hc' : FzC F [.int kk x] e.cells := hc
    generalize hcs : e.cells = cs at hc'
    cases hc' with
    | cons v vs a asl hv hn =>
      cases hn
      cases hv
      rw [one_cells (hg.2 rfl)] at hcs
      cases hcs; rfl
theorem convert_ok (H : Gam B cx st L Es E h n) {s d : TypeId} {x : Operand} (hk : opS g cx st (.convert s d x) k = some y) : opP g.T (.convert s d x) (ev E) h n (Done B cx Es E y k) := by
  obtain ⟨hv, hl⟩ := H.ev x
  generalize hw : evS cx st x = w at hv hl
  generalize ha : ev E x = a at hv
  simp only [opS, hw] at hk
  simp only [opP, ha]
  split at hk
  · rename_i i kk m h1
    split at hk
    · rename_i k' h2
      rw [h1, int_inv hv]
      exact ⟨⟨_, h2⟩, H.done hk (TV.int _ _) rfl⟩
    · cases hk
  · rename_i v h1
    split at hk
    · rename_i e h2
      split at hk
      · rename_i h3
        have fin : ∀ {xs : List Int}, Fz L.R (.rd false (.int .u8) xs) a → k (.str (bytesStr xs)) st = some y → ∃ e ns, (g.T s).ty = .slice e ∧ (g.T e).ty = .int .u8 ∧ rdSl h 1 a = some (ns.map (AV.int .u8)) ∧ Done B cx Es E y k (.str (bytesStr ns)) h n := fun {xs} hf hk => by
          obtain ⟨es, q1, q2⟩ := hf.rd H.rh
          exact ⟨e, xs, h2, h3, by rw [← q2.bytes]; exact q1, H.done hk (TV.str _) rfl⟩
        split at hk
        · rw [h1]
          rw [nil_inv hv]
          exact ⟨e, [], h2, h3, rfl, H.done hk (TV.str _) rfl⟩
        · obtain ⟨c, t, xs, q1, q2⟩ := H.asL hv hk
          split at q1
          · rename_i ys hc
            obtain ⟨rfl, rfl⟩ := castL_ok hc
            rw [h1]
            exact fin (H.readR q2) q1
          · cases q1
      · cases hk
    · cases hk
  · cases hk
end
end Go.Proofs.Ytcngfjmfgeckmaa
namespace Go.Proofs.Ytcngfjmfgeckmaa
open Go
theorem pieceA_one {A : AV} {i j : Nat} {e : Bool} (h : A.one = true) : (pieceA A i j e).one = true := by cases A <;> first | rfl | exact h
theorem sliceP_of {sz len i j : Nat} {A : AV} {lo hi mx : Option AV} {K : AV → Prop} (hd : HdOk sz len A) (h1 : bnd lo 0 i) (h2 : bnd hi len j) (hmx : mx = none ∨ (mx.isSome = true ∧ ∀ d, bnd mx d j)) (hij : i ≤ j) (hj : j ≤ len) (hK : K (pieceA A i j mx.isSome)) : sliceP sz A lo hi mx K := by
  cases A with
  | nils =>
    have : len = 0 := hd
    subst this
    obtain rfl : j = 0 := by omega
    obtain rfl : i = 0 := by omega
    refine ⟨h1, h2, ?_, hK⟩
    rcases hmx with rfl | ⟨_, hm⟩
    · rfl
    · exact hm 0
  | ro s ex l =>
    obtain ⟨rfl, rfl⟩ := hd
    rcases hmx with rfl | ⟨hs, hm⟩
    · exact ⟨rfl, i, j, l.length, h1, h2, rfl, hij, hj, Nat.le_refl _, hK⟩
    · refine ⟨rfl, i, j, j, h1, h2, hm _, hij, Nat.le_refl _, hj, ?_⟩
      rw [hs] at hK ⊢
      simpa [pieceA] using hK
  | sl s id off ln lo' ex =>
    obtain ⟨rfl, rfl, hlo⟩ := hd
    rcases hmx with rfl | ⟨hs, hm⟩
    · exact ⟨rfl, i, j, lo', h1, h2, rfl, hij, by omega, Nat.le_refl _, hK⟩
    · refine ⟨rfl, i, j, j, h1, h2, hm _, hij, Nat.le_refl _, by omega, ?_⟩
      rw [hs] at hK ⊢
      simpa [pieceA] using hK
  | _ => exact hd.elim
theorem HdOk.piece {sz len i j : Nat} {A : AV} {e : Bool} (hd : HdOk sz len A) (hij : i ≤ j) (hj : j ≤ len) : HdOk sz (j - i) (pieceA A i j e) := by
  cases A with
  | nils => have : len = 0 := hd; show j - i = 0; omega
  | ro s ex l =>
    obtain ⟨rfl, rfl⟩ := hd
    exact ⟨rfl, by rw [List.length_take, List.length_drop]; omega⟩
  | sl s id off ln lo ex =>
    obtain ⟨rfl, rfl, hlo⟩ := hd
    refine ⟨rfl, rfl, ?_⟩
    split <;> omega
  | _ => exact hd.elim
theorem piece_piece {sz len a b i j : Nat} {A : AV} {e ex : Bool} (hd : HdOk sz len A) (hab : a ≤ b) (hb : b ≤ len) (hij : i ≤ j) (hj : j ≤ b - a) (hx : (ex || !e) = true) : pieceA (pieceA A a b e) i j ex = pieceA A (a + i) (a + j) ex := by
  cases A with
  | nils => rfl
  | ro s x l =>
    obtain ⟨rfl, rfl⟩ := hd
    have hl : (List.take (j - i) (List.drop i (List.take (b - a) (List.drop a l)))) = List.take (a + j - (a + i)) (List.drop (a + i) l) := by
      rw [List.drop_take, List.take_take, List.drop_drop]
      congr 1; omega
    have hlen : (List.take (b - a) (List.drop a l)).length = b - a := by rw [List.length_take, List.length_drop]; omega
    cases ex with
    | true => simp [pieceA, hl]
    | false =>
      cases e with
      | true => cases hx
      | false =>
        simp only [pieceA, hl, hlen, Bool.false_eq_true, if_false]
        congr 1
        cases x with
        | false => rfl
        | true =>
          simp only [Bool.true_and]
          by_cases h1 : b = l.length
          · by_cases h2 : j = b - a
            · have : a + j = l.length := by omega
              simp [h1, h2, this]
              omega
            · have : a + j ≠ l.length := by omega
              simp [h2, this]
          · have : a + j ≠ l.length := by omega
            simp [h1, this]
  | sl s id off ln lo x =>
    cases ex with
    | true => simp [pieceA]; omega
    | false =>
      cases e with
      | true => cases hx
      | false => simp [pieceA]; omega
  | _ => rfl
section
variable {B : Bas} {cx : Cx} {st : St} {L : Lay} {Es : List Env} {E : Env} {h : Heap} {n : Nat} {g : Pg} {α : Type} {y : α} {k : SV → St → Option α}
theorem bnd_ok (H : Gam B cx st L Es E h n) {o : Option Operand} {d : Nat} {i : Int} (hq : optI (o.map (evS cx st)) (d : Int) = some i) (h0 : 0 ≤ i) : bnd (o.map (ev E)) d i.toNat := by
  cases o with
  | none => cases hq; show (d : Int).toNat = d; simp
  | some x =>
    have hx := (H.ev x).1
    simp only [Option.map_some] at hq ⊢
    generalize evS cx st x = w at hq hx
    cases w with
    | int kk z => cases hq; rw [int_inv hx]; exact ⟨h0, rfl⟩
    | _ => cases hq
theorem sameX_ok {hi : Option Operand} {m : Operand} (hq : sameX hi (some m) = true) : ∃ x, hi = some x ∧ (x = m ∨ ∃ k1 k2, x = .const (.int k1 0) ∧ m = .const (.int k2 0)) := by
  unfold sameX at hq
  split at hq
  · rename_i h1 h2
    cases h2
    exact ⟨_, rfl, .inl (by rw [Nat.eq_of_beq_eq_true hq])⟩
  · rename_i h1 h2
    cases h2
    exact ⟨_, rfl, .inr ⟨_, _, rfl, rfl⟩⟩
  · cases hq
theorem sliceOp_ok (H : Gam B cx st L Es E h n) {tt : TypeId} {px : Operand} {lo hi mx : Option Operand} (hk : opS g cx st (.slice tt px lo hi mx) k = some y) : opP g.T (.slice tt px lo hi mx) (ev E) h n (Done B cx Es E y k) := by
  obtain ⟨hv, hl⟩ := H.ev px
  generalize hw : evS cx st px = w at hv hl
  generalize ha : ev E px = a at hv
  simp only [opS, hw] at hk
  split at hk
  · rename_i s h1
    obtain ⟨q1, q2⟩ := bif_some hk
    have hmx : mx = none := by cases mx <;> first | rfl | cases q1
    unfold sliceS at q2
    split at q2
    · cases q2
    · rename_i i hi0
      simp only at q2
      have q3 : (match optI (hi.map (evS cx st)) (s.size : Int) with | none => none | some j => Option.bind (strSlc s i j) fun x => k (.str x) st) = some y := q2
      split at q3
      · cases q3
      · rename_i j hj
        obtain ⟨z, p1, p2⟩ := Option.bind_eq_some_iff.1 q3
        unfold strSlc at p1
        split at p1
        · rename_i hh
          cases p1
          have ha2 : ev E px = .str s := ha.trans (str_inv hv)
          simp only [opP, ha2]
          exact ⟨h1, hmx, i.toNat, j.toNat, bnd_ok H (d := 0) hi0 hh.1, bnd_ok H hj (by omega), by omega, by omega, H.done p2 (TV.str _) rfl⟩
        · cases p1
  · rename_i w _ _ e h1
    obtain ⟨q1, q2⟩ := bif_some hk
    have hsz : 0 < (g.T e).sz := by simpa using q1
    generalize hX : mxOf hi mx = X at q2
    unfold sliceS at q2
    split at q2
    · cases q2
    rename_i i hi0
    split at q2
    · cases q2
    rename_i hX2
    have hmS : X.isSome = mx.isSome := by subst hX; cases mx <;> rfl
    have hmh : ∀ m, mx = some m → sameX hi (some m) = true := fun m hm => by
      subst hm
      subst hX
      cases hq : sameX hi (some m) with
      | true => rfl
      | false => exact absurd (by simp [mxOf, hq]) hX2
    have mxO : ∀ {j : Int} {d : Int}, optI (hi.map (evS cx st)) d = some j → 0 ≤ j → (mx.map (ev E) = none ∨ ((mx.map (ev E)).isSome = true ∧ ∀ d, bnd (mx.map (ev E)) d j.toNat)) := fun {j d} hj h0 => by
      cases mx with
      | none => exact .inl rfl
      | some m =>
        refine .inr ⟨rfl, fun d' => ?_⟩
        obtain ⟨x, rfl, hx⟩ := sameX_ok (hmh m rfl)
        have hb : bnd ((some x).map (ev E)) d' j.toNat := by
          have h2 : optI ((some x).map (evS cx st)) (d' : Int) = optI ((some x).map (evS cx st)) d := by
            simp only [Option.map_some]
            cases evS cx st x <;> rfl
          exact bnd_ok H (h2.trans hj) h0
        rcases hx with rfl | ⟨k1, k2, rfl, rfl⟩
        · exact hb
        · exact hb
    have hmi : mx.isSome = true → hi.isSome = true := fun hm => by
      cases mx with
      | none => cases hm
      | some m =>
        obtain ⟨x, rfl, hx⟩ := sameX_ok (hmh m rfl)
        rfl
    have fin : ∀ {t : PT} {xs : List t.den} {ys : List t.den} {j : Int}, HdOk t.w xs.length a → Nat.beq (g.T e).sz t.w = true → optI (hi.map (evS cx st)) (xs.length : Int) = some j → slcI xs i j = some ys → Done B cx Es E y k (pieceA a i.toNat j.toNat X.isSome) h n →
        opP g.T (.slice tt px lo hi mx) (ev E) h n (Done B cx Es E y k) := fun {t xs ys j} hd hb hj hs hD => by
      obtain ⟨m1, m2, m3, m4, m5⟩ := slcI_some hs
      have main : ∃ e, (g.T tt).ty = .slice e ∧ 0 < (g.T e).sz ∧ (mx.isSome = true → hi.isSome = true) ∧ sliceP (g.T e).sz a (lo.map (ev E)) (hi.map (ev E)) (mx.map (ev E)) (fun r => Done B cx Es E y k r h n) := by
        refine ⟨e, h1, hsz, hmi, sliceP_of (len := xs.length) (i := i.toNat) (j := j.toNat) (by rw [Nat.eq_of_beq_eq_true hb]; exact hd) (bnd_ok H (d := 0) hi0 m1) (bnd_ok H hj (by omega)) (mxO hj (by omega)) (by omega) (by omega) ?_⟩
        rw [Option.isSome_map, ← hmS]
        exact hD
      simp only [opP, ha]
      cases a with
      | nils => exact main
      | ro => exact main
      | sl => exact main
      | _ => exact hd.elim
    have opt : ∀ {β : Type} {o : Option Int} {f : Int → Option β} {r : β}, (match o with | none => none | some j => f j) = some r → ∃ j, o = some j ∧ f j = some r := fun {β o f r} hq => by
      cases o with
      | none => cases hq
      | some j => exact ⟨j, rfl, hq⟩
    have nots : ∀ {b : Bool} {β : Type} {A : Option β} {r : β}, (bif !b then none else A) = some r → b = true ∧ A = some r := fun {b β A r} hq => by
      cases b with
      | true => exact ⟨rfl, hq⟩
      | false => cases hq
    simp only at q2
    cases hv with
    | pl _ _ hv =>
      cases w with
      | rd ex t xs =>
        obtain ⟨j, hj, q3⟩ := opt q2
        obtain ⟨hb, q4⟩ := nots q3
        obtain ⟨ys, hs, q5⟩ := Option.bind_eq_some_iff.1 q4
        exact fin hv.hd hb hj hs (H.done q5 (.pl _ _ (hv.pieceX hs)) rfl)
      | nil =>
        cases hv
        obtain ⟨j, hj, q3⟩ := opt q2
        split at q3
        · rename_i h0
          obtain ⟨rfl, rfl⟩ := h0
          simp only [opP, ha]
          exact ⟨e, h1, hsz, hmi, bnd_ok H (d := 0) hi0 (by omega), bnd_ok H (d := 0) hj (by omega), by
            rcases mxO hj (by omega) with hq | hq
            · rw [hq]; rfl
            · exact hq.2 0, H.done q3 (.pl _ _ .nil) rfl⟩
        · cases q3
      | str s =>
        have q3 : (bif X.isSome || !Nat.beq (g.T e).sz 0 then none else _) = some y := q2
        have : (X.isSome || !Nat.beq (g.T e).sz 0) = true := by
          have : Nat.beq (g.T e).sz 0 = false := by cases hq : (g.T e).sz with | zero => omega | succ m => rfl
          rw [this]; simp
        rw [this] at q3; cases q3
      | _ => first | cases q2 | cases hv
    | vw ex m t xs a ho hv =>
      obtain ⟨j, hj, q3⟩ := opt q2
      obtain ⟨hb, q4⟩ := nots q3
      simp only [Bool.and_eq_true] at hb
      obtain ⟨ys, hs, q5⟩ := Option.bind_eq_some_iff.1 q4
      have hm := Nat.eq_of_beq_eq_true hb.2
      exact fin (hv hm).hd hb.1 hj hs (H.done q5 (.vw _ _ _ _ _ (pieceA_one ho) fun hm => (hv hm).pieceX hs) hl)
    | row r v a ho hv =>
      simp only at q2
      split at q2
      case h_2 => cases q2
      rename_i v' w' s md t xs hr
      obtain ⟨hb, q3⟩ := bif_some q2
      simp only [Bool.and_eq_true] at hb
      obtain rfl := Nat.eq_of_beq_eq_true hb.1
      obtain ⟨j, hj, q4⟩ := opt q3
      obtain ⟨ys, hs, q5⟩ := Option.bind_eq_some_iff.1 q4
      obtain rfl := hv _ _ _ _ _ _ hr
      have hro : RowOk L h r md none t xs := H.th _ _ hr
      have hlo := H.lowT _ _ hr
      obtain ⟨m1, m2, m3, m4, m5⟩ := slcI_some hs
      refine fin hro.hd hb.2 hj hs (H.done q5 (.sub _ _ _ _ _ _ _ _ _ (pieceA_one ho) fun w2 s2 md2 hl2 t2 xs2 hr2 => ?_) ?_)
      · have := hr.symm.trans hr2
        cases this
        exact ⟨⟨m1, m2, m3⟩, rfl, fun _ => ⟨ys, hs, rfl⟩⟩
      · simp only [SV.lowN, Bool.and_eq_true, Nat.blt_eq] at hl ⊢
        exact ⟨hl, hlo.2.2.2.1⟩
    | sub r v s a0 b0 ex t ys a ho hv =>
      simp only at q2
      split at q2
      case h_2 => cases q2
      rename_i v' w' s' md t' xs hr
      obtain ⟨hb, q3⟩ := bif_some q2
      simp only [Bool.and_eq_true] at hb
      obtain rfl := Nat.eq_of_beq_eq_true hb.1.1.1
      have hss := Nat.eq_of_beq_eq_true hb.1.1.2
      obtain ⟨j, hj, q4⟩ := opt q3
      obtain ⟨zs, hs, q5⟩ := Option.bind_eq_some_iff.1 q4
      obtain ⟨k1, rfl, k3⟩ := hv _ _ _ _ _ _ hr
      obtain ⟨ys', k4, k5⟩ := k3 hss
      cases k5
      have hro : RowOk L h r md none t xs := H.th _ _ hr
      obtain ⟨m1, m2, m3, m4, m5⟩ := slcI_some hs
      obtain ⟨n1, n2, n3, n4, n5⟩ := slcI_some k4
      have hd : HdOk t.w ys.length (pieceA (L.A r) a0.toNat b0.toNat ex) := by rw [n5]; exact hro.hd.piece (by omega) (by omega)
      refine fin hd hb.1.2 hj hs (H.done q5 (.sub _ _ _ _ _ _ _ _ _ (pieceA_one ho) fun w2 s2 md2 hl2 t2 xs2 hr2 => ?_) hl)
      have := hr.symm.trans hr2
      cases this
      refine ⟨⟨by omega, by omega, by omega⟩, ?_, fun _ => ⟨zs, ?_, rfl⟩⟩
      · rw [piece_piece hro.hd (by omega) (by omega) (by omega) (by omega) hb.2]
        congr 1 <;> omega
      · unfold slcI
        rw [if_pos (by omega)]
        congr 1
        rw [m4, n4, List.drop_take, List.take_take, List.drop_drop]
        congr 1
        · omega
        · congr 1; omega
    | nst r v w u s i' off t ys a ho hv =>
      simp only at q2
      split at q2
      case h_2 => cases q2
      rename_i v' w' s' md t' xs hr
      obtain ⟨hb, q3⟩ := bif_some q2
      simp only [Bool.and_eq_true] at hb
      obtain rfl := Nat.eq_of_beq_eq_true hb.1.1.1.1.1
      obtain rfl := Nat.eq_of_beq_eq_true hb.1.1.1.1.2
      have hss := Nat.eq_of_beq_eq_true hb.1.1.1.2
      obtain ⟨j, hj, q4⟩ := opt q3
      obtain ⟨zs, hs, q5⟩ := Option.bind_eq_some_iff.1 q4
      obtain ⟨k1, k2, k3, k4, k5, k6⟩ := hv _ _ _ _ _ hr
      obtain ⟨x0, p1, p2⟩ := k6 hss
      have hro : RowOk L h r md none t' xs := H.th _ _ hr
      have rd := H.readR (nested_ok H.fh hr hro hb.1.1.2 (atI_some p1).2.1 p2 k5)
      obtain ⟨m1, m2, m3, m4, m5⟩ := slcI_some hs
      have hxf : X.isSome = false := by simpa using hb.2
      refine fin rd.hd hb.1.2 hj hs (H.done q5 (.nsub _ _ _ _ _ _ _ _ _ _ _ _ (pieceA_one ho) fun s2 md2 hl2 t2 xs2 hr2 => ?_) hl)
      have := hr.symm.trans hr2
      cases this
      exact ⟨k1, k2, k3, k4, ⟨a, k5, by rw [hxf]⟩, m1, m2, fun _ => ⟨x0, t, ys, zs, p1, p2, hs, rfl⟩⟩
    | _ => cases q2
  · cases hk
end
end Go.Proofs.Ytcngfjmfgeckmaa
namespace Go.Proofs.Ytcngfjmfgeckmaa
open Go
section
variable {B : Bas} {cx : Cx} {st : St} {L : Lay} {Es : List Env} {E : Env} {h : Heap} {n : Nat} {g : Pg} {α : Type} {y : α}
theorem splK_ok : ∀ {cs : List SV} {i : Nat} {bs : List SV} {k : List SV → Option α}, splK cs i bs k = some y → k (cs.take i ++ bs ++ cs.drop (i + bs.length)) = some y ∧ i + bs.length ≤ cs.length
  | cs, 0, [], k, hk => by
    have hk' : k cs = some y := by cases cs <;> exact hk
    exact ⟨by simpa using hk', by simp⟩
  | [], 0, _ :: _, k, hk => by cases hk
  | c :: l, 0, b :: bs, k, hk => by
    have hk' : splK l 0 bs (fun l' => k (b :: l')) = some y := by cases c <;> first | exact hk | cases hk
    obtain ⟨h1, h2⟩ := splK_ok hk'
    have e : 0 + (b :: bs).length = bs.length + 1 := by simp
    exact ⟨by rw [e]; simpa using h1, by simpa using h2⟩
  | a :: l, i + 1, bs, k, hk => by
    have hk' : splK l i bs (fun l' => k (a :: l')) = some y := by cases bs <;> cases a <;> exact hk
    obtain ⟨h1, h2⟩ := splK_ok hk'
    have e : i + 1 + bs.length = (i + bs.length) + 1 := by omega
    exact ⟨by rw [e]; simpa using h1, by rw [e]; simpa using h2⟩
  | [], i + 1, bs, k, hk => by cases bs <;> cases hk
theorem lowNs_append {m : Nat} : ∀ {vs ws : List SV}, SV.lowNs m vs = true → SV.lowNs m ws = true → SV.lowNs m (vs ++ ws) = true
  | [], _, _, h2 => h2
  | v :: vs, ws, h1, h2 => by
    simp only [SV.lowNs, Bool.and_eq_true] at h1
    simp [SV.lowNs, h1.1, lowNs_append h1.2 h2]
theorem lowN_cells {m : Nat} {v : SV} (hl : v.lowN m = true) : SV.lowNs m v.cells = true := by
  cases v <;> first | exact hl | (simp only [SV.cells, SV.lowNs, Bool.and_true]; exact hl)
theorem buildS_ok (gk : POk g) (H : Gam B cx st L Es E h n) {fs : List (Nat × TypeId)} (hf : fs.all (fun p => decide (0 < (g.T p.2).sz)) = true) :
    ∀ {parts : List (Nat × Operand)} {cs : List SV} {asl : List AV} {k : List SV → Option α} {K : List AV → Prop}, TVs L (rootOf cx st) st.mc h cs asl → SV.lowNs st.nx cs = true → buildS g cx st fs parts cs k = some y →
      (∀ cs asl, k cs = some y → TVs L (rootOf cx st) st.mc h cs asl → SV.lowNs st.nx cs = true → K asl) → buildP g.T fs asl (ev E) parts K
  | [], cs, asl, k, K, hc, hl, hk, hK => hK _ _ hk hc hl
  | (i, x) :: rest, cs, asl, k, K, hc, hl, hk, hK => by
    simp only [buildS] at hk
    split at hk
    · rename_i p hp
      obtain ⟨q1, q2⟩ := bif_some hk
      simp only [Bool.and_eq_true] at q1
      obtain ⟨q3, q4⟩ := splK_ok q2
      obtain ⟨hx, hg⟩ := (H.ev x).1.cells q1.2
      have hw := Nat.eq_of_beq_eq_true q1.1
      have hpos : 0 < (g.T p.2).sz := by
        have := List.all_eq_true.1 hf p (List.mem_of_getElem? hp)
        simpa using this
      rw [hw] at q3 q4
      refine ⟨p, hp, by rw [hx.len, hw], hpos, by rw [hc.len]; exact q4, hg, ?_⟩
      refine buildS_ok gk H hf (((hc.take p.1).append hx).append (hc.drop _)) ?_ q3 hK
      exact lowNs_append (lowNs_append (lowNs_take _ hl) (lowN_cells (H.ev x).2)) (lowNs_drop _ hl)
    · cases hk
theorem buildOp_ok (gk : POk g) (H : Gam B cx st L Es E h n) {t : TypeId} {parts : Array (Nat × Operand)} {k : SV → St → Option α} (hk : opS g cx st (.build t parts) k = some y) : opP g.T (.build t parts) (ev E) h n (Done B cx Es E y k) := by
  simp only [opS] at hk
  split at hk
  · rename_i fs hfs
    obtain ⟨p1, p2⟩ := gk.pos _ _ hfs
    exact ⟨fs, hfs, p1, p2, buildS_ok gk H p2 (TVs.svsOf _) (svsOf_low _ _) hk fun cs asl h1 h2 h3 => H.done h1 (.agg _ _ h2) h3⟩
  · cases hk
end
end Go.Proofs.Ytcngfjmfgeckmaa
namespace Go.Proofs.Ytcngfjmfgeckmaa
open Go
section
variable {α β : Type}
theorem lkp_cons (a : Nat) (b : α) (l : List (Nat × α)) (x : Nat) : lkp ((a, b) :: l) x = if x = a then some b else lkp l x := by
  simp only [lkp]
  cases h : a.beq x with
  | true => rw [if_pos (Nat.eq_of_beq_eq_true h).symm]; rfl
  | false => rw [if_neg (by rintro rfl; rw [Nat.beq_refl] at h; cases h)]; rfl
theorem lkp_none : ∀ {l : List (Nat × α)} {x : Nat}, x ∉ l.map Prod.fst → lkp l x = none
  | [], _, _ => rfl
  | (a, b) :: l, x, h => by
    simp only [List.map_cons, List.mem_cons, not_or] at h
    rw [lkp_cons, if_neg h.1]; exact lkp_none h.2
theorem lkp_mem : ∀ {l : List (Nat × α)} {x : Nat} {b : α}, lkp l x = some b → (x, b) ∈ l
  | (a, b) :: l, x, c, h => by
    rw [lkp_cons] at h
    split at h
    · rename_i hx; cases h; subst hx; simp
    · exact List.mem_cons_of_mem _ (lkp_mem h)
theorem fst_lkp : ∀ {l : List (Nat × α)} {x : Nat}, x ∈ l.map Prod.fst → ∃ b, lkp l x = some b
  | (a, b) :: l, x, h => by
    by_cases hq : x = a
    · subst hq; exact ⟨b, by simp [lkp]⟩
    · simp only [List.map_cons, List.mem_cons] at h
      obtain ⟨c, hc⟩ := fst_lkp (h.resolve_left hq)
      refine ⟨c, ?_⟩
      rw [← hc]
      simp only [lkp]
      cases hb : a.beq x with
      | true => exact absurd (Nat.eq_of_beq_eq_true hb).symm hq
      | false => rfl
theorem lkp_fst {l : List (Nat × α)} {x : Nat} {b : α} (h : lkp l x = some b) : x ∈ l.map Prod.fst := List.mem_map.2 ⟨_, lkp_mem h, rfl⟩
theorem updK_ok : ∀ {l : List (Nat × α)} {x : Nat} {y : α} {k : List (Nat × α) → Option β} {z : β}, updK l x y k = some z →
    ∃ l', k l' = some z ∧ (∃ o, lkp l x = some o) ∧ l'.map Prod.fst = l.map Prod.fst ∧ ∀ r, lkp l' r = if r = x then some y else lkp l r
  | [], _, _, _, _, h => by cases h
  | (a, b) :: l, x, y, k, z, h => by
    simp only [updK] at h
    cases hx : a.beq x with
    | true =>
      rw [hx] at h
      obtain rfl := Nat.eq_of_beq_eq_true hx
      exact ⟨_, h, ⟨b, by rw [lkp_cons, if_pos rfl]⟩, rfl, fun r => by rw [lkp_cons, lkp_cons]; split <;> rfl⟩
    | false =>
      rw [hx] at h
      have hne : a ≠ x := by rintro rfl; rw [Nat.beq_refl] at hx; cases hx
      obtain ⟨l', h1, ⟨o, h2⟩, h3, h4⟩ := updK_ok (k := fun l' => k ((a, b) :: l')) h
      refine ⟨_, h1, ⟨o, by rw [lkp_cons, if_neg hne.symm]; exact h2⟩, by simp [h3], fun r => ?_⟩
      rw [lkp_cons, lkp_cons, h4]
      by_cases hr : r = a
      · subst hr; rw [if_pos rfl, if_neg hne, if_pos rfl]
      · rw [if_neg hr, if_neg hr]
theorem delK_ok : ∀ {l : List (Nat × α)} {x : Nat} {k : List (Nat × α) → Option β} {z : β}, delK l x k = some z → (l.map Prod.fst).Nodup →
    ∃ l', k l' = some z ∧ (∃ o, lkp l x = some o) ∧ (∀ a, a ∈ l'.map Prod.fst → a ∈ l.map Prod.fst) ∧ (l'.map Prod.fst).Nodup ∧ ∀ r, lkp l' r = if r = x then none else lkp l r
  | [], _, _, _, h, _ => by cases h
  | (a, b) :: l, x, k, z, h, hn => by
    simp only [delK] at h
    simp only [List.map_cons, List.nodup_cons] at hn
    cases hx : a.beq x with
    | true =>
      rw [hx] at h
      obtain rfl := Nat.eq_of_beq_eq_true hx
      refine ⟨_, h, ⟨b, by rw [lkp_cons, if_pos rfl]⟩, fun c hc => by simp at hc ⊢; exact .inr hc, hn.2, fun r => ?_⟩
      rw [lkp_cons]
      split
      · rename_i hr; subst hr; exact lkp_none hn.1
      · rfl
    | false =>
      rw [hx] at h
      have hne : a ≠ x := by rintro rfl; rw [Nat.beq_refl] at hx; cases hx
      obtain ⟨l', h1, ⟨o, h2⟩, h3, h4, h5⟩ := delK_ok (k := fun l' => k ((a, b) :: l')) h hn.2
      refine ⟨_, h1, ⟨o, by rw [lkp_cons, if_neg hne.symm]; exact h2⟩, fun c hc => ?_, ?_, fun r => ?_⟩
      · simp only [List.map_cons, List.mem_cons] at hc ⊢
        exact hc.imp id (h3 c)
      · simp only [List.map_cons, List.nodup_cons]
        exact ⟨fun hq => hn.1 (h3 _ hq), h4⟩
      · rw [lkp_cons, lkp_cons, h5]
        by_cases hr : r = a
        · subst hr; rw [if_pos rfl, if_neg hne, if_pos rfl]
        · rw [if_neg hr, if_neg hr]
end
def jnR : Option Root → Option Root → Option Root
  | some (.cell cs), some (.cell cs0) => some (.cell (ovl cs cs0))
  | some ρ, _ => some ρ
  | none, o => o
theorem rootOf_jn (cx : Cx) (st : St) (r : Nat) : rootOf cx st r = jnR (lkp st.roots r) (lkp cx.roots0 r) := by
  unfold rootOf
  cases lkp st.roots r with
  | none => cases lkp cx.roots0 r <;> rfl
  | some ρ =>
    cases ρ with
    | row => cases lkp cx.roots0 r <;> rfl
    | cell cs => cases h : lkp cx.roots0 r with
      | none => rfl
      | some ρ0 => cases ρ0 <;> rfl
def Root.isC : Root → Bool
  | .cell _ => true
  | .row .. => false
section
variable {B : Bas} {cx : Cx} {st st' : St} {L L' : Lay} {Es : List Env} {E : Env} {h h' : Heap} {n n' : Nat}
theorem RowOk.idIn {r : Nat} {md : Md} {hl : Option (Nat × Nat)} {t : PT} {xs : List t.den} (hr : RowOk L h r md hl t xs) {w id o ln lo : Nat} {ex : Bool} (hA : L.A r = .sl w id o ln lo ex) : L.ft r id ∨ ∃ b, L.F id = some b := by
  cases hl with
  | some uo =>
    obtain ⟨u, o'⟩ := uo
    cases md with
    | own =>
      obtain ⟨id', off, lo', ex', b, J, h1, h2, h3, h4, h5, h6, h7, h8, h9, h10⟩ := hr
      rw [hA] at h1
      cases h1
      exact .inl ((h10 id).2 (.inl rfl))
    | flat => exact hr.elim
    | fz => exact hr.elim
  | none =>
    cases md with
    | own =>
      have hr' : OS L.F h (.rd false t xs) (L.A r) (L.ft r) := hr
      generalize L.A r = A at hr' hA
      cases hr' with
      | rdn => cases hA
      | emp => cases hA
      | sl _ _ _ _ _ _ _ b I J hb hle hlo hc hid hI => cases hA; exact .inl ((hI _).2 (.inl rfl))
    | flat =>
      rcases hr with ⟨h1, _⟩ | ⟨h1, _⟩ | ⟨id', off, lo', ex', b, h1, hb, _, _, _, hI⟩
      · rw [hA] at h1; cases h1
      · rw [hA] at h1; cases h1
      · rw [hA] at h1; cases h1; exact .inl ((hI _).2 rfl)
    | fz =>
      have h1 := hr.1
      generalize L.A r = A at h1 hA
      cases h1 with
      | rdn => cases hA
      | ro => cases hA
      | sl _ _ _ _ _ _ _ b hb => cases hA; exact .inr ⟨b, hb⟩
structure Stp (cx : Cx) (st st' : St) (L L' : Lay) (h h' : Heap) (n n' : Nat) (X : Nat → Prop) : Prop where
  nx : st.nx ≤ st'.nx
  nn : n ≤ n'
  env : st'.env = st.env
  F : L.F.Sub L'.F
  Fh : L'.F.Sub h'
  Fnew : ∀ i b, L'.F i = some b → L.F i = some b ∨ n ≤ i ∨ ∃ q ρ, X q ∧ rootOf cx st q = some ρ ∧ L.ft q i ∧ ρ.isC = false
  fr : ∀ i, i < n → h' i = h i ∨ ∃ q ρ, X q ∧ rootOf cx st q = some ρ ∧ L.ft q i
  lt : ∀ i b, h' i = some b → i < n'
  old : ∀ r, ¬ X r → rootOf cx st' r = rootOf cx st r ∧ L'.A r = L.A r ∧ L'.C r = L.C r ∧ L'.ft r = L.ft r
  U : ∀ u, u < st.nx → L'.U u = L.U u
  row : ∀ r v w s md hl t xs, X r → rootOf cx st' r = some (.row v w s md hl t xs) → r < st.nx → v < st.nx → ∃ w0 s0 md0 hl0 xs0, rootOf cx st r = some (.row v w0 s0 md0 hl0 t xs0) ∧ L'.A r = L.A r ∧ xs.length = xs0.length ∧ (s < st.nx → s0 = s ∧ xs0 = xs) ∧
    (w < st.nx → w0 = w ∧ ∀ i o a, i < xs.length → listAt t o → cellAt h (L.A r) i o = some a → cellAt h' (L.A r) i o = some a)
  cell : ∀ c cs, X c → rootOf cx st' c = some (.cell cs) → c < st.nx → ∃ cs0, rootOf cx st c = some (.cell cs0) ∧ cs.length = cs0.length ∧ L'.C c = L.C c
  low : ∀ r ρ, X r → rootOf cx st' r = some ρ → r < st'.nx ∧ ρ.lowN st'.nx
  ft : ∀ r ρ i, X r → rootOf cx st' r = some ρ → L'.ft r i → L'.F i = none ∧ i < n' ∧ (n ≤ i ∨ ∃ q ρq, X q ∧ rootOf cx st q = some ρq ∧ L.ft q i ∧ ρq.isC = ρ.isC)
  ap : ∀ r r' ρ ρ' i, X r → X r' → rootOf cx st' r = some ρ → rootOf cx st' r' = some ρ' → L'.ft r i → L'.ft r' i → r = r'
  nd : (st'.roots.map Prod.fst).Nodup
  xk : ∀ r, X r → (∃ x, lkp st.roots r = some x) ∨ st.nx ≤ r
  key : ∀ r x, lkp st'.roots r = some x → (∃ x', lkp st.roots r = some x') ∨ st.nx ≤ r
  lkc : ∀ r ρ ρ0, lkp st'.roots r = some ρ → lkp cx.roots0 r = some ρ0 → ∃ cs cs0, ρ = .cell cs ∧ ρ0 = .cell cs0 ∧ cs.length = cs0.length
variable {X : Nat → Prop}
theorem Gam.hlt' (H : Gam B cx st L Es E h n) {i : Nat} (hi : n ≤ i) : h i = none := by
  cases hh : h i with
  | none => rfl
  | some b => exact absurd (H.hlt i b hh) (by omega)
theorem Stp.keep (H : Gam B cx st L Es E h n) (S : Stp cx st st' L L' h h' n n' X) {r : Nat} {ρ : Root} (hr : rootOf cx st r = some ρ) (hX : ¬ X r) {i : Nat} (hi : L.ft r i) : h' i = h i := by
  obtain ⟨_, _, h3, _⟩ := H.ftF r ρ i hr hi
  rcases S.fr i h3 with h1 | ⟨q, ρq, k1, k2, k3⟩
  · exact h1
  · obtain rfl := H.ap r q ρ ρq i hr k2 hi k3
    exact absurd k1 hX
theorem Stp.tr (H : Gam B cx st L Es E h n) (S : Stp cx st st' L L' h h' n n' X) (hR : st'.mc < st.nx → st'.mc = st.mc ∧ L.R.Sub L'.R) : Tr st.nx L L' (rootOf cx st) (rootOf cx st') st.mc st'.mc h h' where
  F := S.F
  R := hR
  U := S.U
  row := fun r v w s md hl t xs hr h1 h2 => by
    by_cases hX : X r
    · exact S.row r v w s md hl t xs hX hr h1 h2
    · obtain ⟨k1, k2, _, _⟩ := S.old r hX
      rw [k1] at hr
      refine ⟨w, s, md, hl, xs, hr, k2, rfl, fun _ => ⟨rfl, rfl⟩, fun _ => ⟨rfl, fun i o a _ _ hc => ?_⟩⟩
      generalize hA : L.A r = A at hc
      cases A with
      | sl w' id off ln lo ex =>
        have : h' id = h id := by
          rcases RowOk.idIn (H.th r _ hr) hA with hq | ⟨b, hq⟩
          · exact S.keep H hr hX hq
          · rw [H.fh _ _ hq, S.Fh _ _ (S.F _ _ hq)]
        simp only [cellAt] at hc ⊢
        rw [this]; exact hc
      | _ => exact hc
  cell := fun c cs hr h1 => by
    by_cases hX : X c
    · exact S.cell c cs hX hr h1
    · obtain ⟨k1, _, k3, _⟩ := S.old c hX
      rw [k1] at hr
      exact ⟨cs, hr, rfl, k3⟩
theorem HoleOk.keep {F F' : Heap} {t : PT} {xs : List t.den} {A : AV} {I : Ids0} {i : Int} {o : Nat} (hs : F.Sub F') (hk : HoleOk F h t xs A I i o) (hh : ∀ i, I i → h' i = h i) : HoleOk F' h' t xs A I i o := by
  obtain ⟨id, off, lo, ex, b, J, h1, h2, h3, h4, h5, h6, h7, h8, h9, h10⟩ := hk
  exact ⟨id, off, lo, ex, b, J, h1, (hh id ((h10 id).2 (.inl rfl))).trans h2, h3, h4, h5, h6, h7, h8.keep hs fun j o i hi => hh i ((h10 i).2 (.inr ⟨j, o, hi⟩)), h9, h10⟩
theorem FlatOk.keep {F F' : Heap} {t : PT} {xs : List t.den} {A : AV} {I : Ids0} (hs : F.Sub F') (hk : FlatOk F h t xs A I) (hh : ∀ i, I i → h' i = h i) : FlatOk F' h' t xs A I := by
  rcases hk with h1 | h1 | ⟨id, off, lo, ex, b, h1, h2, h3, h4, h5, h6⟩
  · exact .inl h1
  · exact .inr (.inl h1)
  · exact .inr (.inr ⟨id, off, lo, ex, b, h1, (hh id ((h6 id).2 rfl)).trans h2, h3, h4, h5.mono hs, h6⟩)
theorem ThOk.keep {ρ ρ' : Rt} {nx mc mc' : Nat} (T : Tr nx L L' ρ ρ' mc mc' h h') {r : Nat} {th : Root} (hA : L'.A r = L.A r) (hC : L'.C r = L.C r) (hf : L'.ft r = L.ft r) (hk : ∀ i, L.ft r i → h' i = h i) (hl : th.lowN nx) (ht : ThOk L ρ mc h r th) : ThOk L' ρ' mc' h' r th := by
  cases th with
  | cell cs =>
    obtain ⟨e, q1, q2, q3, q4, q5, q6⟩ := ht
    refine ⟨e, ?_, q2, q3, q4, q5.tr T hl, by rw [hf, hC]; exact q6⟩
    rw [hC, hk _ ((q6 _).2 rfl)]; exact q1
  | row v w s md hl' t xs =>
    cases hl' with
    | none =>
      cases md with
      | own => show OS _ _ _ (L'.A r) (L'.ft r); rw [hA, hf]; exact OS.keep T.F ht hk
      | flat => show FlatOk _ _ _ _ (L'.A r) (L'.ft r); rw [hA, hf]; exact FlatOk.keep T.F ht hk
      | fz => exact ⟨by rw [hA]; exact ht.1.mono T.F, by rw [hf]; exact ht.2⟩
    | some uo =>
      obtain ⟨u, o⟩ := uo
      cases md with
      | own =>
        show HoleOk _ _ _ _ (L'.A r) (L'.ft r) (L'.U u) o
        rw [hA, hf, T.U u (hl.2.2.2 u o rfl)]
        exact HoleOk.keep T.F ht hk
      | flat => exact ht.elim
      | fz => exact ht.elim
theorem Gam.step (H : Gam B cx st L Es E h n) (S : Stp cx st st' L L' h h' n n' X) (hmc : st'.mc < st'.nx) (R1 : L'.F.Sub L'.R) (R2 : L'.R.Sub h')
    (R3 : ∀ r v w s md hl t xs i, rootOf cx st' r = some (.row v w s md hl t xs) → L'.ft r i → L'.R i = h' i) (R4 : ∀ r cs i, rootOf cx st' r = some (.cell cs) → L'.ft r i → L'.R i = none) (R5 : st'.mc < st.nx → st'.mc = st.mc ∧ L.R.Sub L'.R)
    (th : ∀ r ρ, X r → rootOf cx st' r = some ρ → ThOk L' (rootOf cx st') st'.mc h' r ρ) :
    Gam B cx st' L' Es E h' n' ∧ ∀ v a, TV L (rootOf cx st) st.mc h v a → v.lowN st.nx = true → TV L' (rootOf cx st') st'.mc h' v a ∧ v.lowN st'.nx = true := by
  have T := S.tr H R5
  have tv : ∀ v a, TV L (rootOf cx st) st.mc h v a → v.lowN st.nx = true → TV L' (rootOf cx st') st'.mc h' v a ∧ v.lowN st'.nx = true := fun v a hv hl => ⟨hv.tr T hl, lowN_mono S.nx v hl⟩
  have from_ : ∀ r ρ, ¬ X r → rootOf cx st' r = some ρ → rootOf cx st r = some ρ := fun r ρ hX hr => by rw [← (S.old r hX).1]; exact hr
  have ofX : ∀ r ρ i, X r → rootOf cx st' r = some ρ → L'.ft r i → n ≤ i ∨ ∃ q ρq, X q ∧ rootOf cx st q = some ρq ∧ L.ft q i := fun r ρ i hX hr hi => by
    rcases (S.ft r ρ i hX hr hi).2.2 with k | ⟨q, ρq, k1, k2, k3, _⟩
    · exact .inl k
    · exact .inr ⟨q, ρq, k1, k2, k3⟩
  have mix : ∀ r r' ρ ρ' i, ¬ X r → X r' → rootOf cx st' r = some ρ → rootOf cx st' r' = some ρ' → L'.ft r i → L'.ft r' i → False := fun r r' ρ ρ' i h1 h2 h3 h4 h5 h6 => by
    have h3' := from_ r ρ h1 h3
    rw [(S.old r h1).2.2.2] at h5
    rcases ofX r' ρ' i h2 h4 h6 with k | ⟨q, ρq, k1, k2, k3⟩
    · exact absurd (H.ftF r ρ i h3' h5).2.2.1 (by omega)
    · obtain rfl := H.ap r q ρ ρq i h3' k2 h5 k3
      exact h1 k1
  refine ⟨⟨fun i b hb => S.F _ _ (H.f0 i b hb), S.Fh, fun i b hb => ?_, R1, R2, fun i b hb => ?_, S.lt, Nat.le_trans H.nn S.nn, fun r ρ hr => ?_, fun r ρ hr => ?_, fun r r' ρ ρ' i h1 h2 h3 h4 => ?_, fun r ρ i hr hi => ?_, R3, R4, fun t v hv => ?_, fun t v hv => ?_, fun j fr E' h1 h2 t v hv => ?_, fun t v hv => by rw [S.env]; exact H.dj t v hv, H.frl, hmc, S.nd, fun r hr => H.lkd r (hr.elim (fun ⟨x, hx⟩ => S.key r x hx) fun hq => .inr (Nat.le_trans S.nx hq)), S.lkc⟩, tv⟩
  · have hi := H.gh i b hb
    rcases S.fr i (H.hlt i b hi) with h1 | ⟨q, ρ, k1, k2, k3⟩
    · rw [h1]; exact hi
    · have := (H.ftF q ρ i k2 k3).2.2.2.1 (H.lkd q (S.xk q k1))
      rw [this] at hb; cases hb
  · rcases S.Fnew i b hb with h1 | h1 | ⟨q, ρ, k1, k2, k3, _⟩
    · exact H.fnew i b h1
    · refine ⟨.inr (Nat.le_trans H.nn h1), fun hH => B.HG i hH ?_⟩
      cases hg : B.G i with
      | none => rfl
      | some c => exact absurd (H.hlt i c (H.gh i c hg)) (by omega)
    · exact ⟨.inr (H.ftF q ρ i k2 k3).2.1, fun hH => B.HG i hH ((H.ftF q ρ i k2 k3).2.2.2.1 (H.lkd q (S.xk q k1)))⟩
  · by_cases hX : X r
    · exact th r ρ hX hr
    · have hr' := from_ r ρ hX hr
      obtain ⟨_, k2, k3, k4⟩ := S.old r hX
      exact ThOk.keep T k2 k3 k4 (fun i hi => S.keep H hr' hX hi) (H.lowT r ρ hr').2 (H.th r ρ hr')
  · by_cases hX : X r
    · exact S.low r ρ hX hr
    · have := H.lowT r ρ (from_ r ρ hX hr)
      exact ⟨Nat.lt_of_lt_of_le this.1 S.nx, Root.low_mono S.nx this.2⟩
  · by_cases hX : X r
    · by_cases hX' : X r'
      · exact S.ap r r' ρ ρ' i hX hX' h1 h2 h3 h4
      · exact (mix r' r ρ' ρ i hX' hX h2 h1 h4 h3).elim
    · by_cases hX' : X r'
      · exact (mix r r' ρ ρ' i hX hX' h1 h2 h3 h4).elim
      · rw [(S.old r hX).2.2.2] at h3
        rw [(S.old r' hX').2.2.2] at h4
        exact H.ap r r' ρ ρ' i (from_ _ _ hX h1) (from_ _ _ hX' h2) h3 h4
  · by_cases hX : X r
    · obtain ⟨k1, k2, _⟩ := S.ft r ρ i hX hr hi
      rcases ofX r ρ i hX hr hi with k | ⟨q, ρq, m1, m2, m3⟩
      · refine ⟨k1, Nat.le_trans H.nn k, k2, fun _ => ?_, fun hq => absurd hq (H.lkd r (S.xk r hX))⟩
        cases hg : B.G i with
        | none => rfl
        | some b => exact absurd (H.hlt i b (H.gh i b hg)) (by omega)
      · have := H.ftF q ρq i m2 m3
        exact ⟨k1, this.2.1, k2, fun _ => this.2.2.2.1 (H.lkd q (S.xk q m1)), fun hq => absurd hq (H.lkd r (S.xk r hX))⟩
    · have hr' := from_ r ρ hX hr
      rw [(S.old r hX).2.2.2] at hi
      have := H.ftF r ρ i hr' hi
      refine ⟨?_, this.2.1, Nat.lt_of_lt_of_le this.2.2.1 S.nn, this.2.2.2.1, fun hq => ⟨(this.2.2.2.2 hq).1, (this.2.2.2.2 hq).2.trans (S.keep H hr' hX hi).symm⟩⟩
      cases hf : L'.F i with
      | none => rfl
      | some b =>
        exfalso
        rcases S.Fnew i b hf with h1 | h1 | ⟨q, ρq, m1, m2, m3, _⟩
        · rw [this.1] at h1; cases h1
        · omega
        · obtain rfl := H.ap r q ρ ρq i hr' m2 hi m3
          exact hX m1
  · rw [S.env] at hv
    exact tv v _ (H.env t v hv).1 (H.env t v hv).2
  · exact tv v _ (H.env0 t v hv).1 (H.env0 t v hv).2
  · exact tv v _ (H.frs j fr E' h1 h2 t v hv).1 (H.frs j fr E' h1 h2 t v hv).2
open Classical in
noncomputable def newR (rt : Rt) (ft : Nat → Nat → Prop) (h : Heap) : Heap := fun i => if ∃ r cs, rt r = some (.cell cs) ∧ ft r i then none else h i
open Classical in
noncomputable def keepRR (R : Heap) (n : Nat) (rt : Rt) (ft : Nat → Nat → Prop) (h : Heap) : Heap := fun i => if i < n then R i else newR rt ft h i
theorem Stp.ftF' (H : Gam B cx st L Es E h n) (S : Stp cx st st' L L' h h' n n' X) {r : Nat} {ρ : Root} {i : Nat} (hr : rootOf cx st' r = some ρ) (hi : L'.ft r i) : L'.F i = none := by
  by_cases hX : X r
  · exact (S.ft r ρ i hX hr hi).1
  · rw [(S.old r hX).1] at hr
    rw [(S.old r hX).2.2.2] at hi
    have := H.ftF r ρ i hr hi
    cases hf : L'.F i with
    | none => rfl
    | some b =>
      exfalso
      rcases S.Fnew i b hf with h1 | h1 | ⟨q, ρq, m1, m2, m3, _⟩
      · rw [this.1] at h1; cases h1
      · omega
      · obtain rfl := H.ap r q ρ ρq i hr m2 hi m3
        exact hX m1
theorem Stp.ap' (H : Gam B cx st L Es E h n) (S : Stp cx st st' L L' h h' n n' X) {r r' : Nat} {ρ ρ' : Root} {i : Nat} (h1 : rootOf cx st' r = some ρ) (h2 : rootOf cx st' r' = some ρ') (h3 : L'.ft r i) (h4 : L'.ft r' i) : r = r' := by
  have mix : ∀ r r' ρ ρ', ¬ X r → X r' → rootOf cx st' r = some ρ → rootOf cx st' r' = some ρ' → L'.ft r i → L'.ft r' i → False := fun r r' ρ ρ' h1 h2 h3 h4 h5 h6 => by
    rw [(S.old r h1).1] at h3
    rw [(S.old r h1).2.2.2] at h5
    rcases (S.ft r' ρ' i h2 h4 h6).2.2 with k | ⟨q, ρq, k1, k2, k3, _⟩
    · exact absurd (H.ftF r ρ i h3 h5).2.2.1 (by omega)
    · obtain rfl := H.ap r q ρ ρq i h3 k2 h5 k3
      exact h1 k1
  by_cases hX : X r
  · by_cases hX' : X r'
    · exact S.ap r r' ρ ρ' i hX hX' h1 h2 h3 h4
    · exact (mix r' r ρ' ρ hX' hX h2 h1 h4 h3).elim
  · by_cases hX' : X r'
    · exact (mix r r' ρ ρ' hX hX' h1 h2 h3 h4).elim
    · rw [(S.old r hX).1] at h1
      rw [(S.old r' hX').1] at h2
      rw [(S.old r hX).2.2.2] at h3
      rw [(S.old r' hX').2.2.2] at h4
      exact H.ap r r' ρ ρ' i h1 h2 h3 h4
theorem Gam.stepW (H : Gam B cx st L Es E h n) (S : Stp cx st st' L L' h h' n n' X) (hmc : st'.mc < st'.nx) (hm : st.nx ≤ st'.mc)
    (th : ∀ R, let L2 : Lay := { L' with R := R }; Tr st.nx L L2 (rootOf cx st) (rootOf cx st') st.mc st'.mc h h' → ∀ r ρ, X r → rootOf cx st' r = some ρ → ThOk L2 (rootOf cx st') st'.mc h' r ρ) :
    ∃ R, let L2 : Lay := { L' with R := R }; Gam B cx st' L2 Es E h' n' ∧ ∀ v a, TV L (rootOf cx st) st.mc h v a → v.lowN st.nx = true → TV L2 (rootOf cx st') st'.mc h' v a ∧ v.lowN st'.nx = true := by
  refine ⟨newR (rootOf cx st') L'.ft h', ?_⟩
  have S2 : Stp cx st st' L { L' with R := newR (rootOf cx st') L'.ft h' } h h' n n' X := ⟨S.nx, S.nn, S.env, S.F, S.Fh, S.Fnew, S.fr, S.lt, S.old, S.U, S.row, S.cell, S.low, S.ft, S.ap, S.nd, S.xk, S.key, S.lkc⟩
  have R5 : st'.mc < st.nx → st'.mc = st.mc ∧ L.R.Sub (newR (rootOf cx st') L'.ft h') := fun hq => absurd hq (by omega)
  refine H.step S2 hmc (fun i b hb => ?_) (fun i b hb => ?_) (fun r v w s md hl t xs i hr hi => ?_) (fun r cs i hr hi => ?_) R5 (th _ (S2.tr H R5))
  · show newR _ _ _ _ = _
    unfold newR
    rw [if_neg]
    · exact S.Fh i b hb
    · rintro ⟨r, cs, k1, k2⟩
      have := S.ftF' H k1 k2
      rw [this] at hb; cases hb
  · have hb' : newR (rootOf cx st') L'.ft h' i = some b := hb
    unfold newR at hb'
    split at hb'
    · cases hb'
    · exact hb'
  · show newR _ _ _ _ = _
    unfold newR
    rw [if_neg]
    rintro ⟨r', cs, k1, k2⟩
    obtain rfl := S.ap' H hr k1 hi k2
    rw [hr] at k1; cases k1
  · show newR _ _ _ _ = _
    unfold newR
    rw [if_pos ⟨r, cs, hr, hi⟩]
theorem Gam.stepKR (H : Gam B cx st L Es E h n) (S : Stp cx st st' L L' h h' n n' X) (hmc : st'.mc < st'.nx) (hm : st'.mc = st.mc)
    (hw : ∀ i, i < n → h' i = h i ∨ ∃ q cs, rootOf cx st q = some (.cell cs) ∧ L.ft q i)
    (th : ∀ R, let L2 : Lay := { L' with R := R }; Tr st.nx L L2 (rootOf cx st) (rootOf cx st') st.mc st'.mc h h' → ∀ r ρ, X r → rootOf cx st' r = some ρ → ThOk L2 (rootOf cx st') st'.mc h' r ρ) :
    ∃ R, L.R.Sub R ∧ let L2 : Lay := { L' with R := R }; Gam B cx st' L2 Es E h' n' ∧ ∀ v a, TV L (rootOf cx st) st.mc h v a → v.lowN st.nx = true → TV L2 (rootOf cx st') st'.mc h' v a ∧ v.lowN st'.nx = true := by
  refine ⟨keepRR L.R n (rootOf cx st') L'.ft h', ?_, ?_⟩
  · exact fun i b hb => by unfold keepRR; rw [if_pos (H.hlt i b (H.rh i b hb))]; exact hb
  have S2 : Stp cx st st' L { L' with R := keepRR L.R n (rootOf cx st') L'.ft h' } h h' n n' X := ⟨S.nx, S.nn, S.env, S.F, S.Fh, S.Fnew, S.fr, S.lt, S.old, S.U, S.row, S.cell, S.low, S.ft, S.ap, S.nd, S.xk, S.key, S.lkc⟩
  have lo : ∀ {i}, i < n → keepRR L.R n (rootOf cx st') L'.ft h' i = L.R i := fun hi => by unfold keepRR; rw [if_pos hi]
  have hi' : ∀ {i}, ¬ i < n → keepRR L.R n (rootOf cx st') L'.ft h' i = newR (rootOf cx st') L'.ft h' i := fun hi => by unfold keepRR; rw [if_neg hi]
  have R5 : st'.mc < st.nx → st'.mc = st.mc ∧ L.R.Sub (keepRR L.R n (rootOf cx st') L'.ft h') := fun _ => ⟨hm, fun i b hb => by rw [lo (H.hlt i b (H.rh i b hb))]; exact hb⟩
  have rowh : ∀ {q : Nat} {ρ : Root} {i : Nat}, rootOf cx st q = some ρ → L.ft q i → ρ.isC = false → L.R i = h' i ∧ i < n := fun {q ρ i} k1 k2 k3 => by
    have hn := (H.ftF q ρ i k1 k2).2.2.1
    cases ρ with
    | cell cs => cases k3
    | row v w s md hl t xs =>
      refine ⟨?_, hn⟩
      rw [H.ftR q v w s md hl t xs i k1 k2]
      rcases hw i hn with h1 | ⟨q', cs, m1, m2⟩
      · exact h1.symm
      · obtain rfl := H.ap q q' _ _ i k1 m1 k2 m2
        rw [k1] at m1; cases m1
  refine H.step S2 hmc (fun i b hb => ?_) (fun i b hb => ?_) (fun r v w s md hl t xs i hr hi => ?_) (fun r cs i hr hi => ?_) R5 (th _ (S2.tr H R5))
  · show keepRR _ _ _ _ _ _ = _
    have hb1 : L'.F i = some b := hb
    by_cases hin : i < n
    · rw [lo hin]
      rcases S.Fnew i b hb with h1 | h1 | ⟨q, ρq, m1, m2, m3, m4⟩
      · exact H.fr i b h1
      · omega
      · rw [(rowh m2 m3 m4).1]; exact S.Fh i b hb
    · rw [hi' hin]
      unfold newR
      rw [if_neg]
      · exact S.Fh i b hb
      · rintro ⟨r, cs, k1, k2⟩
        have := S.ftF' H k1 k2
        rw [this] at hb1; cases hb1
  · have hb' : keepRR L.R n (rootOf cx st') L'.ft h' i = some b := hb
    by_cases hin : i < n
    · rw [lo hin] at hb'
      rcases hw i hin with h1 | ⟨q, cs, m1, m2⟩
      · rw [h1]; exact H.rh i b hb'
      · rw [H.ftC q cs i m1 m2] at hb'; cases hb'
    · rw [hi' hin] at hb'
      unfold newR at hb'
      split at hb'
      · cases hb'
      · exact hb'
  · show keepRR _ _ _ _ _ _ = _
    have fin : ¬ i < n → keepRR L.R n (rootOf cx st') L'.ft h' i = h' i := fun hin => by
      rw [hi' hin]
      unfold newR
      rw [if_neg]
      rintro ⟨r', cs, k1, k2⟩
      obtain rfl := S.ap' H hr k1 hi k2
      rw [hr] at k1; cases k1
    by_cases hX : X r
    · rcases (S.ft r _ i hX hr hi).2.2 with k | ⟨q, ρq, m1, m2, m3, m4⟩
      · exact fin (by omega)
      · obtain ⟨q1, q2⟩ := rowh m2 m3 m4
        rw [lo q2]; exact q1
    · have hr2 : rootOf cx st r = some (.row v w s md hl t xs) := by rw [← (S.old r hX).1]; exact hr
      have hi2 : L.ft r i := by rw [← (S.old r hX).2.2.2]; exact hi
      obtain ⟨q1, q2⟩ := rowh hr2 hi2 rfl
      rw [lo q2]; exact q1
  · show keepRR _ _ _ _ _ _ = _
    have fin : ¬ i < n → keepRR L.R n (rootOf cx st') L'.ft h' i = none := fun hin => by
      rw [hi' hin]
      unfold newR
      rw [if_pos ⟨r, cs, hr, hi⟩]
    by_cases hX : X r
    · rcases (S.ft r _ i hX hr hi).2.2 with k | ⟨q, ρq, m1, m2, m3, m4⟩
      · exact fin (by omega)
      · have hn := (H.ftF q ρq i m2 m3).2.2.1
        rw [lo hn]
        cases ρq with
        | cell cs' => exact H.ftC q cs' i m2 m3
        | row => cases m4
    · have hr2 : rootOf cx st r = some (.cell cs) := by rw [← (S.old r hX).1]; exact hr
      have hi2 : L.ft r i := by rw [← (S.old r hX).2.2.2]; exact hi
      rw [lo (H.ftF r _ i hr2 hi2).2.2.1]
      exact H.ftC r cs i hr2 hi2
theorem Gam.stepK (H : Gam B cx st L Es E h n) (S : Stp cx st st' L L' h h' n n' X) (hmc : st'.mc < st'.nx) (hm : st'.mc = st.mc)
    (hw : ∀ i, i < n → h' i = h i ∨ ∃ q cs, rootOf cx st q = some (.cell cs) ∧ L.ft q i)
    (th : ∀ R, let L2 : Lay := { L' with R := R }; Tr st.nx L L2 (rootOf cx st) (rootOf cx st') st.mc st'.mc h h' → ∀ r ρ, X r → rootOf cx st' r = some ρ → ThOk L2 (rootOf cx st') st'.mc h' r ρ) :
    ∃ R, let L2 : Lay := { L' with R := R }; Gam B cx st' L2 Es E h' n' ∧ ∀ v a, TV L (rootOf cx st) st.mc h v a → v.lowN st.nx = true → TV L2 (rootOf cx st') st'.mc h' v a ∧ v.lowN st'.nx = true := by
  obtain ⟨R, _, q⟩ := H.stepKR S hmc hm hw th
  exact ⟨R, q⟩
end
end Go.Proofs.Ytcngfjmfgeckmaa
namespace Go.Proofs.Ytcngfjmfgeckmaa
open Go
section
variable {B : Bas} {cx : Cx} {st : St} {L : Lay} {Es : List Env} {E : Env} {h : Heap} {n : Nat} {g : Pg} {α : Type} {y : α} {k : SV → St → Option α}
theorem Gam.put {env : SEnv} {ρ : Roots} {nx mc : Nat} (H : Gam B cx ⟨env, ρ, nx, mc⟩ L Es E h n) {v : SV} {r : AV} (hv : TV L (rootOf cx ⟨env, ρ, nx, mc⟩) mc h v r) (hl : v.lowN nx = true) {d : Option Tmp} {k : St → Option α} (hk : putS cx ⟨env, ρ, nx, mc⟩ d v k = some y) :
    ∃ st', k st' = some y ∧ Gam B cx st' L Es (E.put d r) h n ∧ st'.roots = ρ ∧ st'.nx = nx ∧ st'.mc = mc := by
  cases d with
  | none => exact ⟨_, hk, H, rfl, rfl, rfl⟩
  | some d =>
    simp only [putS] at hk
    split at hk
    · cases hk
    · rename_i h0
      refine ⟨_, hk, ⟨H.f0, H.fh, H.gh, H.fr, H.rh, H.fnew, H.hlt, H.nn, H.th, H.lowT, H.ap, H.ftF, H.ftR, H.ftC, fun t w hw => ?_, fun t w hw => ?_, H.frs, fun t w hw => ?_, H.frl, H.mcl, H.nd, H.lkd, H.lkc⟩, rfl, rfl, rfl⟩
      · simp only at hw
        rw [lkp_cons] at hw
        simp only [Env.put]
        by_cases ht : t = d
        · subst ht
          rw [if_pos rfl] at hw ⊢
          cases hw; exact ⟨hv, hl⟩
        · rw [if_neg ht] at hw
          rw [if_neg (Ne.symm ht)]
          exact H.env t w hw
      · have ht : d ≠ t := by rintro rfl; rw [h0] at hw; cases hw
        simp only [Env.put]
        rw [if_neg ht]
        exact H.env0 t w hw
      · have ht : t ≠ d := by rintro rfl; rw [h0] at hw; cases hw
        simp only
        rw [lkp_cons, if_neg ht]
        exact H.dj t w hw
theorem Gam.rootHi (H : Gam B cx st L Es E h n) {r : Nat} (hr : st.nx ≤ r) : lkp st.roots r = none ∧ lkp cx.roots0 r = none := by
  have h0 : rootOf cx st r = none := by
    cases hq : rootOf cx st r with
    | none => rfl
    | some ρ => exact absurd (H.lowT r ρ hq).1 (by omega)
  rw [rootOf_jn] at h0
  cases h1 : lkp st.roots r with
  | none => rw [h1] at h0; exact ⟨rfl, h0⟩
  | some ρ => rw [h1] at h0; cases ρ <;> cases h2 : lkp cx.roots0 r <;> rw [h2] at h0 <;> first | cases h0 | (rename_i ρ0; cases ρ0 <;> cases h0)
theorem Gam.cons_nd {env : SEnv} {ρ : Roots} {nx mc : Nat} (H : Gam B cx ⟨env, ρ, nx, mc⟩ L Es E h n) : (nx :: ρ.map Prod.fst).Nodup := by
  refine List.nodup_cons.2 ⟨fun hm => ?_, H.nd⟩
  obtain ⟨⟨a, b⟩, h1, h2⟩ := List.mem_map.1 hm
  simp only at h2
  subst h2
  have := (H.rootHi (Nat.le_refl a)).1
  have key : ∀ {l : Roots} {x : Nat}, x ∈ l.map Prod.fst → ∃ b, lkp l x = some b := by
    intro l x hx
    induction l with
    | nil => cases hx
    | cons p l ih =>
      obtain ⟨a, b⟩ := p
      rw [lkp_cons]
      by_cases hq : x = a
      · rw [if_pos hq]; exact ⟨_, rfl⟩
      · rw [if_neg hq]
        simp only [List.map_cons, List.mem_cons] at hx
        exact ih (hx.resolve_left hq)
  obtain ⟨c, hc⟩ := key hm
  simp only at this
  rw [this] at hc; cases hc
theorem rootOf_cons {env : SEnv} {ρ : Roots} {nx mc nx' mc' : Nat} (H : Gam B cx ⟨env, ρ, nx, mc⟩ L Es E h n) (x : Root) (env' : SEnv) (r : Nat) : rootOf cx ⟨env', (nx, x) :: ρ, nx', mc'⟩ r = if r = nx then some x else rootOf cx ⟨env, ρ, nx, mc⟩ r := by
  rw [rootOf_jn, rootOf_jn]
  simp only
  rw [lkp_cons]
  by_cases hr : r = nx
  · subst hr
    rw [if_pos rfl, if_pos rfl]
    have h0 : lkp cx.roots0 r = none := (H.rootHi (Nat.le_refl _)).2
    rw [h0]
    cases x <;> rfl
  · rw [if_neg hr, if_neg hr]
theorem cons_lkc {env : SEnv} {ρ : Roots} {nx mc : Nat} (H : Gam B cx ⟨env, ρ, nx, mc⟩ L Es E h n) (x : Root) : ∀ r ρ' ρ0, lkp ((nx, x) :: ρ) r = some ρ' → lkp cx.roots0 r = some ρ0 → ∃ cs cs0, ρ' = .cell cs ∧ ρ0 = .cell cs0 ∧ cs.length = cs0.length := fun r ρ' ρ0 h1 h2 => by
  rw [lkp_cons] at h1
  by_cases hr : r = nx
  · subst hr
    have := (H.rootHi (Nat.le_refl r)).2
    rw [this] at h2; cases h2
  · rw [if_neg hr] at h1
    exact H.lkc r ρ' ρ0 h1 h2
theorem low_of_root {env : SEnv} {ρ : Roots} {nx mc : Nat} (H : Gam B cx ⟨env, ρ, nx, mc⟩ L Es E h n) {r : Nat} {x : Root} (hr : rootOf cx ⟨env, ρ, nx, mc⟩ r = some x) : r ≠ nx := fun hq => absurd (H.lowT r x hr).1 (by rw [hq]; exact Nat.lt_irrefl nx)
theorem Gam.addCell {env : SEnv} {ρ : Roots} {nx mc : Nat} (H : Gam B cx ⟨env, ρ, nx, mc⟩ L Es E h n) {e : AV} {cs : List SV} (hg : e.good = true) (ho : ∀ u, u ∈ e.cells → u.one = true) (hp : 0 < cs.length) (hc : TVs L (rootOf cx ⟨env, ρ, nx, mc⟩) mc h cs e.cells) (hl : SV.lowNs nx cs = true) :
    ∃ L', Gam B cx ⟨env, (nx, .cell cs) :: ρ, nx + 1, mc⟩ L' Es E (h.upd n [e]) (n + 1) ∧ L'.C nx = n := by
  have rt := fun r => rootOf_cons (nx' := nx + 1) (mc' := mc) H (.cell cs) env r
  have hn : h n = none := H.hlt' (Nat.le_refl n)
  have hupd : ∀ i, i < n → (h.upd n [e]) i = h i := fun i hi => by unfold Heap.upd; rw [if_neg (by omega)]
  have sub : ∀ i b, h i = some b → (h.upd n [e]) i = some b := fun i b hb => by rw [hupd i (H.hlt i b hb)]; exact hb
  have S : Stp cx ⟨env, ρ, nx, mc⟩ ⟨env, (nx, .cell cs) :: ρ, nx + 1, mc⟩ L { L with C := fun c => if c = nx then n else L.C c, ft := fun r i => if r = nx then i = n else L.ft r i } h (h.upd n [e]) n (n + 1) (fun r => r = nx) := {
    nx := Nat.le_succ _
    nn := Nat.le_succ _
    env := rfl
    F := fun _ _ hb => hb
    Fh := fun i b hb => sub i b (H.fh i b hb)
    Fnew := fun i b hb => .inl hb
    fr := fun i hi => .inl (hupd i hi)
    lt := fun i b hb => by
      by_cases hi : i = n
      · omega
      · unfold Heap.upd at hb; rw [if_neg hi] at hb; exact Nat.lt_succ_of_lt (H.hlt i b hb)
    old := fun r hr => by rw [rt, if_neg hr]; exact ⟨rfl, rfl, if_neg hr, by funext i; exact if_neg hr⟩
    U := fun _ _ => rfl
    row := fun r v w s md hl t xs hr hq => by rw [rt, if_pos hr] at hq; cases hq
    cell := fun c cs hX hq hlt => absurd hlt (by rw [hX]; exact Nat.lt_irrefl nx)
    low := fun r ρ' hX hq => by
      rw [rt, if_pos hX] at hq
      cases hq
      exact ⟨by rw [hX]; exact Nat.lt_succ_self _, lowNs_mono (Nat.le_succ _) _ hl⟩
    ft := fun r ρ' i hX hq hi => by
      have hi' : i = n := by have : (if r = nx then i = n else L.ft r i) := hi; rwa [if_pos hX] at this
      subst hi'
      refine ⟨?_, Nat.lt_succ_self _, .inl (Nat.le_refl _)⟩
      cases hf : L.F i with
      | none => rfl
      | some b => exact absurd (H.hlt _ _ (H.fh _ _ hf)) (Nat.lt_irrefl _)
    ap := fun r r' _ _ _ h1 h2 _ _ _ _ => h1.trans h2.symm
    nd := H.cons_nd
    xk := fun r hX => .inr (by rw [hX]; exact Nat.le_refl _)
    key := fun r x hx => by
      simp only at hx
      rw [lkp_cons] at hx
      split at hx
      · rename_i hr; exact .inr (by rw [hr]; exact Nat.le_refl _)
      · exact .inl ⟨x, hx⟩
    lkc := cons_lkc H _ }
  obtain ⟨R, G, _⟩ := H.stepK S (Nat.lt_succ_of_lt H.mcl) rfl (fun i hi => .inl (hupd i hi)) (fun R T r ρ' hX hq => by
    rw [rt, if_pos hX] at hq
    cases hq
    subst hX
    refine ⟨e, ?_, hg, ho, hp, hc.tr T hl, fun i => ?_⟩
    · show (h.upd n [e]) (if r = r then n else L.C r) = _
      rw [if_pos rfl]; simp [Heap.upd]
    · show (if r = r then i = n else L.ft r i) ↔ i = (if r = r then n else L.C r)
      rw [if_pos rfl, if_pos rfl])
  exact ⟨_, G, if_pos rfl⟩
theorem cp_new {env : SEnv} {ρ : Roots} {nx mc : Nat} {cs : List SV} {L' : Lay} {h' : Heap} (H : Gam B cx ⟨env, ρ, nx, mc⟩ L Es E h n) (hC : L'.C nx = n) : TV L' (rootOf cx ⟨env, (nx, .cell cs) :: ρ, nx + 1, mc⟩) mc h' (.cp nx 0) (.ep cs.length (.sl cs.length n 0 1 1 true) 0 0) :=
  .cp _ _ _ rfl fun cs' hr => by
    rw [rootOf_cons H, if_pos rfl] at hr
    cases hr
    rw [hC]
theorem alloc_ok (gk : POk g) (H : Gam B cx st L Es E h n) {e : TypeId} (hk : opS g cx st (.alloc e) k = some y) : opP g.T (.alloc e) (ev E) h n (Done B cx Es E y k) := by
  obtain ⟨env, ρ, nx, mc⟩ := st
  obtain ⟨q1, q2⟩ := bif_some hk
  rw [Nat.blt_eq] at q1
  obtain ⟨z1, z2, z3⟩ := gk.zero e q1
  have hlen : (svsOf (g.T e).zero.cells).length = (g.T e).sz := by rw [← (TVs.svsOf (L := L) (ρ := rootOf cx ⟨env, ρ, nx, mc⟩) (mc := mc) (h := h) _).len, z2]
  obtain ⟨L', H', hC⟩ := H.addCell (e := (g.T e).zero) (cs := svsOf (g.T e).zero.cells) z1 z3 (by omega) (TVs.svsOf _) (svsOf_low _ _)
  refine ⟨q1, _, _, L', q2, ?_, ?_, H'⟩
  · have := cp_new (cs := svsOf (g.T e).zero.cells) (h' := h.upd n [(g.T e).zero]) H hC
    rw [hlen] at this; exact this
  · simp only [SV.lowN, Nat.blt_eq]; exact Nat.lt_succ_self _
theorem box_ok' (H : Gam B cx st L Es E h n) {e : TypeId} {x : Operand} (hk : opS g cx st (.box e x) k = some y) : opP g.T (.box e x) (ev E) h n (Done B cx Es E y k) := by
  obtain ⟨env, ρ, nx, mc⟩ := st
  simp only [opS] at hk
  obtain ⟨q1, q2⟩ := bif_some hk
  simp only [Bool.and_eq_true, Nat.blt_eq] at q1
  obtain ⟨⟨p1, p2⟩, p3⟩ := q1
  have p2 := Nat.eq_of_beq_eq_true p2
  obtain ⟨hv, hl⟩ := H.ev x
  obtain ⟨hc, hg⟩ := hv.cells p3
  obtain ⟨L', H', hC⟩ := H.addCell hg (hc.one p3) (by omega) hc (lowN_cells hl)
  refine ⟨hg, by rw [hc.len, p2], p1, _, _, L', q2, ?_, ?_, H'⟩
  · have := cp_new (cs := (evS cx ⟨env, ρ, nx, mc⟩ x).cells) (h' := h.upd n [ev E x]) H hC
    rw [p2] at this; exact this
  · simp only [SV.lowN, Nat.blt_eq]; exact Nat.lt_succ_self _
end
end Go.Proofs.Ytcngfjmfgeckmaa
