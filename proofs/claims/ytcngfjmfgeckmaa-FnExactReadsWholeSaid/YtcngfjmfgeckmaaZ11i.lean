import Derived.ProofKit
import Derived.Deep.Slices
import Derived.Test.YtcngfjmfgeckmaaChecked
import Derived.Test.YtcngfjmfgeckmaaZ11h
set_option linter.unusedSimpArgs false
set_option linter.unusedVariables false
set_option linter.unusedSectionVars false
namespace Go.Proofs.Ytcngfjmfgeckmaa
open Go
section
variable {B : Bas} {cx : Cx} {st : St} {L : Lay} {Es : List Env} {E : Env} {h : Heap} {n : Nat} {α : Type} {y : α}
theorem AbsR.fzL {ρ0 : Roots} : ∀ {q : List Src} {ρ : Roots} {D Z : Nat → Prop} {k : Roots → Option α}, AbsR ρ0 ρ D Z → freezeK q ρ k = some y → ∃ ρ' Z', k ρ' = some y ∧ AbsR ρ0 ρ' D Z' ∧ (∀ q, Z q → Z' q) ∧ ∀ r, Src.own r ∈ q → Z' r
  | [], ρ, D, Z, k, R, hk => ⟨ρ, Z, hk, R, fun _ h => h, fun r hr => by cases hr⟩
  | .fr :: q, ρ, D, Z, k, R, hk => by
    obtain ⟨ρ', Z', k1, k2, k3, k4⟩ := AbsR.fzL (q := q) R hk
    exact ⟨ρ', Z', k1, k2, k3, fun r hr => k4 r (by simpa using hr)⟩
  | .live :: q, ρ, D, Z, k, R, hk => by
    obtain ⟨ρ', Z', k1, k2, k3, k4⟩ := AbsR.fzL (q := q) R hk
    exact ⟨ρ', Z', k1, k2, k3, fun r hr => k4 r (by simpa using hr)⟩
  | .own r0 :: q, ρ, D, Z, k, R, hk => by
    simp only [freezeK] at hk
    split at hk
    · rename_i v w s md t xs hq
      obtain ⟨ρ1, u1, u2, u3, u4⟩ := updK_ok hk
      have R1 := R.fzOne hq u3 u4
      obtain ⟨ρ', Z', k1, k2, k3, k4⟩ := AbsR.fzL (q := q) R1 u1
      refine ⟨ρ', Z', k1, k2, fun q hq => k3 q (.inl hq), fun r hr => ?_⟩
      rcases List.mem_cons.1 hr with hr | hr
      · exact k3 r (.inr (by cases hr; rfl))
      · exact k4 r hr
    · cases hk
theorem val_cells {ρ : Rt} {mc : Nat} {t : PT} {v : SV} {a : AV} (hx : Bool.xor t.scal v.isAgg = true) (hv : TV L ρ mc h v a) : ∃ cs, IsVal t a cs ∧ TVs L ρ mc h v.cells cs := by
  rcases xor_agg hx with ⟨h1, h2⟩ | ⟨h1, cs, rfl⟩
  · rw [h2]; exact ⟨[a], .inl ⟨h1, rfl⟩, .cons _ _ _ _ hv .nil⟩
  · obtain ⟨asl, rfl, hc⟩ := agg_inv hv
    exact ⟨asl, .inr ⟨h1, rfl⟩, hc⟩
def Out1 (st : St) (L : Lay) (h : Heap) (y : α) (b : Bool) (t : PT) (a : AV) (D0 Z0 : Nat → Prop) (k : t.den → Roots → Option α) : Prop :=
  ∃ x ρ' D Z I, k x ρ' = some y ∧ AbsR st.roots ρ' D Z ∧ (∀ q, D0 q → D q) ∧ (∀ q, Z0 q → Z q) ∧ (∀ i, I i → ∃ q, D q ∧ ¬ D0 q ∧ L.ft q i) ∧
    ∀ F, L.F.Sub F → (∀ q i b, Z q → L.ft q i → h i = some b → F i = some b) → Res1 F h b t x a I
theorem out1_ok (H : Gam B cx st L Es E h n) (h0 : cx.roots0 = []) {b : Bool} {t : PT} {v : SV} {a : AV} {ρ : Roots} {D0 Z0 : Nat → Prop} {k : t.den → Roots → Option α} (hv : TV L (rootOf cx st) st.mc h v a) (R : AbsR st.roots ρ D0 Z0) (hk : out1 cx st b t v ρ k = some y) : Out1 st L h y b t a D0 Z0 k := by
  obtain ⟨env, ρ0, nx, mc⟩ := st
  simp only [out1] at hk
  obtain ⟨k1, k2⟩ := bif_some hk
  obtain ⟨cs, c1, c2⟩ := val_cells k1 hv
  cases b with
  | true =>
    simp only at k2
    have hno : lkp ρ0 nx = none := (H.rootHi (Nat.le_refl _)).1
    obtain ⟨own1, new, ρ1, D1, Z1, J1, p1, p2, p3, p4, p5, p6, p7, p8, p9⟩ := absorb_ok H (r := nx) (u := nx) (own0 := true) (JK := fun _ _ => False) (fun o v w s t' xs x t ys a _ hq => by rw [hno] at hq; cases hq) (fun v w s md t' xs _ hq => by rw [hno] at hq; cases hq) t.flat k2 (fun _ => rfl) R c2
    obtain ⟨p1, p1'⟩ := bif_some p1
    split at p1'
    · rename_i x hx
      have hle := implode_le hx
      have hal : cs.length = new.length := by rw [c2.len, p4]
      obtain ⟨v1, v2⟩ := AbsV.vec (JK := fun _ _ => False) (o0 := 0) hle hal p7 (fun j i hj => by rw [p4]; exact (p8 j i hj).1) (p9 (.inl fun _ _ hq => hq))
      refine ⟨x, ρ1, D1, Z1, fun i => ∃ o, J1 o i, p1', p2, p5, p6.1, fun i ⟨o, hi⟩ => ?_, fun F f1 f2 => ⟨cs, c1, fun _ => OC.anyF (v1 p1).oc, fun hq => by cases hq⟩⟩
      rcases (p8 o i hi).2 with q | q
      · exact q
      · exact q.elim
    · cases p1'
  | false =>
    simp only at k2
    obtain ⟨q, ws, q1, q2, q3, q4⟩ := plainK_ok H c2 k2
    simp only at q1
    obtain ⟨m1, m2⟩ := bif_some q1
    obtain ⟨ρ', Z', n1, n2, n3, n4⟩ := R.fzL m2
    split at n1
    · rename_i x hx
      refine ⟨x, ρ', D0, Z', fun _ => False, n1, n2, fun _ hq => hq, n3, fun _ hq => hq.elim, fun F f1 f2 => ⟨cs, c1, fun hq => (by cases hq), fun _ => ⟨FzC.le (implode_le hx) (FzC.of (by rw [q2, c2.len]) fun o w a r1 r2 => ?_), fun _ hq => hq⟩⟩⟩
      rcases q3 o w a r1 r2 with ⟨s1, s2⟩ | ⟨c, s1, s2⟩
      · exact s1.mono f1
      · cases c with
        | fr => exact Fz.mono f1 s2
        | live => exact absurd s1 (noLive_mem m1)
        | own r => exact s2.2 F f1 fun i b hi hb => f2 r i b (n4 r s1) hi hb
    · cases n1
theorem outK_ok (H : Gam B cx st L Es E h n) (h0 : cx.roots0 = []) : ∀ {rs : List (Bool × PT)} {vs : List SV} {asl : List AV} {ρ : Roots} {D0 Z0 : Nat → Prop} {k : tupT (rs.map Prod.snd) → Option α}, TVs L (rootOf cx st) st.mc h vs asl → AbsR st.roots ρ D0 Z0 → outK cx st rs vs ρ k = some y →
    ∃ x ρ' D Z I, k x = some y ∧ AbsR st.roots ρ' D Z ∧ (∀ q, D0 q → D q) ∧ (∀ q, Z0 q → Z q) ∧ (∀ i, I i → ∃ q, D q ∧ ¬ D0 q ∧ L.ft q i) ∧
      ∀ F, L.F.Sub F → (∀ q i b, Z q → L.ft q i → h i = some b → F i = some b) → ResA F h rs x asl I
  | [], [], _, ρ, D0, Z0, k, .nil, R, hk => ⟨(), ρ, D0, Z0, fun _ => False, hk, R, fun _ h => h, fun _ h => h, fun _ hq => hq.elim, fun F _ _ => ⟨rfl, fun _ hq => hq⟩⟩
  | [], _ :: _, _, ρ, D0, Z0, k, _, R, hk => by cases hk
  | [(b, t)], [], _, ρ, D0, Z0, k, _, R, hk => by cases hk
  | [(b, t)], [v], _, ρ, D0, Z0, k, .cons _ _ a _ hv .nil, R, hk => by
    obtain ⟨x, ρ', D, Z, I, q1, q2, q3, q4, q5, q6⟩ := out1_ok H h0 hv R hk
    exact ⟨x, ρ', D, Z, I, q1, q2, q3, q4, q5, fun F f1 f2 => ⟨a, rfl, q6 F f1 f2⟩⟩
  | [(b, t)], _ :: _ :: _, _, ρ, D0, Z0, k, _, R, hk => by cases hk
  | (b, t) :: r :: rs, [], _, ρ, D0, Z0, k, _, R, hk => by cases hk
  | (b, t) :: r :: rs, v :: vs, _, ρ, D0, Z0, k, .cons _ _ a asl hv hl, R, hk => by
    simp only [outK] at hk
    obtain ⟨x, ρ1, D1, Z1, J, q1, q2, q3, q4, q5, q6⟩ := out1_ok H h0 hv R hk
    obtain ⟨z, ρ2, D2, Z2, K, r1, r2, r3, r4, r5, r6⟩ := outK_ok H h0 hl q2 q1
    refine ⟨(x, z), ρ2, D2, Z2, fun i => J i ∨ K i, r1, r2, fun q hq => r3 q (q3 q hq), fun q hq => r4 q (q4 q hq), fun i hi => ?_, fun F f1 f2 => ⟨a, asl, J, K, rfl, q6 F f1 fun q i b hq => f2 q i b (r4 q hq), r6 F f1 f2, fun i hj hk => ?_, fun i => Iff.rfl⟩⟩
    · rcases hi with hi | hi
      · obtain ⟨q, m1, m2, m3⟩ := q5 i hi
        exact ⟨q, r3 q m1, m2, m3⟩
      · obtain ⟨q, m1, m2, m3⟩ := r5 i hi
        exact ⟨q, m1, fun hq => m2 (q3 q hq), m3⟩
    · obtain ⟨q, m1, m2, m3⟩ := q5 i hj
      obtain ⟨q', n1, n2, n3⟩ := r5 i hk
      obtain ⟨_, _, _, _, _, _, _, e1⟩ := r2.del q (r3 q m1)
      obtain ⟨_, _, _, _, _, _, _, e2⟩ := r2.del q' n1
      have root : ∀ {p : Nat} {v w s : Nat} {md : Md} {t : PT} {xs : List t.den}, lkp st.roots p = some (.row v w s md none t xs) → rootOf cx st p = some (.row v w s md none t xs) := fun hq => by
        rw [rootOf_jn, h0]; simp only [hq]; rfl
      obtain rfl := H.ap q q' _ _ i (root e1) (root e2) m3 n3
      exact n2 m1
end
section
variable {h h' F : Heap}
theorem ResA.keep : ∀ {rs : List (Bool × PT)} {x : tupT (rs.map Prod.snd)} {asl : List AV} {I : Ids0}, ResA F h rs x asl I → (∀ i, I i → h' i = h i) → ResA F h' rs x asl I
  | [], _, _, _, hA, _ => hA
  | [r], x, asl, I, ⟨a, e, cs, c1, c2, c3⟩, hk => ⟨a, e, cs, c1, fun hq => OC.keep (fun _ _ hb => hb) (c2 hq) hk, c3⟩
  | r :: r2 :: rs, x, asl, I, ⟨a, as', J, K, e, ⟨cs, c1, c2, c3⟩, hA, hd, hI⟩, hk => ⟨a, as', J, K, e, ⟨cs, c1, fun hq => OC.keep (fun _ _ hb => hb) (c2 hq) fun i hi => hk i ((hI i).2 (.inl hi)), c3⟩, ResA.keep hA fun i hi => hk i ((hI i).2 (.inr hi)), hd, hI⟩
end
section
variable {R h : Heap} {n : Nat} {g : Pg}
theorem parsS_len : ∀ {ps : List PK} {x : tupT (ps.map PK.t)} {asl : List AV}, ParsOk R ps x asl → asl.length = ps.length
  | [], _, _, h => by rw [show _ = [] from h]; rfl
  | [p], _, _, ⟨a, e, _⟩ => by rw [e]; rfl
  | p :: q :: ps, _, _, ⟨a, as', e, _, hA⟩ => by rw [e, List.length_cons, parsS_len hA]; rfl
def lay0 (R : Heap) : Lay := ⟨R, R, fun _ => .undef, fun _ => 0, fun _ => 0, fun _ _ => False⟩
theorem parS_ok {rt : Rt} {mc : Nat} {p : PK} {x : p.t.den} {a : AV} (hp : ParOk R p x a) (nx : Nat) : TV (lay0 R) rt mc h (parS p x) a ∧ (parS p x).lowN nx = true := by
  cases p with
  | val t =>
    obtain ⟨cs, c1, c2⟩ := hp
    exact oneS_ok c1 (TVs.ofFz (L := lay0 R) c2) (explode_low t x nx)
  | ptr t => exact ⟨.pr _ _ _ hp, explode_low t x nx⟩
theorem parsS_ok {rt : Rt} {mc : Nat} (nx : Nat) : ∀ {ps : List PK} {x : tupT (ps.map PK.t)} {asl : List AV}, ParsOk R ps x asl → TVs (lay0 R) rt mc h (parsS ps x) asl ∧ SV.lowNs nx (parsS ps x) = true
  | [], _, _, hA => by rw [show _ = [] from hA]; exact ⟨.nil, rfl⟩
  | [p], _, _, ⟨a, e, hp⟩ => by
    subst e
    obtain ⟨q1, q2⟩ := parS_ok (rt := rt) (mc := mc) (h := h) hp nx
    exact ⟨.cons _ _ _ _ q1 .nil, by simp only [parsS, SV.lowNs, Bool.and_eq_true]; exact ⟨q2, trivial⟩⟩
  | p :: q :: ps, _, _, ⟨a, as', e, hp, hA⟩ => by
    subst e
    obtain ⟨q1, q2⟩ := parS_ok (rt := rt) (mc := mc) (h := h) hp nx
    obtain ⟨r1, r2⟩ := parsS_ok (rt := rt) (mc := mc) nx hA
    exact ⟨.cons _ _ _ _ q1 r1, by simp only [parsS, SV.lowNs, Bool.and_eq_true]; exact ⟨q2, r2⟩⟩
theorem gam0 (hlt : ∀ i b, h i = some b → i < n) (hR : R.Sub h) {vs : List SV} {asl : List AV} (hv : TVs (lay0 R) (fun _ => none) 0 h vs asl) (hl : SV.lowNs 1 vs = true) :
    Gam ⟨R, h, n, fun _ => False, fun _ _ => False, fun _ => False, fun _ hq => hq.elim⟩ ⟨[], [], []⟩ ⟨envN 0 vs, [], 1, 0⟩ (lay0 R) [] (envOf asl) h n := by
  have rt : rootOf ⟨[], [], []⟩ ⟨envN 0 vs, [], 1, 0⟩ = fun _ => none := by funext r; rfl
  refine ⟨fun _ _ hb => hb, hR, fun _ _ hb => hb, fun _ _ hb => hb, hR, fun id b hb => ⟨.inl hb, fun hq => hq⟩, hlt, Nat.le_refl _, ?_, ?_, ?_, ?_, ?_, ?_, fun t v hv' => ?_, fun t v hv' => (by cases hv'), fun i fr E' h1 => (by simp at h1), fun t v hv' => (by cases hv'), rfl, Nat.one_pos, List.nodup_nil, fun r _ hq => hq, fun r x x0 h1 => (by cases h1)⟩
  · intro r ρ hr; cases hr
  · intro r ρ hr; cases hr
  · intro r r' ρ ρ' i hr; cases hr
  · intro r ρ i hr; cases hr
  · intro r v w s md hl t xs i hr; cases hr
  · intro r cs i hr; cases hr
  · rw [rt]
    obtain ⟨_, hv1⟩ := lkp_envN vs 0 t hv'
    have hv1 : vs[t]? = some v := by simpa using hv1
    obtain ⟨a, q1, q2⟩ := hv.get t v hv1
    refine ⟨?_, lowNs_get hl hv1⟩
    show TV _ _ _ _ v ((asl[t]?).getD .undef)
    rw [q1]; exact q2
open Classical in
theorem model_ok {P : Program} (hT : TEOk P g.T) (hm : P.follows .mixedOrders = true) (gk : POk g) {call : Callee} (hcall : CallOk P call) {fu : Nat} {f : FuncId} {fn : FnA} (hf : FnOk P f fn) (sg : Sg) (fz : Bool) : ConOk P f ⟨sg, fz, model g call fu fn sg⟩ := by
  refine ⟨hf.1, fun R h n asl x z hlt hR hp hk => ?_⟩
  obtain ⟨hg, F, h1, h2, h3, h4, h5⟩ := hf
  simp only [model] at hk
  obtain ⟨k1, k2⟩ := bif_some hk
  obtain ⟨v1, v2⟩ := parsS_ok (rt := fun _ => none) (mc := 0) (h := h) 1 hp
  have G0 := gam0 hlt hR v1 v2
  refine CA.conv (CA.enter hT hg h1 h2 h3 (by rw [parsS_len hp]; exact Nat.le_of_ble_eq_true k1) h4 fun _ => ?_)
  refine (runOk hT hm gk hcall fn.ann h5 G0 k2).mono fun e E2 h2 n2 ⟨ex, st2, L2, q1, q2, q3⟩ => ?_
  have fin : resS g ⟨[], [], []⟩ st2 fn.rs (fun vs => outK ⟨[], [], []⟩ st2 sg.rs vs st2.roots some) = some z → ∃ l, resA g.T E2 h2 fn.rs = some l ∧ ∃ r3 h3 n3, Conv n h (resV l) h2 n2 r3 h3 n3 ∧ ConPost R h n sg.rs z r3 h3 n3 := fun hq => by
    obtain ⟨vs, l, r1, r2, r3, r4⟩ := resS_ok gk q3 hq
    obtain ⟨x', ρ', D, Z, I, s1, s2, s3, s4, s5, s6⟩ := outK_ok q3 rfl r3 (AbsR.refl q3.nd) r1
    obtain rfl : x' = z := Option.some.inj s1
    have root : ∀ {p : Nat} {v w s : Nat} {md : Md} {t : PT} {xs : List t.den}, lkp st2.roots p = some (.row v w s md none t xs) → rootOf ⟨[], [], []⟩ st2 p = some (.row v w s md none t xs) := fun hq => by
      rw [rootOf_jn]; simp only [hq]; rfl
    have Ift : ∀ i, I i → L2.F i = none ∧ n ≤ i ∧ i < n2 := fun i hi => by
      obtain ⟨q, m1, _, m3⟩ := s5 i hi
      obtain ⟨_, _, _, _, _, _, _, e1⟩ := s2.del q m1
      obtain ⟨t1, t2, t3, _⟩ := q3.ftF q _ i (root e1) m3
      exact ⟨t1, t2, t3⟩
    let F' : Heap := fun i => if i < n then R i else if I i then none else L2.R i
    let h3 : Heap := fun i => if i < n then h i else h2 i
    have f1 : L2.F.Sub F' := fun i b hb => by
      show (if i < n then R i else if I i then none else L2.R i) = some b
      split
      · rcases (q3.fnew i b hb).1 with m | m
        · exact m
        · have : n ≤ i := m; omega
      · rw [if_neg]
        · exact q3.fr i b hb
        · intro hi; rw [(Ift i hi).1] at hb; cases hb
    have f2 : ∀ q i b, Z q → L2.ft q i → h2 i = some b → F' i = some b := fun q i b hz hi hb => by
      obtain ⟨nd, _, _, _, _, _, _, e1, _⟩ := s2.fz q hz
      obtain ⟨t1, t2, t3, _⟩ := q3.ftF q _ i (root e1) hi
      have t2' : n ≤ i := t2
      show (if i < n then R i else if I i then none else L2.R i) = some b
      rw [if_neg (by omega), if_neg]
      · rw [q3.ftR _ _ _ _ _ _ _ _ _ (root e1) hi]; exact hb
      · intro hI
        obtain ⟨q', m1, _, m3⟩ := s5 i hI
        obtain ⟨_, _, _, _, _, _, _, e2⟩ := s2.del q' m1
        obtain rfl := q3.ap q q' _ _ i (root e1) (root e2) hi m3
        exact nd m1
    refine ⟨l, r2, resV l, h3, n2, .keep _ _ _ _ fun i b hb => ?_, F', l, I, rfl, fun i b hb => ?_, fun i b hb => ?_, fun i b hb => ?_, q3.nn, fun i hi => if_pos hi, fun i b hb => ?_, ResA.keep (s6 F' f1 f2) fun i hi => ?_, fun i hi => ?_⟩
    · have hb' : (if i < n then h i else h2 i) = some b := hb
      split at hb'
      · exact q3.gh i b hb'
      · exact hb'
    · show (if i < n then R i else if I i then none else L2.R i) = some b
      rw [if_pos (hlt i b (hR i b hb))]; exact hb
    · have hb' : (if i < n then R i else if I i then none else L2.R i) = some b := hb
      show (if i < n then h i else h2 i) = some b
      split at hb'
      · rename_i hi; rw [if_pos hi]; exact hR i b hb'
      · rename_i hi
        rw [if_neg hi]
        split at hb'
        · cases hb'
        · exact q3.rh i b hb'
    · have hb' : (if i < n then R i else if I i then none else L2.R i) = some b := hb
      split at hb'
      · exact .inl hb'
      · rename_i hi; exact .inr (by omega)
    · have hb' : (if i < n then h i else h2 i) = some b := hb
      split at hb'
      · have := q3.nn
        have : n ≤ n2 := this
        omega
      · exact q3.hlt i b hb'
    · have := (Ift i hi).2.1
      show (if i < n then h i else h2 i) = h2 i
      rw [if_neg (by omega)]
    · obtain ⟨m1, m2, m3⟩ := Ift i hi
      refine ⟨?_, m2, m3⟩
      show (if i < n then R i else if I i then none else L2.R i) = none
      rw [if_neg (by omega), if_pos hi]
  subst q1
  cases ex with
  | normal => exact fin q2
  | ret => exact fin q2
  | exit i => cases q2
end
end Go.Proofs.Ytcngfjmfgeckmaa
namespace Go.Proofs.Ytcngfjmfgeckmaa
open Go
def SpOk (P : Program) (f : FuncId) (sp : Spc) : Prop := ∀ {call : Callee}, CallOk P call → ∀ {α : Type} {B : Bas} {cx : Cx} {st : St} {L : Lay} {Es : List Env} {E : Env} {h : Heap} {n : Nat} {y : α} {k : SV → St → Option α} {args : List SV} {asl : List AV},
  Gam B cx st L Es E h n → TVs L (rootOf cx st) st.mc h args asl → SV.lowNs st.nx args = true → spS cx st call sp args k = some y → CA P f asl h n (Done B cx Es E y k)
structure TbOk (P : Program) (tb : Tb) : Prop where
  cons : ∀ f c, lkF tb.cons f = some c → ConOk P f c
  sps : ∀ f sp, lkF tb.sps f = some sp → SpOk P f sp
  fns : ∀ f ks fn, lkV tb.fns f ks = some fn → FnOk P f fn
theorem callN_ok {P : Program} {g : Pg} (hT : TEOk P g.T) (hm : P.follows .mixedOrders = true) (gk : POk g) {fu : Nat} {tb : Tb} (ht : TbOk P tb) : ∀ d, CallOk P (callN g fu tb d)
  | 0 => by
    intro H ha hl hk
    simp only [callN] at hk
    split at hk
    · rename_i c hc
      exact callCon_ok (ht.cons _ c hc) H ha hl hk
    · cases hk
  | d + 1 => by
    intro H ha hl hk
    simp only [callN] at hk
    split at hk
    · rename_i c hc
      exact callCon_ok (ht.cons _ c hc) H ha hl hk
    · split at hk
      · rename_i sp hs
        exact ht.sps _ sp hs (callN_ok hT hm gk ht d) H ha hl hk
      · split at hk
        · rename_i fn hf
          exact inline_ok hT hm gk (callN_ok hT hm gk ht d) (ht.fns _ _ fn hf) H ha hl hk
        · cases hk
end Go.Proofs.Ytcngfjmfgeckmaa
namespace Go.Proofs.Ytcngfjmfgeckmaa
open Go
def cloneCode (s bt : TypeId) : Code :=
  (Code.region 0 #[{ dst := some 2, op := .assign (.const (.slice none 0 0)), type := s, pos := "slices.go:355", after := #[], guard := none }] false).seq
    (((Code.region 1 #[{ dst := some 3, op := .move (.tmp 0), type := s, pos := "slices.go:357", after := #[], guard := none }, { dst := some 4, op := .binOp .eql s (.tmp 3) (.const (.slice none 0 0)) s, type := bt, pos := "slices.go:357", after := #[{ on := 0, ground := .data }], guard := none }] false).seq
      (Code.cond (.tmp 4) ((Code.region 2 #[{ dst := some 2, op := .assign (.const (.slice none 0 0)), type := s, pos := "slices.go:358", after := #[], guard := none }] false).seq Code.ret) Code.skip)).seq
    ((Code.region 3 #[{ dst := some 5, op := .buildSlice s 0 #[], type := s, pos := "slices.go:362", after := #[], guard := none }, { dst := some 6, op := .move (.tmp 0), type := s, pos := "slices.go:362", after := #[], guard := none },
      { dst := some 7, op := .call { callee := .builtin .append, args := #[.tmp 5, .tmp 6], argTypes := #[s, s] }, type := s, pos := "slices.go:362", after := #[{ on := 0, ground := .data }, { on := 1, ground := .data }], guard := none },
      { dst := some 2, op := .assign (.tmp 7), type := s, pos := "slices.go:362", after := #[{ on := 2, ground := .data }, { on := 2, ground := .chain }, { on := 0, ground := .phase }, { on := 1, ground := .phase }, { on := 2, ground := .phase }], guard := none }] false).seq Code.ret))
section
variable {P : Program} {T : TE} {R h : Heap} {n : Nat}
theorem clonePost {t : PT} {xs : List t.den} {a : AV} {h' : Heap} {n' : Nat} {I : Ids0} (hR : R.Sub h) (hn : n ≤ n') (h1 : ∀ i, i < n → h' i = h i) (h2 : ∀ i b, h' i = some b → i < n') (hlt : ∀ i b, h i = some b → i < n) (hO : OS R h' (.rd false t xs) a I) (hI : ∀ i, I i → n ≤ i ∧ i < n') : ConPost R h n [(true, .list t)] xs a h' n' := by
  refine ⟨R, [a], I, rfl, fun _ _ hb => hb, fun i b hb => ?_, fun i b hb => .inl hb, hn, h1, h2, ⟨a, rfl, [a], .inl ⟨rfl, rfl⟩, fun _ => ?_, fun hq => by cases hq⟩, fun i hi => ⟨?_, hI i hi⟩⟩
  · have := hR i b hb
    rw [h1 i (hlt i b this)]; exact this
  · exact .cons _ _ _ _ _ I (fun _ => False) hO (.nil _ fun _ hq => hq) (fun _ _ hq => hq) fun i => ⟨.inl, fun hq => hq.elim id False.elim⟩
  · cases hr : R i with
    | none => rfl
    | some b => have := hlt i b (hR i b hr); have := (hI i hi).1; omega
theorem clone_ok (hT : TEOk P T) {f : FuncId} {F : Func} {s bt e : TypeId} {t : PT} (hg : Goes P f) (hf : P.funcs[f]? = some F) (hb : F.body = some (cloneCode s bt)) (hN : F.ntmps = 8) (hrs : F.results.toList = [.tmp 2]) (ht : (T s).ty = .slice e) (hw : (T e).sz = t.w) (hfl : t.flat = true) (fu : Nat) :
    ConOk P f ⟨⟨[.val (.list t)], [(true, .list t)]⟩, false, fun x => cloneI (T e).bytes fu x⟩ := by
  refine ⟨hg, fun R h n asl x z hlt hR hp hm => ?_⟩
  obtain ⟨a, rfl, cs, hv, hc⟩ := hp
  rcases hv with ⟨_, rfl⟩ | ⟨hq, _⟩
  rotate_left
  · cases hq
  have hz : Fz R (.rd false t x) a := by cases hc with | cons _ _ _ _ hv _ => exact hv
  have hm : (if roomI (T e).bytes x.length = true then some x else none) = some z := hm
  split at hm
  rotate_left
  · cases hm
  rename_i hroom
  cases hm
  simp only [roomI, Bool.and_eq_true, decide_eq_true_eq] at hroom
  obtain ⟨es, hrd, hes⟩ := hz.rd hR
  have hel := hes.len
  refine CA.enter hT hg hf hb hN (by simp) hrs fun _ => ?_
  have hbl : ∀ Q E h n, E 0 = a → (∀ b, (b = true ↔ a = .nils) → Q (E.put (some 3) a |>.put (some 4) (.bool b)) h n) → opsA P T [{ dst := some 3, op := .move (.tmp 0), type := s, pos := "slices.go:357", after := #[], guard := none }, { dst := some 4, op := .binOp .eql s (.tmp 3) (.const (.slice none 0 0)) s, type := bt, pos := "slices.go:357", after := #[{ on := 0, ground := .data }], guard := none }] [{ dst := some 3, op := .move (.tmp 0), type := s, pos := "slices.go:357", after := #[], guard := none }, { dst := some 4, op := .binOp .eql s (.tmp 3) (.const (.slice none 0 0)) s, type := bt, pos := "slices.go:357", after := #[{ on := 0, ground := .data }], guard := none }] E h n Q := fun Q E h n hE hQ => by
    simp only [opsA, stepA, callA, opP, ev, Env.get, Env.put, ↓reduceIte, ofVal, hE]
    cases hz with
    | rdn => exact ⟨⟨e, ht⟩, hQ true (by simp)⟩
    | ro => exact ⟨⟨e, ht⟩, hQ false (by simp)⟩
    | sl => exact ⟨⟨e, ht⟩, hQ false (by simp)⟩
  refine WP.seq (WP.region hT (by rfl) ?_)
  simp only [opsA, stepA, callA, opP, ev, ofVal]
  refine WP.seq (WP.seq (WP.region hT (by rfl) (hbl _ _ _ _ rfl fun b hb => ?_)))
  refine WP.cond (t := b) rfl (fun hbt => ?_) fun hbf => WP.skip ?_
  · obtain rfl := hb.1 hbt
    have hx : x = [] := List.eq_nil_of_length_eq_zero (by rw [← hel]; simp [rdSl] at hrd; rw [hrd]; rfl)
    subst hx
    refine WP.seq (WP.region hT (by rfl) ?_)
    simp only [opsA, stepA, callA, opP, ev, ofVal]
    refine WP.ret ⟨_, rfl, ?_⟩
    exact clonePost hR (Nat.le_refl n) (fun _ _ => rfl) hlt hlt (.rdn _ _ _ fun _ hq => hq) fun _ hq => hq.elim
  · have hne : a ≠ .nils := fun hq => by rw [hb.2 hq] at hbf; cases hbf
    have hn0 : h n = none := by
      cases hx : h n with
      | none => rfl
      | some b => exact absurd (hlt n b hx) (Nat.lt_irrefl n)
    refine WP.seq (WP.region hT (by rfl) ?_)
    simp only [opsA, stepA, callA, opP, ev, Env.get, Env.put, ↓reduceIte, builtinP]
    have hpos : 0 < (T e).sz := by rw [hw]; exact t.w_pos
    have hup : ∀ {n' : Nat} {b : List AV} {g : Heap}, n ≤ n' → (∀ i, i < n → g i = h i) → ∀ i, i < n → (g.upd n' b) i = h i := fun {n' b g} h1 h2 i hi => by unfold Heap.upd; rw [if_neg (by omega)]; exact h2 i hi
    have hs : h.Sub (h.upd n []) := fun i b hb => by rw [hup (Nat.le_refl n) (fun _ _ => rfl) i (hlt i b hb)]; exact hb
    have lt1 : ∀ i b, (h.upd n []) i = some b → i < n + 1 := fun i b hb => by
      by_cases hi : i = n
      · omega
      · unfold Heap.upd at hb; rw [if_neg hi] at hb; exact Nat.lt_succ_of_lt (hlt i b hb)
    have hrd2 : rdSl (h.upd n []) (T e).sz a = some es := by rw [hw]; exact rdSl_sub hs hrd
    refine ⟨e, ht, hpos, by omega, by rfl, fun p hp => (by cases hp), ⟨rfl, e, ht, es, hrd2, hpos, rfl, by rw [hel]; simpa using hroom.1, by rw [hel]; simpa using hroom.2, [], by simp [Heap.upd], by simp, ?_⟩⟩
    have hes0 : ∀ {F : Heap}, FzL F t x es := (Body.ofFlat (md := .flat) (F := _) (h := h) hfl hes).1
    by_cases h0 : 0 + es.length ≤ 0
    · rw [if_pos h0]
      have he0 : es = [] := List.eq_nil_of_length_eq_zero (by omega)
      have hx : x = [] := List.eq_nil_of_length_eq_zero (by rw [← hel, he0]; rfl)
      subst he0; subst hx
      refine WP.ret ⟨_, rfl, ?_⟩
      have hh : (h.upd n []).upd n (([] : List AV).take (0 + 0) ++ [] ++ ([] : List AV).drop (0 + 0 + ([] : List AV).length)) = h.upd n [] := by
        funext i; unfold Heap.upd; split <;> simp
      show ConPost R h n [(true, .list t)] ([] : List t.den) (.sl (T e).sz n 0 0 0 true) ((h.upd n []).upd n (([] : List AV).take (0 + 0) ++ [] ++ ([] : List AV).drop (0 + 0 + ([] : List AV).length))) (n + 1)
      rw [hh]
      refine clonePost (I := fun i => i = n) hR (Nat.le_succ n) (hup (Nat.le_refl n) fun _ _ => rfl) lt1 hlt ?_ fun i hi => ⟨by rw [hi]; exact Nat.le_refl _, by rw [hi]; exact Nat.lt_succ_self _⟩
      rw [hw]
      exact .sl false t [] n 0 0 true [] _ (fun _ => False) (by simp [Heap.upd]) (by simp) (Nat.le_refl _) (.nil t _ fun _ hq => hq) (fun hq => hq) fun i => ⟨.inl, fun hq => hq.elim id False.elim⟩
    · rw [if_neg h0, if_pos rfl]
      refine WP.ret ⟨_, rfl, ?_⟩
      show ConPost R h n [(true, .list t)] x (.sl (T e).sz (n + 1) 0 (0 + es.length) (0 + es.length) false) ((h.upd n []).upd (n + 1) ((([] : List AV).drop 0).take 0 ++ es)) (n + 1 + 1)
      have hb0 : ((([] : List AV).drop 0).take 0 ++ es) = es := by simp
      rw [hb0, Nat.zero_add]
      refine clonePost (I := fun i => i = n + 1) hR (by omega) (hup (Nat.le_succ n) (hup (Nat.le_refl n) fun _ _ => rfl)) (fun i b hb => ?_) hlt ?_ fun i hi => ⟨by omega, by omega⟩
      · by_cases hi : i = n + 1
        · omega
        · unfold Heap.upd at hb
          rw [if_neg hi] at hb
          exact Nat.lt_succ_of_lt (lt1 i b hb)
      · rw [hw, hel]
        refine .sl false t x (n + 1) 0 x.length false es _ (fun _ => False) (by simp [Heap.upd]) (by omega) (Nat.le_refl _) ?_ (fun hq => hq) fun i => ⟨.inl, fun hq => hq.elim id False.elim⟩
        rw [List.drop_zero, ← hel, List.take_length]
        exact Body.ofFlat (md := .own) hfl hes
end
end Go.Proofs.Ytcngfjmfgeckmaa
namespace Go.Proofs.Ytcngfjmfgeckmaa
open Go Go.ChangeShapes Go.WideShapes Go.ChangeAt Go.RowKit Go.Deep
def startCfg (W : World) : Cfg := ⟨fun _ => none, fun b => b < W.heap.size, W⟩
theorem start_hr (W : World) (hpin : ∀ b cs, pins b = some cs → ∃ E f, W.heap[b]? = some (.cells cs E f) := by intro b cs h; cases h) : HR (startCfg W) Heap.emp := ⟨fun id b hb => (by cases hb), fun i j bi bj x y h1 => (by cases h1), fun b hb => hb, fun b cs hp => by obtain ⟨E, f, q⟩ := hpin b cs hp; exact ⟨(Array.getElem?_eq_some_iff.1 q).1, E, f, q⟩⟩
theorem start_fresh (W : World) : Fresh (startCfg W) 0 := fun _ _ => rfl
theorem below_of_ext {W : World} {c' : Cfg} {h' : Heap} {fr : Nat → Prop} (e : Ext (startCfg W) Heap.emp fr c' h') : Below W.heap.size W c'.w :=
  ⟨e.os, e.tape, e.output, e.size, fun k hk => e.frame k hk fun id blk x hb => (by cases hb)⟩
theorem law_calls {P : Program} {f : FuncId} {us : List AV} {vals : Array Value} {W : World} (hs : vals.size = us.length) (hv : ∀ (i : Nat) (u : AV) (v : Value), us[i]? = some u → vals[i]? = some v → VR (startCfg W) u v)
    (hc : CA P f us Heap.emp 0 (fun r _ _ => r = .bool true)) : Calls P f vals W (fun e w' => e = .returned (.bool true) ∧ Below W.heap.size W w') :=
  Calls.mono (hc.2 (startCfg W) vals (start_hr W) (start_fresh W) hs hv) fun e w' ⟨v, r, h', n', h1, ⟨c', h2, h3, h4, h5, h6, h7⟩, h8⟩ => by
    subst h1 h2 h8
    cases h6
    exact ⟨rfl, below_of_ext h3⟩
theorem rk_inh (k : RK) : Nonempty k.den := by cases k <;> exact ⟨by repeat constructor⟩
theorem pt_inh : (t : PT) → Nonempty t.den
  | .int _ => ⟨(0 : Int)⟩
  | .bool => ⟨false⟩
  | .str => ⟨ByteArray.empty⟩
  | .list _ => ⟨[]⟩
  | .rcd k => rk_inh k
section
variable {c : CK} {cs : List (Option CK)} {svs : List SV}
theorem un_nil (h : svs.map ckOf = []) : svs = [] := List.map_eq_nil_iff.1 h
theorem un_int {k : IntKind} (h : svs.map ckOf = some (.int k) :: cs) : ∃ n r, svs = .int k n :: r ∧ r.map ckOf = cs := by
  cases svs with
  | nil => cases h
  | cons v r =>
    simp only [List.map_cons, List.cons.injEq] at h
    obtain ⟨h1, h2⟩ := h
    cases v <;> first | (simp [ckOf] at h1; done) | (rename_i e _ _; cases e <;> simp [ckOf] at h1; done) | skip
    simp only [ckOf, Option.some.injEq, CK.int.injEq] at h1
    subst h1
    exact ⟨_, r, rfl, h2⟩
theorem un_bool (h : svs.map ckOf = some .bool :: cs) : ∃ b r, svs = .bool b :: r ∧ r.map ckOf = cs := by
  cases svs with
  | nil => cases h
  | cons v r =>
    simp only [List.map_cons, List.cons.injEq] at h
    obtain ⟨h1, h2⟩ := h
    cases v <;> first | (simp [ckOf] at h1; done) | (rename_i e _ _; cases e <;> simp [ckOf] at h1; done) | skip
    exact ⟨_, r, rfl, h2⟩
theorem un_str (h : svs.map ckOf = some .str :: cs) : ∃ b r, svs = .str b :: r ∧ r.map ckOf = cs := by
  cases svs with
  | nil => cases h
  | cons v r =>
    simp only [List.map_cons, List.cons.injEq] at h
    obtain ⟨h1, h2⟩ := h
    cases v <;> first | (simp [ckOf] at h1; done) | (rename_i e _ _; cases e <;> simp [ckOf] at h1; done) | skip
    exact ⟨_, r, rfl, h2⟩
theorem un_list {t : PT} (h : svs.map ckOf = some (.list t) :: cs) : ∃ xs r, svs = .rd false t xs :: r ∧ r.map ckOf = cs := by
  cases svs with
  | nil => cases h
  | cons v r =>
    simp only [List.map_cons, List.cons.injEq] at h
    obtain ⟨h1, h2⟩ := h
    cases v <;> first | (simp [ckOf] at h1; done) | skip
    rename_i e t' xs
    cases e with
    | true => simp [ckOf] at h1
    | false =>
      simp only [ckOf, Option.some.injEq, CK.list.injEq] at h1
      subst h1
      exact ⟨xs, r, rfl, h2⟩
end
theorem castL_self (t : PT) (xs : List t.den) : castL t t xs = some xs := by
  unfold castL
  split
  · rfl
  · rename_i h
    exfalso
    have : ∀ t : PT, PT.eq? t t ≠ none := fun t => by
      induction t with
      | int k => cases k <;> simp [PT.eq?, kindNum]
      | bool => simp [PT.eq?]
      | str => simp [PT.eq?]
      | list t ih =>
        unfold PT.eq?
        cases h : PT.eq? t t with
        | none => exact absurd h ih
        | some p => intro hq; cases hq
      | rcd k => cases k <;> simp [PT.eq?, RK.num]
    exact this t h
theorem implodeR_tot (k : RK) (x0 : k.den) {svs : List SV} (h : svs.map ckOf = (explodeR k x0).map ckOf) : ∃ x, implodeR k svs = some x := by
  cases k <;> simp only [explodeR, List.map_cons, List.map_nil, ckOf] at h
  all_goals
    repeat first
      | (have h1 := un_nil h; clear h; subst h1)
      | (have h1 := un_int h; clear h; obtain ⟨_, _, rfl, h⟩ := h1)
      | (have h1 := un_bool h; clear h; obtain ⟨_, _, rfl, h⟩ := h1)
      | (have h1 := un_str h; clear h; obtain ⟨_, _, rfl, h⟩ := h1)
      | (have h1 := un_list h; clear h; obtain ⟨_, _, rfl, h⟩ := h1)
  all_goals
    simp only [implodeR, tI, tB, tS, tL, tE, castL_self, kindNum, Nat.beq_refl, cond_true]
    exact ⟨_, rfl⟩
theorem implode_tot (t : PT) {svs : List SV} {ks : List CK} (h0 : ∀ x : t.den, (explode t x).map ckOf = ks.map some) (h : svs.map ckOf = ks.map some) : ∃ x, implode t svs = some x := by
  obtain ⟨x0⟩ := pt_inh t
  rw [← h0 x0] at h
  cases t with
  | rcd k => exact implodeR_tot k x0 h
  | int k => obtain ⟨n, r, rfl, h2⟩ := un_int h; obtain rfl := un_nil h2; exact ⟨n, by simp [implode, tI, tE]⟩
  | bool => obtain ⟨n, r, rfl, h2⟩ := un_bool h; obtain rfl := un_nil h2; exact ⟨n, rfl⟩
  | str => obtain ⟨n, r, rfl, h2⟩ := un_str h; obtain rfl := un_nil h2; exact ⟨n, rfl⟩
  | list t => obtain ⟨n, r, rfl, h2⟩ := un_list h; obtain rfl := un_nil h2; exact ⟨n, by simp [implode, tL, tE, castL_self]⟩
inductive WfV : SV → Prop
  | int (k : IntKind) (n : Int) (h : (Lit.int k n).wf = true) : WfV (.int k n)
  | bool (b : Bool) : WfV (.bool b)
  | str (s : ByteArray) (h : s.size ≤ maxLen) : WfV (.str s)
  | rd (t : PT) (xs : List t.den) (hl : xs.length ≤ maxLen) (h : ∀ x, x ∈ xs → ∀ v, v ∈ explode t x → WfV v) : WfV (.rd false t xs)
def WfP (t : PT) (x : t.den) : Prop := ∀ v, v ∈ explode t x → WfV v
theorem LeL.wf : ∀ {vs ws : List SV}, LeL vs ws → (∀ v, v ∈ vs → WfV v) → ∀ w, w ∈ ws → WfV w
  | _, _, .nil, _, w, hw => by cases hw
  | _, _, .cons v u vs us hv hl, h, w, hw => by
    rcases List.mem_cons.1 hw with rfl | hw
    · have := h v (by simp)
      cases hv with
      | refl => exact this
      | rd => cases this; constructor <;> assumption
      | nil => cases this
    · exact LeL.wf hl (fun v hv => h v (by simp [hv])) w hw
mutual
inductive TyC (P : Program) (g : Pg) : TypeId → List CK → Prop
  | int (t : TypeId) (k : IntKind) (h : (g.T t).ty = .int k) (hc : P.cellsOf t = 1) : TyC P g t [.int k]
  | bool (t : TypeId) (h : (g.T t).ty = .bool) (hc : P.cellsOf t = 1) : TyC P g t [.bool]
  | str (t : TypeId) (h : (g.T t).ty = .str) (hc : P.cellsOf t = 1) : TyC P g t [.str]
  | slice (t e : TypeId) (p : PT) (ks : List CK) (h : (g.T t).ty = .slice e) (hc : P.cellsOf t = 1) (he : TyC P g e ks) (hw : ks.length = p.w) (hk : ∀ x : p.den, (explode p x).map ckOf = ks.map some) : TyC P g t [.list p]
  | struct (t : TypeId) (fs : List (Nat × TypeId)) (ks : List CK) (h : (g.T t).ty = .struct fs) (hc : P.cellsOf t = ks.length) (hf : TyF P g fs 0 ks) : TyC P g t ks
inductive TyF (P : Program) (g : Pg) : List (Nat × TypeId) → Nat → List CK → Prop
  | nil (o : Nat) : TyF P g [] o []
  | cons (o : Nat) (t : TypeId) (fs : List (Nat × TypeId)) (ks ks2 : List CK) (h : TyC P g t ks) (hf : TyF P g fs (o + ks.length) ks2) : TyF P g ((o, t) :: fs) o (ks ++ ks2)
end
theorem TyC.cells {P : Program} {g : Pg} {t : TypeId} {ks : List CK} : TyC P g t ks → P.cellsOf t = ks.length
  | .int _ _ _ hc => hc
  | .bool _ _ hc => hc
  | .str _ _ hc => hc
  | .slice _ _ _ _ _ hc _ _ _ => hc
  | .struct _ _ _ _ hc _ => hc
section
variable {H : Type} {enc : TypeId × Value → H} {P : Program} {W : World} {base : Nat} {spare : Nat → Bool} {held : Bool} {α : Type}
theorem lists_of {β : Type} {Q : Nat → α → β → Prop} : ∀ (len : Nat), (∀ i, i < len → ∃ u a, Q i u a) → ∃ (es : List α) (l : List β), es.length = len ∧ l.length = len ∧ ∀ (i : Nat) u a, es[i]? = some u → l[i]? = some a → Q i u a
  | 0, _ => ⟨[], [], rfl, rfl, fun i u a h => by simp at h⟩
  | len + 1, h => by
    obtain ⟨es, l, h1, h2, h3⟩ := lists_of len (fun i hi => h i (by omega))
    obtain ⟨u, a, hq⟩ := h len (by omega)
    refine ⟨es ++ [u], l ++ [a], by simp [h1], by simp [h2], fun i u' a' hu ha => ?_⟩
    rcases Nat.lt_trichotomy i len with hlt | rfl | hgt
    · rw [List.getElem?_append_left (by omega)] at hu ha
      exact h3 i u' a' hu ha
    · rw [List.getElem?_append_right (by omega), h1, Nat.sub_self] at hu
      rw [List.getElem?_append_right (by omega), h2, Nat.sub_self] at ha
      simp only [List.getElem?_cons_zero, Option.some.injEq] at hu ha
      subst hu; subst ha; exact hq
    · rw [List.getElem?_eq_none (by simp; omega)] at hu; cases hu
def CelOk (W : World) (cs : List Value) (us : List AV) (svs : List SV) (ks : List CK) : Prop :=
  us.length = ks.length ∧ cs.length = ks.length ∧ (∀ (j : Nat) (u : AV) (v : Value), us[j]? = some u → cs[j]? = some v → VR (startCfg W) u v) ∧ FzC Heap.emp svs us ∧ svs.map ckOf = ks.map some ∧ ∀ v, v ∈ svs → WfV v
def OpC (enc : TypeId × Value → H) (P : Program) (W : World) (base : Nat) (spare : Nat → Bool) (held : Bool) (t : TypeId) (ks : List CK) : Prop :=
  ∀ (fuel : Nat) (cs : List Value) (x : DataW H × List MemPlace), DataW.trod enc P W base spare held fuel t cs = some x → ∃ us svs, CelOk W cs us svs ks
theorem CelOk.one {v : Value} {u : AV} {s : SV} {k : CK} (hv : VR (startCfg W) u v) (hf : Fz Heap.emp s u) (hk : ckOf s = some k) (hw : WfV s) : CelOk W [v] [u] [s] [k] :=
  ⟨rfl, rfl, fun j u' v' h1 h2 => by
    cases j with
    | zero => simp at h1 h2; subst h1; subst h2; exact hv
    | succ j => simp at h1, .cons _ _ _ _ hf .nil, by simp [hk], fun w h => by rw [List.mem_singleton.1 h]; exact hw⟩
def mkE : PT → List AV → AV
  | .rcd _, us => .agg us
  | _, us => us.headD .undef
theorem mkE_ok {p : PT} {us : List AV} (hl : us.length = p.w) (ho : ∀ u, u ∈ us → u.one = true) : (mkE p us).cells = us ∧ eOk p (mkE p us) := by
  cases p with
  | rcd k => exact ⟨rfl, rfl, fun hq => by cases hq⟩
  | _ =>
    cases us with
    | nil => cases hl
    | cons u us =>
      cases us with
      | cons => cases hl
      | nil =>
        have h1 := ho u (by simp)
        exact ⟨one_cells h1, one_good h1, fun _ => h1⟩
theorem opSlice {g : Pg} (hT : TEOk P g.T) {t e : TypeId} {p : PT} {ks : List CK} (h : (g.T t).ty = .slice e) (hce : P.cellsOf e = ks.length) (hw : ks.length = p.w) (hk : ∀ x : p.den, (explode p x).map ckOf = ks.map some) (he : OpC enc P W base spare held e ks) : OpC enc P W base spare held t [.list p] := fun fuel cs x hx => by
  rcases open_slice (hT.tslice t e h) hx with ⟨h1, _⟩ | ⟨a, len, cap, m, n, D, Pl, h1, hb, hl, hm, hmm, _, hel⟩
  · subst h1
    exact ⟨_, _, .one .nils (.rdn false p) rfl (.rd p [] (Nat.zero_le _) fun x hx => by cases hx)⟩
  · subst h1
    have hlm : len ≤ m := by rw [hmm]; split <;> omega
    obtain ⟨ul, xl, e1, e2, e3⟩ := lists_of (α := List AV) (β := p.den) (Q := fun i us x => us.length = p.w ∧ FzC Heap.emp (explode p x) us ∧ WfP p x ∧ ∀ (j : Nat) (u : AV), us[j]? = some u → ∃ v, W.cell? (a.add (i * p.w + j)) = some v ∧ VR (startCfg W) u v) len (fun i hi => by
      obtain ⟨cs', c1, c2⟩ := hel i (by omega)
      obtain ⟨us, svs, k1, k2, k3, k4, k5, k6⟩ := he n cs' _ c2
      obtain ⟨x, hx⟩ := implode_tot p hk k5
      refine ⟨us, x, by rw [k1, hw], FzC.le (implode_le hx) k4, LeL.wf (implode_le hx) k6, fun j u hj => ?_⟩
      have hjl : j < cs'.length := by rw [k2, ← k1]; exact (List.getElem?_eq_some_iff.1 hj).1
      refine ⟨cs'[j], ?_, k3 j u _ hj (List.getElem?_eq_getElem hjl)⟩
      rw [hce, hw] at c1
      obtain ⟨_, hlen, hat⟩ := World.cells?_some c1
      have := hat j (by rw [← hlen]; exact hjl)
      rw [add_add] at this
      rw [this]
      simp [hjl])
    have xget : ∀ (i : Nat) us, ul[i]? = some us → ∃ x, xl[i]? = some x := fun i us hu => ⟨_, List.getElem?_eq_getElem (by rw [e2, ← e1]; exact (List.getElem?_eq_some_iff.1 hu).1)⟩
    have eget : ∀ (i : Nat) e, (ul.map (mkE p))[i]? = some e → ∃ us x, ul[i]? = some us ∧ xl[i]? = some x ∧ e.cells = us ∧ eOk p e := fun i e hi => by
      rw [List.getElem?_map] at hi
      cases hu : ul[i]? with
      | none => rw [hu] at hi; cases hi
      | some us =>
        rw [hu] at hi
        obtain rfl := Option.some.inj hi
        obtain ⟨x, hx⟩ := xget i us hu
        obtain ⟨q1, q2, _⟩ := e3 i us x hu hx
        obtain ⟨r1, r2⟩ := mkE_ok q1 (FzC.one q2)
        exact ⟨us, x, rfl, hx, r1, r2⟩
    have hfl : FzL Heap.emp p xl (ul.map (mkE p)) := FzL.of (by simp [e1, e2]) fun j x e hx he => by
      obtain ⟨us, x', q1, q2, q3, q4⟩ := eget j e he
      rw [hx] at q2
      obtain rfl := Option.some.inj q2
      exact ⟨q4, by rw [q3]; exact (e3 j us x q1 hx).2.1⟩
    have hlen : (ul.map (mkE p)).length = len := by simp [e1]
    refine ⟨_, _, .one (s := .rd false p xl) (u := .ro p.w false (ul.map (mkE p))) (v := .slice (some a) len cap) ?_ (.ro false false p xl _ (fun hq => by cases hq) hfl) rfl (.rd p xl (by rw [e2]; omega) fun x hx => ?_)⟩
    · have := VR.ro (c := startCfg W) p.w false (ul.map (mkE p)) a cap (fun i j => (W.cell? (a.add (i * p.w + j))).getD Go.undef) (by rw [hlen]; exact hl) hm (fun hq => by cases hq) (fun hne => ?_) (fun i u hu => ?_) (fun i u j u' hu hj => ?_) (fun i u j u' hu hj => ?_) (fun i u j u' hu hj => ?_)
      · rw [hlen] at this; exact this
      · have hl0 : 0 < ul.length := by cases ul with | nil => exact absurd rfl hne | cons => simp
        have hu := List.getElem?_eq_getElem hl0
        obtain ⟨x, hx⟩ := xget 0 _ hu
        obtain ⟨k1, _, _, k4⟩ := e3 0 _ x hu hx
        have hj : 0 < (ul[0]'hl0).length := by rw [k1]; exact p.w_pos
        obtain ⟨v, q1, _⟩ := k4 0 _ (List.getElem?_eq_getElem hj)
        have := World.block_lt_of_cell? W _ q1
        rw [add_block] at this
        exact this
      · obtain ⟨us, x, q1, q2, q3, q4⟩ := eget i u hu
        rw [q3]; exact (e3 i us x q1 q2).1
      · obtain ⟨us, x, q1, q2, q3, q4⟩ := eget i u hu
        rw [q3] at hj
        exact FzC.one (e3 i us x q1 q2).2.1 u' (List.mem_of_getElem? hj)
      · obtain ⟨us, x, q1, q2, q3, q4⟩ := eget i u hu
        rw [q3] at hj
        obtain ⟨v, r1, r2⟩ := (e3 i us x q1 q2).2.2.2 j u' hj
        show W.cell? _ = _
        rw [r1]; rfl
      · obtain ⟨us, x, q1, q2, q3, q4⟩ := eget i u hu
        rw [q3] at hj
        obtain ⟨v, r1, r2⟩ := (e3 i us x q1 q2).2.2.2 j u' hj
        simp only [r1, Option.getD_some]; exact r2
    · obtain ⟨i, hi⟩ := List.getElem?_of_mem hx
      have hlt : i < ul.length := by rw [e1, ← e2]; exact (List.getElem?_eq_some_iff.1 hi).1
      exact (e3 i _ x (List.getElem?_eq_getElem hlt) hi).2.2.1
def OpF (enc : TypeId × Value → H) (P : Program) (W : World) (base : Nat) (spare : Nat → Bool) (held : Bool) (fs : List (Nat × TypeId)) (o : Nat) (ks : List CK) : Prop :=
  ∀ (n : Nat) (cs : List Value), cs.length = o + ks.length → (∀ p, p ∈ fs → ∃ y, DataW.trod enc P W base spare held n p.2 ((cs.drop p.1).take (P.cellsOf p.2)) = some y) → ∃ us svs, CelOk W (cs.drop o) us svs ks
theorem opNil {o : Nat} : OpF enc P W base spare held [] o [] := fun n cs hl _ => ⟨[], [], rfl, by simp at hl; simp [hl], fun j u v h => by simp at h, .nil, rfl, fun v hv => by cases hv⟩
theorem opCons {o : Nat} {t : TypeId} {fs : List (Nat × TypeId)} {ks1 ks2 : List CK} (hce : P.cellsOf t = ks1.length) (h1 : OpC enc P W base spare held t ks1) (h2 : OpF enc P W base spare held fs (o + ks1.length) ks2) : OpF enc P W base spare held ((o, t) :: fs) o (ks1 ++ ks2) := fun n cs hl ht => by
  simp only [List.length_append] at hl
  obtain ⟨y, hy⟩ := ht (o, t) (by simp)
  rw [hce] at hy
  obtain ⟨us1, svs1, a1, a2, a3, a4, a5, a6⟩ := h1 n _ _ hy
  obtain ⟨us2, svs2, b1, b2, b3, b4, b5, b6⟩ := h2 n cs (by omega) fun p hp => ht p (by simp [hp])
  refine ⟨us1 ++ us2, svs1 ++ svs2, by simp [a1, b1], by simp; omega, fun j u v h h' => ?_, ?_, by simp [a5, b5], fun v hv => (List.mem_append.1 hv).elim (a6 v) (b6 v)⟩
  · by_cases hj : j < ks1.length
    · rw [List.getElem?_append_left (by omega)] at h
      refine a3 j u v h ?_
      rw [List.getElem?_take, if_pos hj]; exact h'
    · rw [List.getElem?_append_right (by omega), a1] at h
      refine b3 _ u v h ?_
      rw [List.getElem?_drop] at h' ⊢
      rw [← h']; congr 1; omega
  · exact FzC.of (by simp [a4.len, b4.len]) fun q v a h h' => by
      have e1 := a4.len
      by_cases hq : q < svs1.length
      · rw [List.getElem?_append_left (by omega)] at h h'
        exact a4.getA q v a h h'
      · rw [List.getElem?_append_right (by omega)] at h h'
        rw [e1] at h'
        exact b4.getA _ v a h h'
theorem opStruct {g : Pg} (hT : TEOk P g.T) {t : TypeId} {fs : List (Nat × TypeId)} {ks : List CK} (h : (g.T t).ty = .struct fs) (hc : P.cellsOf t = ks.length) (hf : OpF enc P W base spare held fs 0 ks) : OpC enc P W base spare held t ks := fun fuel cs x hx => by
  obtain ⟨F, f1, f2⟩ := hT.tstruct t fs h
  obtain ⟨xs, m, _, _, h3, h4, h5⟩ := DataW.trod_struct f1 hx
  have := hf m cs (by rw [h3, hc]; omega) fun p hp => by
    rw [← f2] at hp
    obtain ⟨f, hf, rfl⟩ := List.mem_map.1 hp
    obtain ⟨i, hi⟩ := List.mem_iff_getElem?.1 hf
    have hi' : F[i]? = some f := by simpa using hi
    have hlt : i < xs.length := by rw [h4]; exact (Array.getElem?_eq_some_iff.1 hi').1
    exact ⟨xs[i], by rw [h5 i f hi', List.getElem?_eq_getElem hlt]⟩
  simpa using this
mutual
theorem opC {g : Pg} (hT : TEOk P g.T) : ∀ {t : TypeId} {ks : List CK}, TyC P g t ks → OpC enc P W base spare held t ks
  | _, _, .int t k h hc => fun fuel cs x hx => by
    obtain ⟨m, rfl, _, h2⟩ := DataW.trod_int (hT.tint t k h) hx
    exact ⟨_, _, .one (.int k m) (.int k m) rfl (.int k m h2)⟩
  | _, _, .bool t h hc => fun fuel cs x hx => by
    obtain ⟨b, rfl, _⟩ := DataW.trod_bool (hT.tbool t h) hx
    exact ⟨_, _, .one (.bool b) (.bool b) rfl (.bool b)⟩
  | _, _, .str t h hc => fun fuel cs x hx => by
    obtain ⟨s, rfl, _, h2⟩ := DataW.trod_string (hT.tstr t h) hx
    exact ⟨_, _, .one (.str s) (.str s) rfl (.str s h2)⟩
  | _, _, .slice t e p ks h hc he hw hk => opSlice hT h he.cells hw hk (opC hT he)
  | _, _, .struct t fs ks h hc hf => opStruct hT h hc (opF hT hf)
theorem opF {g : Pg} (hT : TEOk P g.T) : ∀ {fs : List (Nat × TypeId)} {o : Nat} {ks : List CK}, TyF P g fs o ks → OpF enc P W base spare held fs o ks
  | _, _, _, .nil o => opNil
  | _, _, _, .cons o t fs ks ks2 h hf => opCons h.cells (opC hT h) (opF hT hf)
end
theorem param_ok {g : Pg} (hT : TEOk P g.T) {t : TypeId} {p : PT} {ks : List CK} (hty : TyC P g t ks) (hk : ∀ x : p.den, (explode p x).map ckOf = ks.map some) {v : Value} {d : DataW H} {ps : List MemPlace} (hv : (p.scal = true ∧ v.cells.toList = [v]) ∨ (p.scal = false ∧ ∃ vs, v = .agg vs)) (hd : DataW.Trod enc P W base spare held t v d ps) :
    ∃ (x : p.den) (u : AV), ParOk Heap.emp (.val p) x u ∧ VR (startCfg W) u v ∧ WfP p x := by
  obtain ⟨fuel, hf⟩ := hd
  obtain ⟨us, svs, k1, k2, k3, k4, k5, k6⟩ := opC hT hty fuel _ _ hf
  obtain ⟨x, hx⟩ := implode_tot p hk k5
  have hle := FzC.le (implode_le hx) k4
  have hw := LeL.wf (implode_le hx) k6
  rcases hv with ⟨h1, h2⟩ | ⟨h1, vs, rfl⟩
  · rw [h2] at k2 k3
    have hl : us.length = 1 := by rw [k1, ← k2]; rfl
    match us, hl with
    | [u], _ => exact ⟨x, u, ⟨[u], .inl ⟨h1, rfl⟩, hle⟩, k3 0 u v rfl rfl, hw⟩
  · refine ⟨x, .agg us, ⟨us, .inr ⟨h1, rfl⟩, hle⟩, .agg _ _ ?_ (FzC.one hle) fun j u v hu hv => k3 j u v hu (by simpa [Value.cells] using hv), hw⟩
    have : vs.toList.length = ks.length := k2
    rw [k1, ← this]; simp
theorem law_end {P : Program} {f : FuncId} {c : Con} (hc : ConOk P f c) {asl : List AV} {x : tupT (c.sg.ps.map PK.t)} (hp : ParsOk Heap.emp c.sg.ps x asl) (hr : c.sg.rs = [(false, .bool)]) (hm : ∃ y, c.m x = some y ∧ HEq y true) : CA P f asl Heap.emp 0 (fun r _ _ => r = .bool true) := by
  obtain ⟨⟨ps, rs⟩, fz, m⟩ := c
  simp only at hr
  subst hr
  obtain ⟨y, h1, h2⟩ := hm
  have h2 : y = true := eq_of_heq h2
  subst h2
  refine (hc.2 Heap.emp Heap.emp 0 asl x true (fun i b hb => by cases hb) (fun _ _ hb => hb) hp h1).mono fun r h' n' ⟨F, asl, I, q1, _, _, _, _, _, _, ⟨a, q2, cs, q3, _, q4⟩, _⟩ => ?_
  subst q1; subst q2
  obtain ⟨q4, _⟩ := q4 rfl
  rcases q3 with ⟨_, rfl⟩ | ⟨hq, _⟩
  · cases q4 with
    | cons _ _ _ _ hv _ => cases hv; rfl
  · cases hq
end
end Go.Proofs.Ytcngfjmfgeckmaa
namespace Go.Proofs.Ytcngfjmfgeckmaa
open Go
structure TIOk (P : Program) (t : TypeId) (ti : TI) : Prop where
  tbool : ti.ty = .bool → P.underlying t = some .bool
  tint : ∀ k, ti.ty = .int k → P.underlying t = some (.int k)
  tstr : ti.ty = .str → P.underlying t = some .string
  tslice : ∀ e, ti.ty = .slice e → P.underlying t = some (.slice e)
  tstruct : ∀ fs, ti.ty = .struct fs → ∃ F : Array Field, P.underlying t = some (.struct F) ∧ F.toList.map (fun f => (f.offset, f.type)) = fs
  tptr : ti.ty = .ptr → ∃ e, P.underlying t = some (.pointer e)
  tfunc : ti.ty = .func → ∃ a b c, P.underlying t = some (.func a b c)
  info : 0 < ti.sz → ∃ i z, P.info? t = some i ∧ i.size = ti.sz ∧ i.bytes = ti.bytes ∧ i.zero = some z ∧ (∀ c, VR c ti.zero z) ∧ ti.zero.cells.length = ti.sz ∧ (∀ u, u ∈ ti.zero.cells → u.one = true)
  cmp : ∀ fs, ti.ty = .struct fs → ti.cmp = true → P.stoodInHeld t = false ∧ P.eqGuardType P.depth t = false ∧
    ∃ F : Array Field, P.underlying t = some (.struct F) ∧ F.toList.map (fun f => (f.offset, f.type)) = fs ∧ (∀ f, f ∈ F.toList → f.name ≠ "_") ∧ (∀ (i : Nat) (p : Nat × TypeId), fs[i]? = some p → p.1 = i)
def lookT : List (Nat × TI) → Nat → TI
  | [], _ => {}
  | (k, ti) :: r, t => if k = t then ti else lookT r t
section
variable {P : Program}
theorem TIOk.none (t : TypeId) : TIOk P t {} where
  tbool h := by cases h
  tint _ h := by cases h
  tstr h := by cases h
  tslice _ h := by cases h
  tstruct _ h := by cases h
  tptr h := by cases h
  tfunc h := by cases h
  info h := absurd h (Nat.lt_irrefl 0)
  cmp _ h := by cases h
theorem lookT_ok : ∀ (tab : List (Nat × TI)), (∀ p, p ∈ tab → TIOk P p.1 p.2) → ∀ t, TIOk P t (lookT tab t)
  | [], _, t => TIOk.none t
  | (k, ti) :: r, h, t => by
    unfold lookT
    split
    · rename_i hk; subst hk; exact h (k, ti) (by simp)
    · exact lookT_ok r (fun p hp => h p (by simp [hp])) t
theorem TEOk.of_tab (tab : List (Nat × TI)) (h : ∀ p, p ∈ tab → TIOk P p.1 p.2) : TEOk P (lookT tab) where
  tbool t := (lookT_ok tab h t).tbool
  tint t := (lookT_ok tab h t).tint
  tstr t := (lookT_ok tab h t).tstr
  tslice t := (lookT_ok tab h t).tslice
  tstruct t := (lookT_ok tab h t).tstruct
  tptr t := (lookT_ok tab h t).tptr
  tfunc t := (lookT_ok tab h t).tfunc
  info t := (lookT_ok tab h t).info
  cmp t := (lookT_ok tab h t).cmp
variable {t : TypeId} {i : TypeInfo} {b : Nat}
theorem info_one {z : Value} {u : AV} {ti : TI} (hi : P.info? t = some i) (h1 : i.size = 1) (hb : i.bytes = ti.bytes) (hz : i.zero = some z) (hv : ∀ c, VR c ti.zero z) (ho : ti.zero.one = true) (hs : ti.sz = 1) :
    ∃ i z, P.info? t = some i ∧ i.size = ti.sz ∧ i.bytes = ti.bytes ∧ i.zero = some z ∧ (∀ c, VR c ti.zero z) ∧ ti.zero.cells.length = ti.sz ∧ (∀ u, u ∈ ti.zero.cells → u.one = true) := by
  have hc : ti.zero.cells = [ti.zero] := by
    cases hq : ti.zero <;> first | rfl | (rw [hq] at ho; cases ho)
  exact ⟨i, z, hi, by rw [h1, hs], hb, hz, hv, by rw [hc, hs]; rfl, fun u hu => by rw [hc] at hu; rw [List.mem_singleton.1 hu]; exact ho⟩
theorem TIOk.bool (hu : P.underlying t = some .bool) (hi : P.info? t = some i) (h1 : i.size = 1) (hb : i.bytes = b) (hz : i.zero = some (.bool false)) : TIOk P t ⟨.bool, 1, b, .bool false, false⟩ where
  tbool _ := hu
  tint _ h := by cases h
  tstr h := by cases h
  tslice _ h := by cases h
  tstruct _ h := by cases h
  tptr h := by cases h
  tfunc h := by cases h
  info _ := info_one (u := .bool false) hi h1 hb hz (fun c => .bool _) rfl rfl
  cmp _ h := by cases h
theorem TIOk.int {k : IntKind} (hu : P.underlying t = some (.int k)) (hi : P.info? t = some i) (h1 : i.size = 1) (hb : i.bytes = b) (hz : i.zero = some (.int k 0)) : TIOk P t ⟨.int k, 1, b, .int k 0, false⟩ where
  tbool h := by cases h
  tint _ h := by cases h; exact hu
  tstr h := by cases h
  tslice _ h := by cases h
  tstruct _ h := by cases h
  tptr h := by cases h
  tfunc h := by cases h
  info _ := info_one (u := .int k 0) hi h1 hb hz (fun c => .int _ _) rfl rfl
  cmp _ h := by cases h
theorem TIOk.str {s : ByteArray} (hu : P.underlying t = some .string) (hi : P.info? t = some i) (h1 : i.size = 1) (hb : i.bytes = b) (hz : i.zero = some (.string s)) : TIOk P t ⟨.str, 1, b, .str s, false⟩ where
  tbool h := by cases h
  tint _ h := by cases h
  tstr _ := hu
  tslice _ h := by cases h
  tstruct _ h := by cases h
  tptr h := by cases h
  tfunc h := by cases h
  info _ := info_one (u := .str s) hi h1 hb hz (fun c => .str _) rfl rfl
  cmp _ h := by cases h
theorem TIOk.slice {e : TypeId} (hu : P.underlying t = some (.slice e)) (hi : P.info? t = some i) (h1 : i.size = 1) (hb : i.bytes = b) (hz : i.zero = some (.slice .none 0 0)) : TIOk P t ⟨.slice e, 1, b, .nils, false⟩ where
  tbool h := by cases h
  tint _ h := by cases h
  tstr h := by cases h
  tslice _ h := by cases h; exact hu
  tstruct _ h := by cases h
  tptr h := by cases h
  tfunc h := by cases h
  info _ := info_one (u := .nils) hi h1 hb hz (fun c => .nils) rfl rfl
  cmp _ h := by cases h
theorem TIOk.func {x : Array TypeId} {y : Array TypeId} {v : Bool} (hu : P.underlying t = some (.func x y v)) (hi : P.info? t = some i) (h1 : i.size = 1) (hb : i.bytes = b) (hz : i.zero = some .nilFunc) : TIOk P t ⟨.func, 1, b, .nilf, false⟩ where
  tbool h := by cases h
  tint _ h := by cases h
  tstr h := by cases h
  tslice _ h := by cases h
  tstruct _ h := by cases h
  tptr h := by cases h
  tfunc _ := ⟨x, y, v, hu⟩
  info _ := info_one (u := .nilf) hi h1 hb hz (fun c => .nilf) rfl rfl
  cmp _ h := by cases h
theorem TIOk.struct {F : Array Field} {fs : List (Nat × TypeId)} {vs : Array Value} {cs : List AV} {n : Nat} {cm : Bool} (hu : P.underlying t = some (.struct F)) (hF : F.toList.map (fun f => (f.offset, f.type)) = fs) (hi : P.info? t = some i) (h1 : i.size = n) (hb : i.bytes = b)
    (hz : i.zero = some (.agg vs)) (hcs : vs.toList.map ofVal = cs) (hone : cs.all AV.one = true) (hn : cs.length = n)
    (hcm : cm = true → P.stoodInHeld t = false ∧ P.eqGuardType P.depth t = false ∧ F.toList.all (fun f => decide (f.name ≠ "_")) = true ∧ (fs.zipIdx.all fun p => decide (p.1.1 = p.2)) = true) : TIOk P t ⟨.struct fs, n, b, .agg cs, cm⟩ where
  tbool h := by cases h
  tint _ h := by cases h
  tstr h := by cases h
  tslice _ h := by cases h
  tstruct _ h := by cases h; exact ⟨F, hu, hF⟩
  tptr h := by cases h
  tfunc h := by cases h
  info _ := by
    subst hcs
    refine ⟨i, _, hi, h1, hb, hz, fun c => ?_, hn, fun u hu => List.all_eq_true.1 hone u hu⟩
    refine .agg _ _ (by simp) (fun u hu => List.all_eq_true.1 hone u hu) (fun j u v hj hv => ?_)
    have hv' : vs.toList[j]? = some v := by simpa using hv
    rw [List.getElem?_map, hv'] at hj
    obtain rfl := Option.some.inj hj
    exact ofVal_ok c v
  cmp fs' h hc := by
    cases h
    obtain ⟨a1, a2, a3, a4⟩ := hcm hc
    refine ⟨a1, a2, F, hu, hF, fun f hf => by simpa using List.all_eq_true.1 a3 f hf, fun j p hj => ?_⟩
    have := List.all_eq_true.1 a4 (p, j) (by rw [List.mem_zipIdx_iff_getElem?]; simpa using hj)
    simpa using this
end
end Go.Proofs.Ytcngfjmfgeckmaa
namespace Go.Proofs.Ytcngfjmfgeckmaa
open Go
def chkT (tab : List (Nat × TI)) : Bool := tab.all fun p => (match p.2.ty with
  | .struct fs => decide (0 < p.2.sz) && fs.all (fun q => decide (0 < (lookT tab q.2).sz))
  | _ => true) && (p.2.zero.good || decide (p.2.sz = 0))
theorem lookT_mem : ∀ {l : List (Nat × TI)} {t : Nat}, lookT l t = {} ∨ (t, lookT l t) ∈ l
  | [], t => .inl rfl
  | (k, ti) :: l, t => by
    unfold lookT
    split
    · rename_i h; subst h; exact .inr (by simp)
    · exact (lookT_mem (l := l)).imp id fun h => List.mem_cons_of_mem _ h
theorem pok_of {P : Program} {tab : List (Nat × TI)} {tp : Nat → Option PT} (hT : TEOk P (lookT tab)) (hc : chkT tab = true) : POk ⟨P, lookT tab, tp⟩ := by
  unfold chkT at hc
  rw [List.all_eq_true] at hc
  refine ⟨fun t fs h => ?_, fun t h => ?_⟩
  · rcases lookT_mem (l := tab) (t := t) with hq | hq
    · have h : (lookT tab t).ty = .struct fs := h
      rw [hq] at h; cases h
    · have := hc _ hq
      have h' : (lookT tab t).ty = .struct fs := h
      simp only [h', Bool.and_eq_true, decide_eq_true_eq] at this
      exact this.1
  · obtain ⟨i, z, _, _, _, _, _, h1, h2⟩ := hT.info t h
    refine ⟨?_, h1, h2⟩
    rcases lookT_mem (l := tab) (t := t) with hq | hq
    · have h : 0 < (lookT tab t).sz := h
      rw [hq] at h; cases h
    · have := hc _ hq
      simp only [Bool.and_eq_true, Bool.or_eq_true, decide_eq_true_eq] at this
      have h : 0 < (lookT tab t).sz := h
      exact this.2.resolve_right (by omega)
theorem ConOk.congr {P : Program} {f : FuncId} {sg : Sg} {fz : Bool} {m m' : tupT (sg.ps.map PK.t) → Option (tupT (sg.rs.map Prod.snd))} (h : ConOk P f ⟨sg, fz, m⟩) (he : ∀ x, m x = m' x) : ConOk P f ⟨sg, fz, m'⟩ := by
  have : m = m' := funext he
  subst this
  exact h
def ConsOk (P : Program) (l : List (FuncId × Con)) : Prop := ∀ f c, lkF l f = some c → ConOk P f c
theorem cons0 (P : Program) : ConsOk P [] := fun f c h => by cases h
theorem consS {P : Program} {a : FuncId} {b : Con} {l : List (FuncId × Con)} (h : ConOk P a b) (hl : ConsOk P l) : ConsOk P ((a, b) :: l) := fun f c hq => by
  simp only [lkF] at hq
  cases hb : Nat.beq a f with
  | true => rw [hb] at hq; obtain rfl := Nat.eq_of_beq_eq_true hb; cases hq; exact h
  | false => rw [hb] at hq; exact hl f c hq
def FnsOk (P : Program) (l : List (FuncId × List Nat × FnA)) : Prop := ∀ f ks fn, lkV l f ks = some fn → FnOk P f fn
theorem fns0 (P : Program) : FnsOk P [] := fun f ks fn h => by cases h
theorem fnsS {P : Program} {a : FuncId} {b : List Nat} {c : FnA} {l : List (FuncId × List Nat × FnA)} (h : FnOk P a c) (hl : FnsOk P l) : FnsOk P ((a, b, c) :: l) := fun f ks fn hq => by
  simp only [lkV] at hq
  cases hb : Nat.beq a f && eqN b ks with
  | true =>
    rw [hb] at hq
    simp only [Bool.and_eq_true] at hb
    obtain rfl := Nat.eq_of_beq_eq_true hb.1
    cases hq; exact h
  | false => rw [hb] at hq; exact hl f ks fn hq
def SpsOk (P : Program) (l : List (FuncId × Spc)) : Prop := ∀ f sp, lkF l f = some sp → SpOk P f sp
theorem sps0 (P : Program) : SpsOk P [] := fun f c h => by cases h
theorem step_ok {P : Program} {g : Pg} (hT : TEOk P g.T) (hm : P.follows .mixedOrders = true) (gk : POk g) {cs : List (FuncId × Con)} {sps : List (FuncId × Spc)} {fns : List (FuncId × List Nat × FnA)} (h1 : ConsOk P cs) (h2 : SpsOk P sps) (h3 : FnsOk P fns) {f : FuncId} {fn : FnA} (hf : FnOk P f fn) {d fu : Nat} {sg : Sg} {fz : Bool}
    {m : tupT (sg.ps.map PK.t) → Option (tupT (sg.rs.map Prod.snd))} (he : ∀ x, model g (callN g fu ⟨cs, sps, fns⟩ d) fu fn sg x = m x) : ConsOk P ((f, ⟨sg, fz, m⟩) :: cs) :=
  consS ((model_ok hT hm gk (callN_ok (tb := ⟨cs, sps, fns⟩) hT hm gk ⟨fun f c => h1 f c, fun f c => h2 f c, fun f c k => h3 f c k⟩ d) hf sg fz).congr he) h1
end Go.Proofs.Ytcngfjmfgeckmaa
section
namespace Go.Proofs.Ytcngfjmfgeckmaa
open Go
set_option maxRecDepth 100000
theorem tok1 : TIOk Try.prog 1 ⟨.func, 1, 8, .nilf, false⟩ := TIOk.func Try.underlying1 (by kernel_rfl : Try.prog.info? 1 = some Try.t1) rfl rfl rfl
theorem tok2 : TIOk Try.prog 2 ⟨.int .i64, 1, 8, .int .i64 0, false⟩ := TIOk.int Try.underlying2 (by kernel_rfl : Try.prog.info? 2 = some Try.t2) rfl rfl rfl
theorem tok3 : TIOk Try.prog 3 ⟨.int .i64, 1, 8, .int .i64 0, false⟩ := TIOk.int Try.underlying3 (by kernel_rfl : Try.prog.info? 3 = some Try.t3) rfl rfl rfl
theorem tok4 : TIOk Try.prog 4 ⟨.bool, 1, 1, .bool false, false⟩ := TIOk.bool Try.underlying4 (by kernel_rfl : Try.prog.info? 4 = some Try.t4) rfl rfl rfl
theorem tok5 : TIOk Try.prog 5 ⟨.int .u8, 1, 1, .int .u8 0, false⟩ := TIOk.int Try.underlying5 (by kernel_rfl : Try.prog.info? 5 = some Try.t5) rfl rfl rfl
theorem tok6 : TIOk Try.prog 6 ⟨.int .u8, 1, 1, .int .u8 0, false⟩ := TIOk.int Try.underlying6 (by kernel_rfl : Try.prog.info? 6 = some Try.t6) rfl rfl rfl
theorem tok9 : TIOk Try.prog 9 ⟨.str, 1, 16, .str ⟨#[]⟩, false⟩ := TIOk.str Try.underlying9 (by kernel_rfl : Try.prog.info? 9 = some Try.t9) rfl rfl rfl
theorem tok10 : TIOk Try.prog 10 ⟨.str, 1, 16, .str ⟨#[]⟩, false⟩ := TIOk.str Try.underlying10 (by kernel_rfl : Try.prog.info? 10 = some Try.t10) rfl rfl rfl
theorem tok11 : TIOk Try.prog 11 ⟨.str, 1, 16, .str ⟨#[]⟩, false⟩ := TIOk.str Try.underlying11 (by kernel_rfl : Try.prog.info? 11 = some Try.t11) rfl rfl rfl
theorem tok12 : TIOk Try.prog 12 ⟨.int .u64, 1, 8, .int .u64 0, false⟩ := TIOk.int Try.underlying12 (by kernel_rfl : Try.prog.info? 12 = some Try.t12) rfl rfl rfl
theorem tok22 : TIOk Try.prog 22 ⟨.slice 64, 1, 24, .nils, false⟩ := TIOk.slice Try.underlying22 (by kernel_rfl : Try.prog.info? 22 = some Try.t22) rfl rfl rfl
theorem tok23 : TIOk Try.prog 23 ⟨.slice 95, 1, 24, .nils, false⟩ := TIOk.slice Try.underlying23 (by kernel_rfl : Try.prog.info? 23 = some Try.t23) rfl rfl rfl
theorem tok25 : TIOk Try.prog 25 ⟨.struct [(0, 22), (1, 23)], 2, 48, .agg [.nils, .nils], false⟩ := TIOk.struct Try.underlying25 rfl (by kernel_rfl : Try.prog.info? 25 = some Try.t25) rfl rfl rfl rfl rfl rfl (fun h => by cases h)
theorem tok28 : TIOk Try.prog 28 ⟨.slice 97, 1, 24, .nils, false⟩ := TIOk.slice Try.underlying28 (by kernel_rfl : Try.prog.info? 28 = some Try.t28) rfl rfl rfl
theorem tok30 : TIOk Try.prog 30 ⟨.struct [(0, 22), (1, 28)], 2, 48, .agg [.nils, .nils], false⟩ := TIOk.struct Try.underlying30 rfl (by kernel_rfl : Try.prog.info? 30 = some Try.t30) rfl rfl rfl rfl rfl rfl (fun h => by cases h)
theorem tok33 : TIOk Try.prog 33 ⟨.slice 78, 1, 24, .nils, false⟩ := TIOk.slice Try.underlying33 (by kernel_rfl : Try.prog.info? 33 = some Try.t33) rfl rfl rfl
theorem tok36 : TIOk Try.prog 36 ⟨.slice 76, 1, 24, .nils, false⟩ := TIOk.slice Try.underlying36 (by kernel_rfl : Try.prog.info? 36 = some Try.t36) rfl rfl rfl
theorem tok40 : TIOk Try.prog 40 ⟨.slice 2, 1, 24, .nils, false⟩ := TIOk.slice Try.underlying40 (by kernel_rfl : Try.prog.info? 40 = some Try.t40) rfl rfl rfl
theorem tok42 : TIOk Try.prog 42 ⟨.struct [(0, 2), (1, 40)], 2, 32, .agg [.int .i64 0, .nils], false⟩ := TIOk.struct Try.underlying42 rfl (by kernel_rfl : Try.prog.info? 42 = some Try.t42) rfl rfl rfl rfl rfl rfl (fun h => by cases h)
theorem tok47 : TIOk Try.prog 47 ⟨.slice 123, 1, 24, .nils, false⟩ := TIOk.slice Try.underlying47 (by kernel_rfl : Try.prog.info? 47 = some Try.t47) rfl rfl rfl
theorem tok49 : TIOk Try.prog 49 ⟨.struct [(0, 2), (1, 47)], 2, 32, .agg [.int .i64 0, .nils], false⟩ := TIOk.struct Try.underlying49 rfl (by kernel_rfl : Try.prog.info? 49 = some Try.t49) rfl rfl rfl rfl rfl rfl (fun h => by cases h)
theorem tok58 : TIOk Try.prog 58 ⟨.struct [(0, 2), (1, 2), (2, 47)], 3, 40, .agg [.int .i64 0, .int .i64 0, .nils], false⟩ := TIOk.struct Try.underlying58 rfl (by kernel_rfl : Try.prog.info? 58 = some Try.t58) rfl rfl rfl rfl rfl rfl (fun h => by cases h)
theorem tok60 : TIOk Try.prog 60 ⟨.struct [(0, 2), (1, 58)], 4, 48, .agg [.int .i64 0, .int .i64 0, .int .i64 0, .nils], false⟩ := TIOk.struct Try.underlying60 rfl (by kernel_rfl : Try.prog.info? 60 = some Try.t60) rfl rfl rfl rfl rfl rfl (fun h => by cases h)
theorem tok64 : TIOk Try.prog 64 ⟨.slice 5, 1, 24, .nils, false⟩ := TIOk.slice Try.underlying64 (by kernel_rfl : Try.prog.info? 64 = some Try.t64) rfl rfl rfl
theorem tok72 : TIOk Try.prog 72 ⟨.func, 1, 8, .nilf, false⟩ := TIOk.func Try.underlying72 (by kernel_rfl : Try.prog.info? 72 = some Try.t72) rfl rfl rfl
theorem tok76 : TIOk Try.prog 76 ⟨.struct [(0, 2), (1, 2), (2, 2), (3, 4), (4, 2), (5, 4), (6, 2), (7, 2)], 8, 64, .agg [.int .i64 0, .int .i64 0, .int .i64 0, .bool false, .int .i64 0, .bool false, .int .i64 0, .int .i64 0], true⟩ := TIOk.struct Try.underlying76 rfl (by kernel_rfl : Try.prog.info? 76 = some Try.t76) rfl rfl rfl rfl rfl rfl (fun _ => ⟨Try.stoodInHeld76, Try.eqGuardType76, by decide, by decide⟩)
theorem tok78 : TIOk Try.prog 78 ⟨.struct [(0, 2), (1, 2), (2, 2), (3, 4), (4, 2), (5, 4), (6, 2), (7, 2)], 8, 64, .agg [.int .i64 0, .int .i64 0, .int .i64 0, .bool false, .int .i64 0, .bool false, .int .i64 0, .int .i64 0], true⟩ := TIOk.struct Try.underlying78 rfl (by kernel_rfl : Try.prog.info? 78 = some Try.t78) rfl rfl rfl rfl rfl rfl (fun _ => ⟨Try.stoodInHeld78, Try.eqGuardType78, by decide, by decide⟩)
theorem tok95 : TIOk Try.prog 95 ⟨.struct [(0, 2), (1, 2), (2, 64)], 3, 40, .agg [.int .i64 0, .int .i64 0, .nils], false⟩ := TIOk.struct Try.underlying95 rfl (by kernel_rfl : Try.prog.info? 95 = some Try.t95) rfl rfl rfl rfl rfl rfl (fun h => by cases h)
theorem tok97 : TIOk Try.prog 97 ⟨.struct [(0, 2), (1, 2), (2, 64)], 3, 40, .agg [.int .i64 0, .int .i64 0, .nils], false⟩ := TIOk.struct Try.underlying97 rfl (by kernel_rfl : Try.prog.info? 97 = some Try.t97) rfl rfl rfl rfl rfl rfl (fun h => by cases h)
theorem tok102 : TIOk Try.prog 102 ⟨.func, 1, 8, .nilf, false⟩ := TIOk.func Try.underlying102 (by kernel_rfl : Try.prog.info? 102 = some Try.t102) rfl rfl rfl
theorem tok106 : TIOk Try.prog 106 ⟨.slice 140, 1, 24, .nils, false⟩ := TIOk.slice Try.underlying106 (by kernel_rfl : Try.prog.info? 106 = some Try.t106) rfl rfl rfl
theorem tok108 : TIOk Try.prog 108 ⟨.struct [(0, 47), (1, 40), (2, 40), (3, 40), (4, 106)], 5, 120, .agg [.nils, .nils, .nils, .nils, .nils], false⟩ := TIOk.struct Try.underlying108 rfl (by kernel_rfl : Try.prog.info? 108 = some Try.t108) rfl rfl rfl rfl rfl rfl (fun h => by cases h)
theorem tok115 : TIOk Try.prog 115 ⟨.func, 1, 8, .nilf, false⟩ := TIOk.func Try.underlying115 (by kernel_rfl : Try.prog.info? 115 = some Try.t115) rfl rfl rfl
theorem tok118 : TIOk Try.prog 118 ⟨.struct [(0, 2), (1, 2)], 2, 16, .agg [.int .i64 0, .int .i64 0], true⟩ := TIOk.struct Try.underlying118 rfl (by kernel_rfl : Try.prog.info? 118 = some Try.t118) rfl rfl rfl rfl rfl rfl (fun _ => ⟨Try.stoodInHeld118, Try.eqGuardType118, by decide, by decide⟩)
theorem tok123 : TIOk Try.prog 123 ⟨.struct [(0, 2), (1, 2)], 2, 16, .agg [.int .i64 0, .int .i64 0], true⟩ := TIOk.struct Try.underlying123 rfl (by kernel_rfl : Try.prog.info? 123 = some Try.t123) rfl rfl rfl rfl rfl rfl (fun _ => ⟨Try.stoodInHeld123, Try.eqGuardType123, by decide, by decide⟩)
theorem tok140 : TIOk Try.prog 140 ⟨.struct [(0, 2), (1, 2)], 2, 16, .agg [.int .i64 0, .int .i64 0], true⟩ := TIOk.struct Try.underlying140 rfl (by kernel_rfl : Try.prog.info? 140 = some Try.t140) rfl rfl rfl rfl rfl rfl (fun _ => ⟨Try.stoodInHeld140, Try.eqGuardType140, by decide, by decide⟩)
theorem tok143 : TIOk Try.prog 143 ⟨.func, 1, 8, .nilf, false⟩ := TIOk.func Try.underlying143 (by kernel_rfl : Try.prog.info? 143 = some Try.t143) rfl rfl rfl
theorem tok147 : TIOk Try.prog 147 ⟨.int .u64, 1, 8, .int .u64 0, false⟩ := TIOk.int Try.underlying147 (by kernel_rfl : Try.prog.info? 147 = some Try.t147) rfl rfl rfl
theorem tok153 : TIOk Try.prog 153 ⟨.int .i64, 1, 8, .int .i64 0, false⟩ := TIOk.int Try.underlying153 (by kernel_rfl : Try.prog.info? 153 = some Try.t153) rfl rfl rfl
theorem tok161 : TIOk Try.prog 161 ⟨.int .u32, 1, 4, .int .u32 0, false⟩ := TIOk.int Try.underlying161 (by kernel_rfl : Try.prog.info? 161 = some Try.t161) rfl rfl rfl
theorem tok163 : TIOk Try.prog 163 ⟨.int .u64, 1, 8, .int .u64 0, false⟩ := TIOk.int Try.underlying163 (by kernel_rfl : Try.prog.info? 163 = some Try.t163) rfl rfl rfl
theorem tok165 : TIOk Try.prog 165 ⟨.int .u64, 1, 8, .int .u64 0, false⟩ := TIOk.int Try.underlying165 (by kernel_rfl : Try.prog.info? 165 = some Try.t165) rfl rfl rfl
theorem tok182 : TIOk Try.prog 182 ⟨.int .u8, 1, 1, .int .u8 0, false⟩ := TIOk.int Try.underlying182 (by kernel_rfl : Try.prog.info? 182 = some Try.t182) rfl rfl rfl
def tab : List (Nat × TI) := [
  (1, ⟨.func, 1, 8, .nilf, false⟩),
  (2, ⟨.int .i64, 1, 8, .int .i64 0, false⟩),
  (3, ⟨.int .i64, 1, 8, .int .i64 0, false⟩),
  (4, ⟨.bool, 1, 1, .bool false, false⟩),
  (5, ⟨.int .u8, 1, 1, .int .u8 0, false⟩),
  (6, ⟨.int .u8, 1, 1, .int .u8 0, false⟩),
  (9, ⟨.str, 1, 16, .str ⟨#[]⟩, false⟩),
  (10, ⟨.str, 1, 16, .str ⟨#[]⟩, false⟩),
  (11, ⟨.str, 1, 16, .str ⟨#[]⟩, false⟩),
  (12, ⟨.int .u64, 1, 8, .int .u64 0, false⟩),
  (22, ⟨.slice 64, 1, 24, .nils, false⟩),
  (23, ⟨.slice 95, 1, 24, .nils, false⟩),
  (25, ⟨.struct [(0, 22), (1, 23)], 2, 48, .agg [.nils, .nils], false⟩),
  (28, ⟨.slice 97, 1, 24, .nils, false⟩),
  (30, ⟨.struct [(0, 22), (1, 28)], 2, 48, .agg [.nils, .nils], false⟩),
  (33, ⟨.slice 78, 1, 24, .nils, false⟩),
  (36, ⟨.slice 76, 1, 24, .nils, false⟩),
  (40, ⟨.slice 2, 1, 24, .nils, false⟩),
  (42, ⟨.struct [(0, 2), (1, 40)], 2, 32, .agg [.int .i64 0, .nils], false⟩),
  (47, ⟨.slice 123, 1, 24, .nils, false⟩),
  (49, ⟨.struct [(0, 2), (1, 47)], 2, 32, .agg [.int .i64 0, .nils], false⟩),
  (58, ⟨.struct [(0, 2), (1, 2), (2, 47)], 3, 40, .agg [.int .i64 0, .int .i64 0, .nils], false⟩),
  (60, ⟨.struct [(0, 2), (1, 58)], 4, 48, .agg [.int .i64 0, .int .i64 0, .int .i64 0, .nils], false⟩),
  (64, ⟨.slice 5, 1, 24, .nils, false⟩),
  (72, ⟨.func, 1, 8, .nilf, false⟩),
  (76, ⟨.struct [(0, 2), (1, 2), (2, 2), (3, 4), (4, 2), (5, 4), (6, 2), (7, 2)], 8, 64, .agg [.int .i64 0, .int .i64 0, .int .i64 0, .bool false, .int .i64 0, .bool false, .int .i64 0, .int .i64 0], true⟩),
  (78, ⟨.struct [(0, 2), (1, 2), (2, 2), (3, 4), (4, 2), (5, 4), (6, 2), (7, 2)], 8, 64, .agg [.int .i64 0, .int .i64 0, .int .i64 0, .bool false, .int .i64 0, .bool false, .int .i64 0, .int .i64 0], true⟩),
  (95, ⟨.struct [(0, 2), (1, 2), (2, 64)], 3, 40, .agg [.int .i64 0, .int .i64 0, .nils], false⟩),
  (97, ⟨.struct [(0, 2), (1, 2), (2, 64)], 3, 40, .agg [.int .i64 0, .int .i64 0, .nils], false⟩),
  (102, ⟨.func, 1, 8, .nilf, false⟩),
  (106, ⟨.slice 140, 1, 24, .nils, false⟩),
  (108, ⟨.struct [(0, 47), (1, 40), (2, 40), (3, 40), (4, 106)], 5, 120, .agg [.nils, .nils, .nils, .nils, .nils], false⟩),
  (115, ⟨.func, 1, 8, .nilf, false⟩),
  (118, ⟨.struct [(0, 2), (1, 2)], 2, 16, .agg [.int .i64 0, .int .i64 0], true⟩),
  (123, ⟨.struct [(0, 2), (1, 2)], 2, 16, .agg [.int .i64 0, .int .i64 0], true⟩),
  (140, ⟨.struct [(0, 2), (1, 2)], 2, 16, .agg [.int .i64 0, .int .i64 0], true⟩),
  (143, ⟨.func, 1, 8, .nilf, false⟩),
  (147, ⟨.int .u64, 1, 8, .int .u64 0, false⟩),
  (153, ⟨.int .i64, 1, 8, .int .i64 0, false⟩),
  (161, ⟨.int .u32, 1, 4, .int .u32 0, false⟩),
  (163, ⟨.int .u64, 1, 8, .int .u64 0, false⟩),
  (165, ⟨.int .u64, 1, 8, .int .u64 0, false⟩),
  (182, ⟨.int .u8, 1, 1, .int .u8 0, false⟩)]
noncomputable def T : TE := lookT tab
theorem hT : TEOk Try.prog T := TEOk.of_tab tab (by
  intro p hp
  simp only [tab, List.mem_cons, List.not_mem_nil, or_false] at hp
  rcases hp with rfl | rfl | rfl | rfl | rfl | rfl | rfl | rfl | rfl | rfl | rfl | rfl | rfl | rfl | rfl | rfl | rfl | rfl | rfl | rfl | rfl | rfl | rfl | rfl | rfl | rfl | rfl | rfl | rfl | rfl | rfl | rfl | rfl | rfl | rfl | rfl | rfl | rfl | rfl | rfl | rfl | rfl | rfl
  · exact tok1
  · exact tok2
  · exact tok3
  · exact tok4
  · exact tok5
  · exact tok6
  · exact tok9
  · exact tok10
  · exact tok11
  · exact tok12
  · exact tok22
  · exact tok23
  · exact tok25
  · exact tok28
  · exact tok30
  · exact tok33
  · exact tok36
  · exact tok40
  · exact tok42
  · exact tok47
  · exact tok49
  · exact tok58
  · exact tok60
  · exact tok64
  · exact tok72
  · exact tok76
  · exact tok78
  · exact tok95
  · exact tok97
  · exact tok102
  · exact tok106
  · exact tok108
  · exact tok115
  · exact tok118
  · exact tok123
  · exact tok140
  · exact tok143
  · exact tok147
  · exact tok153
  · exact tok161
  · exact tok163
  · exact tok165
  · exact tok182)
theorem hM : Try.prog.follows .mixedOrders = true := by kernel_rfl
def tpL : List (Nat × PT) := [
  (2, .int .i64),
  (3, .int .i64),
  (4, .bool),
  (5, .int .u8),
  (6, .int .u8),
  (9, .str),
  (10, .str),
  (11, .str),
  (12, .int .u64),
  (22, .list (.list (.int .u8))),
  (23, .list (.rcd .loose)),
  (25, .rcd .disk),
  (28, .list (.rcd .loose)),
  (30, .rcd .disk),
  (33, .list (.rcd .rcrd)),
  (36, .list (.rcd .rcrd)),
  (40, .list (.int .i64)),
  (42, .rcd .intsResult),
  (47, .list (.rcd .cell)),
  (49, .rcd .cellsResult),
  (58, .rcd .page),
  (60, .rcd .pageResult),
  (64, .list (.int .u8)),
  (76, .rcd .rcrd),
  (78, .rcd .rcrd),
  (95, .rcd .loose),
  (97, .rcd .loose),
  (106, .list (.rcd .held)),
  (108, .rcd .l13Sim),
  (118, .rcd .intResult),
  (123, .rcd .cell),
  (140, .rcd .held),
  (147, .int .u64),
  (153, .int .i64),
  (161, .int .u32),
  (163, .int .u64),
  (165, .int .u64),
  (182, .int .u8)]
noncomputable def pg : Pg := ⟨Try.prog, T, lkp tpL⟩
end Go.Proofs.Ytcngfjmfgeckmaa
end
section
namespace Go.Proofs.Ytcngfjmfgeckmaa
open Go
set_option maxRecDepth 100000
set_option linter.unusedVariables false
noncomputable section
def codeOf (f : Func) : Code := match f.body with | some c => c | none => .skip
def upto (n : Nat) : List Nat := List.range n
theorem gkP : POk pg := pok_of hT (by kernel_rfl)
noncomputable def fv0 : FnA := ⟨⟨98, codeOf Try.f39, [.tmp 4]⟩, .seq (.reg (upto 1)) (.seq (.reg (upto 11)) (.seq (.seq (.reg (upto 1)) (.block (.loop ⟨[5, 6, 7, 8, 9, 20, 21, 22, 23, 24, 25, 26, 27, 28, 29, 30, 31, 32, 33, 34, 35, 36, 37, 38, 39, 40, 41, 42, 43, 44, 45, 46, 47, 48, 49, 50, 51, 52, 53, 54, 55, 56, 57, 58, 59, 60, 61, 62, 63, 64, 65, 66, 67, 68, 69, 70, 71, 72, 73, 74, 75, 76, 77, 78, 79, 80, 81, 82, 83, 84, 85, 86, 87, 88, 89, 90, 91, 92, 93, 94, 95, 96], [(.row, (.tmp 5))], false, [((.exit 0), ⟨[(5, .row 0)], [.row 0 true (.list (.int .u8))]⟩)]⟩ ⟨[(5, .row 0), (6, .int .i64)], [.row 0 true (.list (.int .u8))]⟩ (.seq (.seq (.reg (upto 8)) (.cond (.leaf) (.leaf))) (.seq (.join ⟨[5, 7, 8, 9, 30, 31, 32, 33, 34, 35, 36, 37, 38, 39, 40, 41, 42, 43, 44, 45, 46, 47, 48, 49, 50, 51, 52, 53, 54, 55, 56, 57, 58, 59, 60, 61, 62, 63, 64, 65, 66, 67, 68, 69, 70, 71, 72, 73, 74, 75, 76, 77, 78, 79, 80, 81, 82, 83, 84, 85, 86, 87, 88, 89, 90, 91, 92, 93, 94, 95, 96], [(.row, (.tmp 5))], false, [(.normal, ⟨[(5, .row 0)], [.row 0 true (.list (.int .u8))]⟩)]⟩ (.block (.seq (.reg (upto 9)) (.seq (.reg (upto 10)) (.seq (.reg (upto 10)) (.seq (.join ⟨[53, 54, 55, 56, 57, 58, 59, 60, 61, 62, 63, 64, 65, 66, 67, 68, 69, 70, 71, 72, 73, 74, 75, 76, 77, 78, 79, 80, 81, 82, 83], [], true, [(.normal, ⟨[(83, .bool)], []⟩)]⟩ (.reg (upto 31))) (.cond (.draw [(.tmp 5)] [(0, 0), (2, 0), (3, 1), (5, 0), (6, 1), (8, 0), (9, 1), (1, 2), (4, 2), (7, 2), (10, 2), (11, 2), (12, 2), (13, 4)]) (.leaf)))))))) (.reg (upto 3))))))) (.seq (.reg (upto 2)) (.leaf))))⟩
theorem fov0 : FnOk Try.prog 39 fv0 := ⟨Try.call39, Try.f39, Try.func39, by kernel_rfl, rfl, rfl, by kernel_rfl⟩
noncomputable def fv1 : FnA := ⟨⟨9, codeOf Try.f45, [.tmp 4]⟩, .seq (.reg (upto 1)) (.seq (.reg (upto 5)) (.leaf))⟩
theorem fov1 : FnOk Try.prog 45 fv1 := ⟨Try.call45, Try.f45, Try.func45, by kernel_rfl, rfl, rfl, by kernel_rfl⟩
noncomputable def fv2 : FnA := ⟨⟨9, codeOf Try.f45, [.tmp 4]⟩, .seq (.reg (upto 1)) (.seq (.reg (upto 5)) (.leaf))⟩
theorem fov2 : FnOk Try.prog 45 fv2 := ⟨Try.call45, Try.f45, Try.func45, by kernel_rfl, rfl, rfl, by kernel_rfl⟩
noncomputable def fv3 : FnA := ⟨⟨12, codeOf Try.f47, [.tmp 4]⟩, .seq (.reg (upto 1)) (.seq (.reg (upto 8)) (.leaf))⟩
theorem fov3 : FnOk Try.prog 47 fv3 := ⟨Try.call47, Try.f47, Try.func47, by kernel_rfl, rfl, rfl, by kernel_rfl⟩
noncomputable def fv4 : FnA := ⟨⟨26, codeOf Try.f48, [.tmp 4]⟩, .join ⟨[4, 5, 6, 7, 8, 9, 10, 11, 12, 13, 14, 15, 16, 17, 18, 19, 20, 21, 22, 23, 24, 25], [], true, [(.ret, ⟨[(4, .bool)], []⟩)]⟩ (.seq (.reg (upto 1)) (.seq (.seq (.reg (upto 5)) (.cond (.seq (.reg (upto 1)) (.leaf)) (.leaf))) (.seq (.seq (.reg (upto 3)) (.block (.loop ⟨[4, 5, 13, 14, 15, 16, 17, 18, 19, 20, 21, 22, 23, 24, 25], [], true, [((.exit 0), ⟨[], []⟩), (.ret, ⟨[(4, .bool)], []⟩)]⟩ ⟨[(13, .int .i64)], []⟩ (.seq (.reg (upto 1)) (.seq (.cond (.leaf) (.leaf)) (.seq (.block (.seq (.reg (upto 2)) (.seq (.draw [] [(0, 0), (1, 0), (2, 1), (3, 1), (4, 0), (5, 0), (6, 1), (7, 1), (8, 0)]) (.cond (.seq (.reg (upto 1)) (.leaf)) (.leaf))))) (.reg (upto 2)))))))) (.seq (.reg (upto 1)) (.leaf)))))⟩
theorem fov4 : FnOk Try.prog 48 fv4 := ⟨Try.call48, Try.f48, Try.func48, by kernel_rfl, rfl, rfl, by kernel_rfl⟩
noncomputable def fv5 : FnA := ⟨⟨26, codeOf Try.f48, [.tmp 4]⟩, .join ⟨[4, 5, 6, 7, 8, 9, 10, 11, 12, 13, 14, 15, 16, 17, 18, 19, 20, 21, 22, 23, 24, 25], [], true, [(.ret, ⟨[(4, .bool)], []⟩)]⟩ (.seq (.reg (upto 1)) (.seq (.seq (.reg (upto 5)) (.cond (.seq (.reg (upto 1)) (.leaf)) (.leaf))) (.seq (.seq (.reg (upto 3)) (.block (.loop ⟨[4, 5, 13, 14, 15, 16, 17, 18, 19, 20, 21, 22, 23, 24, 25], [], true, [((.exit 0), ⟨[], []⟩), (.ret, ⟨[(4, .bool)], []⟩)]⟩ ⟨[(13, .int .i64)], []⟩ (.seq (.reg (upto 1)) (.seq (.cond (.leaf) (.leaf)) (.seq (.block (.seq (.reg (upto 2)) (.seq (.draw [] [(0, 0), (1, 0), (2, 1), (3, 1), (4, 0), (5, 0), (6, 1), (7, 1), (8, 0)]) (.cond (.seq (.reg (upto 1)) (.leaf)) (.leaf))))) (.reg (upto 2)))))))) (.seq (.reg (upto 1)) (.leaf)))))⟩
theorem fov5 : FnOk Try.prog 48 fv5 := ⟨Try.call48, Try.f48, Try.func48, by kernel_rfl, rfl, rfl, by kernel_rfl⟩
noncomputable def fv6 : FnA := ⟨⟨28, codeOf Try.f79, []⟩, .seq (.reg (upto 1)) (.seq (.reg (upto 1)) (.block (.loop ⟨[4, 5, 6, 7, 8, 9, 10, 11, 12, 13, 14, 15, 16, 17, 18, 19, 20, 21, 22, 23, 24, 25, 26, 27], [(.row, (.fld (.tmp 0) 0))], false, [((.exit 0), ⟨[], [.rowK 0 true]⟩)]⟩ ⟨[(4, .int .i64)], [.rowK 0 true]⟩ (.seq (.seq (.reg (upto 2)) (.cond (.leaf) (.leaf))) (.seq (.block (.draw [] [(0, 0), (1, 0), (2, 0), (3, 1), (4, 0), (5, 1), (6, 1), (7, 1), (8, 0), (9, 1), (10, 0), (11, 0), (12, 0), (13, 0), (14, 1), (15, 0), (16, 1), (17, 1), (18, 4), (19, 4)])) (.reg (upto 3)))))))⟩
theorem fov6 : FnOk Try.prog 79 fv6 := ⟨Try.call79, Try.f79, Try.func79, by kernel_rfl, rfl, rfl, by kernel_rfl⟩
noncomputable def fv7 : FnA := ⟨⟨6, codeOf Try.f83, [.tmp 2]⟩, .seq (.reg (upto 1)) (.seq (.reg (upto 4)) (.leaf))⟩
theorem fov7 : FnOk Try.prog 83 fv7 := ⟨Try.call83, Try.f83, Try.func83, by kernel_rfl, rfl, rfl, by kernel_rfl⟩
noncomputable def fv8 : FnA := ⟨⟨19, codeOf Try.f88, [.tmp 4]⟩, .join ⟨[4, 5, 6, 7, 8, 9, 10, 11, 12, 13, 14, 15, 16, 17, 18], [], true, [(.ret, ⟨[(4, .int .i64)], []⟩)]⟩ (.seq (.reg (upto 1)) (.seq (.seq (.reg (upto 3)) (.block (.loop ⟨[4, 5, 8, 9, 10, 11, 12, 13, 14, 15, 16, 17, 18], [], true, [((.exit 0), ⟨[], []⟩), (.ret, ⟨[(4, .int .i64)], []⟩)]⟩ ⟨[(8, .int .i64)], []⟩ (.seq (.reg (upto 1)) (.seq (.cond (.leaf) (.leaf)) (.seq (.block (.seq (.reg (upto 2)) (.seq (.reg (upto 6)) (.cond (.seq (.reg (upto 2)) (.leaf)) (.leaf))))) (.reg (upto 2)))))))) (.seq (.reg (upto 1)) (.leaf))))⟩
theorem fov8 : FnOk Try.prog 88 fv8 := ⟨Try.call88, Try.f88, Try.func88, by kernel_rfl, rfl, rfl, by kernel_rfl⟩
noncomputable def fv9 : FnA := ⟨⟨19, codeOf Try.f88, [.tmp 4]⟩, .join ⟨[4, 5, 6, 7, 8, 9, 10, 11, 12, 13, 14, 15, 16, 17, 18], [], true, [(.ret, ⟨[(4, .int .i64)], []⟩)]⟩ (.seq (.reg (upto 1)) (.seq (.seq (.reg (upto 3)) (.block (.loop ⟨[4, 5, 8, 9, 10, 11, 12, 13, 14, 15, 16, 17, 18], [], true, [((.exit 0), ⟨[], []⟩), (.ret, ⟨[(4, .int .i64)], []⟩)]⟩ ⟨[(8, .int .i64)], []⟩ (.seq (.reg (upto 1)) (.seq (.cond (.leaf) (.leaf)) (.seq (.block (.seq (.reg (upto 2)) (.seq (.reg (upto 6)) (.cond (.seq (.reg (upto 2)) (.leaf)) (.leaf))))) (.reg (upto 2)))))))) (.seq (.reg (upto 1)) (.leaf))))⟩
theorem fov9 : FnOk Try.prog 88 fv9 := ⟨Try.call88, Try.f88, Try.func88, by kernel_rfl, rfl, rfl, by kernel_rfl⟩
noncomputable def fv10 : FnA := ⟨⟨23, codeOf Try.f146, [.tmp 6]⟩, .seq (.reg (upto 1)) (.seq (.seq (.reg (upto 3)) (.block (.loop ⟨[0, 7, 10, 11, 12, 13, 14, 15, 16, 17, 18, 19, 20, 21], [], false, [((.exit 0), ⟨[(0, .row 0)], [.row 0 true (.int .u8)]⟩)]⟩ ⟨[(0, .row 0), (7, .int .i64)], [.row 0 true (.int .u8)]⟩ (.seq (.seq (.reg (upto 2)) (.cond (.leaf) (.leaf))) (.seq (.block (.reg (upto 9))) (.reg (upto 3))))))) (.seq (.reg (upto 2)) (.leaf)))⟩
theorem fov10 : FnOk Try.prog 146 fv10 := ⟨Try.call146, Try.f146, Try.func146, by kernel_rfl, rfl, rfl, by kernel_rfl⟩
noncomputable def fv11 : FnA := ⟨⟨23, codeOf Try.f146, [.tmp 6]⟩, .seq (.reg (upto 1)) (.seq (.seq (.reg (upto 3)) (.block (.loop ⟨[0, 7, 10, 11, 12, 13, 14, 15, 16, 17, 18, 19, 20, 21], [(.row, (.tmp 0))], false, [((.exit 0), ⟨[(0, .row 0)], [.row 0 true (.int .u8)]⟩)]⟩ ⟨[(0, .row 0), (7, .int .i64)], [.row 0 true (.int .u8)]⟩ (.seq (.seq (.reg (upto 2)) (.cond (.leaf) (.leaf))) (.seq (.block (.reg (upto 9))) (.reg (upto 3))))))) (.seq (.reg (upto 2)) (.leaf)))⟩
theorem fov11 : FnOk Try.prog 146 fv11 := ⟨Try.call146, Try.f146, Try.func146, by kernel_rfl, rfl, rfl, by kernel_rfl⟩
noncomputable def fnsT : List (FuncId × List Nat × FnA) := [(39, [12, 4, 4, 0], fv0), (45, [4, 17], fv1), (45, [6, 17], fv2), (47, [8, 12, 6, 0, 6, 0, 12, 0], fv3), (48, [6, 4], fv4), (48, [8, 8], fv5), (79, [12, 6, 0, 6, 0, 15], fv6), (83, [4], fv7), (88, [4, 17], fv8), (88, [6, 17], fv9), (146, [3, 0, 0], fv10), (146, [6, 0, 0], fv11)]
theorem fnsOk : FnsOk Try.prog fnsT := (fnsS fov0 (fnsS fov1 (fnsS fov2 (fnsS fov3 (fnsS fov4 (fnsS fov5 (fnsS fov6 (fnsS fov7 (fnsS fov8 (fnsS fov9 (fnsS fov10 (fnsS fov11 (fns0 _)))))))))))))
noncomputable def spsT : List (FuncId × Spc) := []
theorem spsOk : SpsOk Try.prog spsT := (sps0 _)
noncomputable def cs0 (fu : Nat) : List (FuncId × Con) := [(89, ⟨⟨[.val (.list (.int .u8))], [(true, .list (.int .u8))]⟩, false, fun x => cloneI 1 fu x⟩)]
theorem ck0 (fu : Nat) : ConsOk Try.prog (cs0 fu) := (consS (clone_ok (s := 64) (bt := 4) (e := 5) (t := .int .u8) hT Try.call89 Try.func89 (by kernel_rfl) rfl rfl rfl rfl rfl fu) (cons0 _))
noncomputable def fa75 : FnA := ⟨⟨12, codeOf Try.f75, [.tmp 4]⟩, .seq (.reg (upto 1)) (.seq (.reg (upto 5)) (.seq (.seq (.reg (upto 2)) (.cond (.seq (.reg (upto 1)) (.leaf)) (.leaf))) (.seq (.reg (upto 2)) (.leaf))))⟩
theorem fo75 : FnOk Try.prog 75 fa75 := ⟨Try.call75, Try.f75, Try.func75, by kernel_rfl, rfl, rfl, by kernel_rfl⟩
noncomputable def sg75 : Sg := ⟨[.val (.list (.int .u8)), .val (.int .i64)], [(false, .int .i64)]⟩
theorem rf75 (fu : Nat) (x0 : List Int) (x1 : Int) : model pg (callN pg fu ⟨cs0 fu, spsT, fnsT⟩ 12) fu fa75 sg75 (x0, x1) = m_l_szByteS fu x0 x1 := by kernel_rfl
noncomputable def cs75 (fu : Nat) : List (FuncId × Con) := (75, ⟨sg75, false, fun x => m_l_szByteS fu x.1 x.2⟩) :: cs0 fu
theorem ck75 (fu : Nat) : ConsOk Try.prog (cs75 fu) := step_ok hT hM gkP (ck0 fu) spsOk fnsOk fo75 fun x => rf75 fu x.1 x.2
noncomputable def fa34 : FnA := ⟨⟨27, codeOf Try.f34, [.tmp 4]⟩, .seq (.reg (upto 1)) (.seq (.reg (upto 5)) (.seq (.seq (.reg (upto 2)) (.cond (.seq (.reg (upto 1)) (.leaf)) (.leaf))) (.seq (.seq (.reg (upto 1)) (.block (.loop ⟨[1, 4, 5, 12, 13, 14, 15, 16, 17, 18, 19, 20, 21, 22, 23, 24, 25], [], true, [((.exit 0), ⟨[(1, .int .i64)], []⟩), (.ret, ⟨[(4, .int .i64)], []⟩)]⟩ ⟨[(1, .int .i64), (5, .int .i64)], []⟩ (.seq (.seq (.reg (upto 4)) (.cond (.leaf) (.leaf))) (.seq (.block (.seq (.reg (upto 7)) (.seq (.reg (upto 2)) (.cond (.seq (.reg (upto 1)) (.leaf)) (.leaf))))) (.reg (upto 3))))))) (.seq (.reg (upto 2)) (.leaf)))))⟩
theorem fo34 : FnOk Try.prog 34 fa34 := ⟨Try.call34, Try.f34, Try.func34, by kernel_rfl, rfl, rfl, by kernel_rfl⟩
noncomputable def sg34 : Sg := ⟨[.val (.list (.list (.int .u8))), .val (.int .i64)], [(false, .int .i64)]⟩
theorem rf34 (fu : Nat) (x0 : List (List Int)) (x1 : Int) : model pg (callN pg fu ⟨cs75 fu, spsT, fnsT⟩ 12) fu fa34 sg34 (x0, x1) = m_l_szByteSS fu x0 x1 := by kernel_rfl
noncomputable def cs34 (fu : Nat) : List (FuncId × Con) := (34, ⟨sg34, false, fun x => m_l_szByteSS fu x.1 x.2⟩) :: cs75 fu
theorem ck34 (fu : Nat) : ConsOk Try.prog (cs34 fu) := step_ok hT hM gkP (ck75 fu) spsOk fnsOk fo34 fun x => rf34 fu x.1 x.2
noncomputable def fa76 : FnA := ⟨⟨12, codeOf Try.f76, [.tmp 4]⟩, .seq (.reg (upto 2)) (.seq (.reg (upto 5)) (.seq (.seq (.reg (upto 2)) (.cond (.seq (.reg (upto 1)) (.leaf)) (.leaf))) (.seq (.reg (upto 2)) (.leaf))))⟩
theorem fo76 : FnOk Try.prog 76 fa76 := ⟨Try.call76, Try.f76, Try.func76, by kernel_rfl, rfl, rfl, by kernel_rfl⟩
noncomputable def sg76 : Sg := ⟨[.val (.rcd .loose), .val (.int .i64)], [(false, .int .i64)]⟩
theorem rf76 (fu : Nat) (x0 : LooseD) (x1 : Int) : model pg (callN pg fu ⟨cs34 fu, spsT, fnsT⟩ 12) fu fa76 sg76 (x0, x1) = m_l_szLoose fu x0 x1 := by kernel_rfl
noncomputable def cs76 (fu : Nat) : List (FuncId × Con) := (76, ⟨sg76, false, fun x => m_l_szLoose fu x.1 x.2⟩) :: cs34 fu
theorem ck76 (fu : Nat) : ConsOk Try.prog (cs76 fu) := step_ok hT hM gkP (ck34 fu) spsOk fnsOk fo76 fun x => rf76 fu x.1 x.2
noncomputable def fa35 : FnA := ⟨⟨27, codeOf Try.f35, [.tmp 4]⟩, .seq (.reg (upto 1)) (.seq (.reg (upto 5)) (.seq (.seq (.reg (upto 2)) (.cond (.seq (.reg (upto 1)) (.leaf)) (.leaf))) (.seq (.seq (.reg (upto 1)) (.block (.loop ⟨[1, 4, 5, 12, 13, 14, 15, 16, 17, 18, 19, 20, 21, 22, 23, 24, 25], [], true, [((.exit 0), ⟨[(1, .int .i64)], []⟩), (.ret, ⟨[(4, .int .i64)], []⟩)]⟩ ⟨[(1, .int .i64), (5, .int .i64)], []⟩ (.seq (.seq (.reg (upto 4)) (.cond (.leaf) (.leaf))) (.seq (.block (.seq (.reg (upto 7)) (.seq (.reg (upto 2)) (.cond (.seq (.reg (upto 1)) (.leaf)) (.leaf))))) (.reg (upto 3))))))) (.seq (.reg (upto 2)) (.leaf)))))⟩
theorem fo35 : FnOk Try.prog 35 fa35 := ⟨Try.call35, Try.f35, Try.func35, by kernel_rfl, rfl, rfl, by kernel_rfl⟩
noncomputable def sg35 : Sg := ⟨[.val (.list (.rcd .loose)), .val (.int .i64)], [(false, .int .i64)]⟩
theorem rf35 (fu : Nat) (x0 : List LooseD) (x1 : Int) : model pg (callN pg fu ⟨cs76 fu, spsT, fnsT⟩ 12) fu fa35 sg35 (x0, x1) = m_l_szLooseS fu x0 x1 := by kernel_rfl
noncomputable def cs35 (fu : Nat) : List (FuncId × Con) := (35, ⟨sg35, false, fun x => m_l_szLooseS fu x.1 x.2⟩) :: cs76 fu
theorem ck35 (fu : Nat) : ConsOk Try.prog (cs35 fu) := step_ok hT hM gkP (ck76 fu) spsOk fnsOk fo35 fun x => rf35 fu x.1 x.2
noncomputable def fa9 : FnA := ⟨⟨18, codeOf Try.f9, [.tmp 4]⟩, .seq (.reg (upto 2)) (.seq (.reg (upto 5)) (.seq (.seq (.reg (upto 2)) (.cond (.seq (.reg (upto 1)) (.leaf)) (.leaf))) (.seq (.reg (upto 5)) (.seq (.seq (.reg (upto 2)) (.cond (.seq (.reg (upto 1)) (.leaf)) (.leaf))) (.seq (.reg (upto 2)) (.leaf))))))⟩
theorem fo9 : FnOk Try.prog 9 fa9 := ⟨Try.call9, Try.f9, Try.func9, by kernel_rfl, rfl, rfl, by kernel_rfl⟩
noncomputable def sg9 : Sg := ⟨[.val (.rcd .disk), .val (.int .i64)], [(false, .int .i64)]⟩
theorem rf9 (fu : Nat) (x0 : DiskD) (x1 : Int) : model pg (callN pg fu ⟨cs35 fu, spsT, fnsT⟩ 12) fu fa9 sg9 (x0, x1) = m_l_szDisk fu x0 x1 := by kernel_rfl
noncomputable def cs9 (fu : Nat) : List (FuncId × Con) := (9, ⟨sg9, false, fun x => m_l_szDisk fu x.1 x.2⟩) :: cs35 fu
theorem ck9 (fu : Nat) : ConsOk Try.prog (cs9 fu) := step_ok hT hM gkP (ck35 fu) spsOk fnsOk fo9 fun x => rf9 fu x.1 x.2
noncomputable def fa81 : FnA := ⟨⟨22, codeOf Try.f81, [.tmp 2]⟩, .seq (.reg (upto 1)) (.seq (.reg (upto 4)) (.seq (.seq (.reg (upto 1)) (.block (.loop ⟨[4, 8, 9, 10, 11, 12, 13, 14, 15, 16, 17, 18, 19, 20], [(.row, (.tmp 3))], false, [((.exit 0), ⟨[], [.rowK 0 true]⟩)]⟩ ⟨[(4, .int .i64)], [.rowK 0 true]⟩ (.seq (.seq (.reg (upto 4)) (.cond (.leaf) (.leaf))) (.seq (.block (.reg (upto 8))) (.reg (upto 3))))))) (.seq (.reg (upto 2)) (.leaf))))⟩
theorem fo81 : FnOk Try.prog 81 fa81 := ⟨Try.call81, Try.f81, Try.func81, by kernel_rfl, rfl, rfl, by kernel_rfl⟩
noncomputable def sg81 : Sg := ⟨[.val (.list (.int .u8))], [(true, .list (.int .u8))]⟩
theorem rf81 (fu : Nat) (x0 : List Int) : model pg (callN pg fu ⟨cs9 fu, spsT, fnsT⟩ 12) fu fa81 sg81 x0 = m_l_toByteS fu x0 := by kernel_rfl
noncomputable def cs81 (fu : Nat) : List (FuncId × Con) := (81, ⟨sg81, false, fun x => m_l_toByteS fu x⟩) :: cs9 fu
theorem ck81 (fu : Nat) : ConsOk Try.prog (cs81 fu) := step_ok hT hM gkP (ck9 fu) spsOk fnsOk fo81 fun x => rf81 fu x
noncomputable def fa40 : FnA := ⟨⟨23, codeOf Try.f40, [.tmp 2]⟩, .seq (.reg (upto 1)) (.seq (.reg (upto 4)) (.seq (.seq (.reg (upto 1)) (.block (.loop ⟨[4, 8, 9, 10, 11, 12, 13, 14, 15, 16, 17, 18, 19, 20, 21], [(.row, (.tmp 3))], false, [((.exit 0), ⟨[], [.rowK 0 false]⟩)]⟩ ⟨[(4, .int .i64)], [.rowK 0 false]⟩ (.seq (.seq (.reg (upto 4)) (.cond (.leaf) (.leaf))) (.seq (.block (.reg (upto 9))) (.reg (upto 3))))))) (.seq (.reg (upto 2)) (.leaf))))⟩
theorem fo40 : FnOk Try.prog 40 fa40 := ⟨Try.call40, Try.f40, Try.func40, by kernel_rfl, rfl, rfl, by kernel_rfl⟩
noncomputable def sg40 : Sg := ⟨[.val (.list (.list (.int .u8)))], [(true, .list (.list (.int .u8)))]⟩
theorem rf40 (fu : Nat) (x0 : List (List Int)) : model pg (callN pg fu ⟨cs81 fu, spsT, fnsT⟩ 12) fu fa40 sg40 x0 = m_l_toByteSS fu x0 := by kernel_rfl
noncomputable def cs40 (fu : Nat) : List (FuncId × Con) := (40, ⟨sg40, false, fun x => m_l_toByteSS fu x⟩) :: cs81 fu
theorem ck40 (fu : Nat) : ConsOk Try.prog (cs40 fu) := step_ok hT hM gkP (ck81 fu) spsOk fnsOk fo40 fun x => rf40 fu x
noncomputable def fa82 : FnA := ⟨⟨15, codeOf Try.f82, [.cell 2 97]⟩, .seq (.reg (upto 2)) (.seq (.reg (upto 1)) (.seq (.reg (upto 4)) (.seq (.reg (upto 4)) (.seq (.reg (upto 5)) (.seq (.reg (upto 2)) (.leaf))))))⟩
theorem fo82 : FnOk Try.prog 82 fa82 := ⟨Try.call82, Try.f82, Try.func82, by kernel_rfl, rfl, rfl, by kernel_rfl⟩
noncomputable def sg82 : Sg := ⟨[.val (.rcd .loose)], [(true, .rcd .loose)]⟩
theorem rf82 (fu : Nat) (x0 : LooseD) : model pg (callN pg fu ⟨cs40 fu, spsT, fnsT⟩ 12) fu fa82 sg82 x0 = m_l_toLoose fu x0 := by kernel_rfl
noncomputable def cs82 (fu : Nat) : List (FuncId × Con) := (82, ⟨sg82, false, fun x => m_l_toLoose fu x⟩) :: cs40 fu
theorem ck82 (fu : Nat) : ConsOk Try.prog (cs82 fu) := step_ok hT hM gkP (ck40 fu) spsOk fnsOk fo82 fun x => rf82 fu x
noncomputable def fa41 : FnA := ⟨⟨23, codeOf Try.f41, [.tmp 2]⟩, .seq (.reg (upto 1)) (.seq (.reg (upto 4)) (.seq (.seq (.reg (upto 1)) (.block (.loop ⟨[4, 8, 9, 10, 11, 12, 13, 14, 15, 16, 17, 18, 19, 20, 21], [(.row, (.tmp 3))], false, [((.exit 0), ⟨[], [.rowK 0 false]⟩)]⟩ ⟨[(4, .int .i64)], [.rowK 0 false]⟩ (.seq (.seq (.reg (upto 4)) (.cond (.leaf) (.leaf))) (.seq (.block (.reg (upto 9))) (.reg (upto 3))))))) (.seq (.reg (upto 2)) (.leaf))))⟩
theorem fo41 : FnOk Try.prog 41 fa41 := ⟨Try.call41, Try.f41, Try.func41, by kernel_rfl, rfl, rfl, by kernel_rfl⟩
noncomputable def sg41 : Sg := ⟨[.val (.list (.rcd .loose))], [(true, .list (.rcd .loose))]⟩
theorem rf41 (fu : Nat) (x0 : List LooseD) : model pg (callN pg fu ⟨cs82 fu, spsT, fnsT⟩ 12) fu fa41 sg41 x0 = m_l_toLooseS fu x0 := by kernel_rfl
noncomputable def cs41 (fu : Nat) : List (FuncId × Con) := (41, ⟨sg41, false, fun x => m_l_toLooseS fu x⟩) :: cs82 fu
theorem ck41 (fu : Nat) : ConsOk Try.prog (cs41 fu) := step_ok hT hM gkP (ck82 fu) spsOk fnsOk fo41 fun x => rf41 fu x
noncomputable def fa11 : FnA := ⟨⟨13, codeOf Try.f11, [.cell 2 30]⟩, .seq (.reg (upto 2)) (.seq (.reg (upto 1)) (.seq (.reg (upto 5)) (.seq (.reg (upto 5)) (.seq (.reg (upto 2)) (.leaf)))))⟩
theorem fo11 : FnOk Try.prog 11 fa11 := ⟨Try.call11, Try.f11, Try.func11, by kernel_rfl, rfl, rfl, by kernel_rfl⟩
noncomputable def sg11 : Sg := ⟨[.val (.rcd .disk)], [(true, .rcd .disk)]⟩
theorem rf11 (fu : Nat) (x0 : DiskD) : model pg (callN pg fu ⟨cs41 fu, spsT, fnsT⟩ 12) fu fa11 sg11 x0 = m_l_toDisk fu x0 := by kernel_rfl
noncomputable def cs11 (fu : Nat) : List (FuncId × Con) := (11, ⟨sg11, false, fun x => m_l_toDisk fu x⟩) :: cs41 fu
theorem ck11 (fu : Nat) : ConsOk Try.prog (cs11 fu) := step_ok hT hM gkP (ck41 fu) spsOk fnsOk fo11 fun x => rf11 fu x
noncomputable def fa77 : FnA := ⟨⟨15, codeOf Try.f77, [.tmp 6]⟩, .seq (.reg (upto 1)) (.seq (.join ⟨[6, 7, 8, 9, 10, 11, 12, 13, 14], [], true, [(.normal, ⟨[(6, .bool)], []⟩)]⟩ (.reg (upto 9))) (.leaf))⟩
theorem fo77 : FnOk Try.prog 77 fa77 := ⟨Try.call77, Try.f77, Try.func77, by kernel_rfl, rfl, rfl, by kernel_rfl⟩
noncomputable def sg77 : Sg := ⟨[.val (.int .i64), .val (.int .i64), .val (.int .i64)], [(false, .bool)]⟩
theorem rf77 (fu : Nat) (x0 : Int) (x1 : Int) (x2 : Int) : model pg (callN pg fu ⟨cs11 fu, spsT, fnsT⟩ 12) fu fa77 sg77 (x0, x1, x2) = m_s_l1In fu x0 x1 x2 := by kernel_rfl
noncomputable def cs77 (fu : Nat) : List (FuncId × Con) := (77, ⟨sg77, false, fun x => m_s_l1In fu x.1 x.2.1 x.2.2⟩) :: cs11 fu
theorem ck77 (fu : Nat) : ConsOk Try.prog (cs77 fu) := step_ok hT hM gkP (ck11 fu) spsOk fnsOk fo77 fun x => rf77 fu x.1 x.2.1 x.2.2
noncomputable def fa36 : FnA := ⟨⟨70, codeOf Try.f36, [.tmp 2]⟩, .seq (.reg (upto 2)) (.seq (.seq (.join ⟨[5, 6, 7, 8, 9, 10, 11, 12, 13, 14], [], true, [(.normal, ⟨[(14, .bool)], []⟩)]⟩ (.reg (upto 10))) (.cond (.seq (.reg (upto 1)) (.leaf)) (.leaf))) (.seq (.seq (.reg (upto 1)) (.block (.loop ⟨[2, 3, 15, 16, 17, 18, 19, 20, 21, 22, 23, 24, 25, 26, 27, 28], [], true, [((.exit 0), ⟨[], []⟩), (.ret, ⟨[(2, .int .i64)], []⟩)]⟩ ⟨[(3, .int .i64)], []⟩ (.seq (.seq (.reg (upto 5)) (.cond (.leaf) (.leaf))) (.seq (.block (.seq (.reg (upto 7)) (.cond (.seq (.reg (upto 1)) (.leaf)) (.leaf)))) (.reg (upto 3))))))) (.seq (.seq (.reg (upto 4)) (.cond (.seq (.reg (upto 1)) (.leaf)) (.leaf))) (.seq (.seq (.reg (upto 1)) (.block (.loop ⟨[2, 4, 33, 34, 35, 36, 37, 38, 39, 40, 41, 42, 43, 44, 45, 46, 47, 48, 49, 50, 51, 52, 53, 54, 55, 56, 57, 58, 59, 60, 61, 62, 63, 64, 65, 66, 67, 68, 69], [], true, [((.exit 2), ⟨[], []⟩), (.ret, ⟨[(2, .int .i64)], []⟩)]⟩ ⟨[(4, .int .i64)], []⟩ (.seq (.seq (.reg (upto 5)) (.cond (.leaf) (.leaf))) (.seq (.block (.seq (.seq (.join ⟨[40, 41, 42, 43, 44, 45, 46, 47, 48, 49, 50, 51, 52, 53, 54, 55, 56, 57, 58, 59, 60, 61], [], true, [(.normal, ⟨[(61, .bool)], []⟩)]⟩ (.draw [] [(0, 0), (1, 1), (2, 0), (3, 1), (4, 0), (5, 1), (6, 0), (7, 1), (8, 1), (9, 0), (10, 2), (11, 0), (12, 0), (13, 0), (14, 1), (15, 0), (16, 1), (17, 0), (18, 1), (19, 2), (20, 0), (21, 0)])) (.cond (.seq (.reg (upto 1)) (.leaf)) (.leaf))) (.seq (.reg (upto 8)) (.cond (.seq (.reg (upto 1)) (.leaf)) (.leaf))))) (.reg (upto 3))))))) (.seq (.reg (upto 1)) (.leaf))))))⟩
theorem fo36 : FnOk Try.prog 36 fa36 := ⟨Try.call36, Try.f36, Try.func36, by kernel_rfl, rfl, rfl, by kernel_rfl⟩
noncomputable def sg36 : Sg := ⟨[.val (.rcd .disk)], [(false, .int .i64)]⟩
theorem rf36 (fu : Nat) (x0 : DiskD) : model pg (callN pg fu ⟨cs77 fu, spsT, fnsT⟩ 12) fu fa36 sg36 x0 = m_s_DiskFault fu x0 := by kernel_rfl
noncomputable def cs36 (fu : Nat) : List (FuncId × Con) := (36, ⟨sg36, false, fun x => m_s_DiskFault fu x⟩) :: cs77 fu
theorem ck36 (fu : Nat) : ConsOk Try.prog (cs36 fu) := step_ok hT hM gkP (ck77 fu) spsOk fnsOk fo36 fun x => rf36 fu x
noncomputable def fa78 : FnA := ⟨⟨51, codeOf Try.f78, [.cell 2 30]⟩, .seq (.reg (upto 2)) (.seq (.reg (upto 3)) (.seq (.seq (.reg (upto 1)) (.block (.loop ⟨[4, 8, 9, 10, 11, 12, 13, 14, 15, 16, 17, 18, 19, 20, 21, 22, 23, 24, 25, 26], [(.cell [0], (.tmp 3))], false, [((.exit 0), ⟨[], [.cell 0 [.row 0, .lk], .row 0 true (.list (.int .u8))]⟩)]⟩ ⟨[(4, .int .i64)], [.cell 0 [.row 0, .lk], .row 0 true (.list (.int .u8))]⟩ (.seq (.seq (.reg (upto 5)) (.cond (.leaf) (.leaf))) (.seq (.block (.draw [(.fld (.tmp 3) 0)] [(0, 0), (1, 1), (3, 0), (4, 1), (5, 0), (6, 1), (7, 1), (2, 2), (8, 2), (9, 2), (10, 2), (11, 4), (12, 4)])) (.reg (upto 3))))))) (.seq (.seq (.reg (upto 1)) (.block (.loop ⟨[5, 6, 27, 28, 29, 30, 31, 32, 33, 34, 35, 36, 37, 38, 39, 40, 41, 42, 43, 44, 45, 46, 47, 48, 49], [(.cell [1], (.tmp 3))], false, [((.exit 2), ⟨[], [.cell 0 [.lk, .row 0], .row 0 true (.rcd .loose)]⟩)]⟩ ⟨[(5, .int .i64)], [.cell 0 [.lk, .row 0], .row 0 true (.rcd .loose)]⟩ (.seq (.seq (.reg (upto 5)) (.cond (.leaf) (.leaf))) (.seq (.block (.seq (.reg (upto 7)) (.seq (.reg (upto 6)) (.reg (upto 7))))) (.reg (upto 3))))))) (.seq (.reg (upto 2)) (.leaf)))))⟩
theorem fo78 : FnOk Try.prog 78 fa78 := ⟨Try.call78, Try.f78, Try.func78, by kernel_rfl, rfl, rfl, by kernel_rfl⟩
noncomputable def sg78 : Sg := ⟨[.val (.rcd .disk)], [(true, .rcd .disk)]⟩
theorem rf78 (fu : Nat) (x0 : DiskD) : model pg (callN pg fu ⟨cs36 fu, spsT, fnsT⟩ 12) fu fa78 sg78 x0 = m_s_l2Copy fu x0 := by kernel_rfl
noncomputable def cs78 (fu : Nat) : List (FuncId × Con) := (78, ⟨sg78, false, fun x => m_s_l2Copy fu x⟩) :: cs36 fu
theorem ck78 (fu : Nat) : ConsOk Try.prog (cs78 fu) := step_ok hT hM gkP (ck36 fu) spsOk fnsOk fo78 fun x => rf78 fu x
noncomputable def fa37 : FnA := ⟨⟨22, codeOf Try.f37, [.cell 2 30]⟩, .seq (.reg (upto 2)) (.seq (.reg (upto 4)) (.seq (.seq (.reg (upto 1)) (.block (.loop ⟨[4, 7, 8, 9, 10, 11, 12, 13, 14, 15, 16, 17, 18, 19], [(.row, (.fld (.tmp 3) 0))], false, [((.exit 0), ⟨[], [.rowK 0 true]⟩)]⟩ ⟨[(4, .int .i64)], [.rowK 0 true]⟩ (.seq (.seq (.reg (upto 5)) (.cond (.leaf) (.leaf))) (.seq (.block (.reg (upto 6))) (.reg (upto 3))))))) (.seq (.reg (upto 2)) (.seq (.reg (upto 2)) (.leaf)))))⟩
theorem fo37 : FnOk Try.prog 37 fa37 := ⟨Try.call37, Try.f37, Try.func37, by kernel_rfl, rfl, rfl, by kernel_rfl⟩
noncomputable def sg37 : Sg := ⟨[.val (.rcd .disk)], [(true, .rcd .disk)]⟩
theorem rf37 (fu : Nat) (x0 : DiskD) : model pg (callN pg fu ⟨cs78 fu, spsT, fnsT⟩ 12) fu fa37 sg37 x0 = m_s_l2Sync fu x0 := by kernel_rfl
noncomputable def cs37 (fu : Nat) : List (FuncId × Con) := (37, ⟨sg37, false, fun x => m_s_l2Sync fu x⟩) :: cs78 fu
theorem ck37 (fu : Nat) : ConsOk Try.prog (cs37 fu) := step_ok hT hM gkP (ck78 fu) spsOk fnsOk fo37 fun x => rf37 fu x
noncomputable def fa119 : FnA := ⟨⟨25, codeOf Try.f119, [.tmp 6]⟩, .seq (.reg (upto 1)) (.seq (.reg (upto 1)) (.seq (.seq (.reg (upto 1)) (.block (.loop ⟨[7, 8, 9, 10, 11, 12, 13, 14, 15, 16, 17, 18, 19, 20, 21, 22, 23], [], true, [((.exit 0), ⟨[(7, .int .i64)], []⟩)]⟩ ⟨[(7, .int .i64), (8, .int .i64)], []⟩ (.seq (.seq (.reg (upto 3)) (.cond (.leaf) (.leaf))) (.seq (.block (.reg (upto 11))) (.reg (upto 3))))))) (.seq (.reg (upto 2)) (.leaf))))⟩
theorem fo119 : FnOk Try.prog 119 fa119 := ⟨Try.call119, Try.f119, Try.func119, by kernel_rfl, rfl, rfl, by kernel_rfl⟩
noncomputable def sg119 : Sg := ⟨[.val (.list (.int .u8)), .val (.int .i64), .val (.int .i64)], [(false, .int .i64)]⟩
theorem rf119 (fu : Nat) (x0 : List Int) (x1 : Int) (x2 : Int) : model pg (callN pg fu ⟨cs37 fu, spsT, fnsT⟩ 12) fu fa119 sg119 (x0, x1, x2) = m_s_l1Take fu x0 x1 x2 := by kernel_rfl
noncomputable def cs119 (fu : Nat) : List (FuncId × Con) := (119, ⟨sg119, false, fun x => m_s_l1Take fu x.1 x.2.1 x.2.2⟩) :: cs37 fu
theorem ck119 (fu : Nat) : ConsOk Try.prog (cs119 fu) := step_ok hT hM gkP (ck37 fu) spsOk fnsOk fo119 fun x => rf119 fu x.1 x.2.1 x.2.2
noncomputable def fa120 : FnA := ⟨⟨22, codeOf Try.f120, [.tmp 2]⟩, .seq (.reg (upto 1)) (.seq (.reg (upto 1)) (.seq (.seq (.reg (upto 1)) (.block (.loop ⟨[3, 4, 5, 6, 7, 8, 9, 10, 11, 12, 13, 14, 15, 16, 17, 18, 19, 20], [], true, [((.exit 0), ⟨[(3, .int .i64)], []⟩)]⟩ ⟨[(3, .int .i64), (4, .int .i64)], []⟩ (.seq (.seq (.reg (upto 4)) (.cond (.leaf) (.leaf))) (.seq (.block (.reg (upto 11))) (.reg (upto 3))))))) (.seq (.reg (upto 2)) (.leaf))))⟩
theorem fo120 : FnOk Try.prog 120 fa120 := ⟨Try.call120, Try.f120, Try.func120, by kernel_rfl, rfl, rfl, by kernel_rfl⟩
noncomputable def sg120 : Sg := ⟨[.val (.list (.int .u8))], [(false, .int .i64)]⟩
theorem rf120 (fu : Nat) (x0 : List Int) : model pg (callN pg fu ⟨cs119 fu, spsT, fnsT⟩ 12) fu fa120 sg120 x0 = m_s_SumBytes fu x0 := by kernel_rfl
noncomputable def cs120 (fu : Nat) : List (FuncId × Con) := (120, ⟨sg120, false, fun x => m_s_SumBytes fu x⟩) :: cs119 fu
theorem ck120 (fu : Nat) : ConsOk Try.prog (cs120 fu) := step_ok hT hM gkP (ck119 fu) spsOk fnsOk fo120 fun x => rf120 fu x
noncomputable def fa142 : FnA := ⟨⟨5, codeOf Try.f142, [.tmp 2]⟩, .seq (.reg (upto 1)) (.seq (.reg (upto 3)) (.leaf))⟩
theorem fo142 : FnOk Try.prog 142 fa142 := ⟨Try.call142, Try.f142, Try.func142, by kernel_rfl, rfl, rfl, by kernel_rfl⟩
noncomputable def sg142 : Sg := ⟨[.val (.int .i64)], [(false, .bool)]⟩
theorem rf142 (fu : Nat) (x0 : Int) : model pg (callN pg fu ⟨cs120 fu, spsT, fnsT⟩ 12) fu fa142 sg142 x0 = m_s_l1Lsn fu x0 := by kernel_rfl
noncomputable def cs142 (fu : Nat) : List (FuncId × Con) := (142, ⟨sg142, false, fun x => m_s_l1Lsn fu x⟩) :: cs120 fu
theorem ck142 (fu : Nat) : ConsOk Try.prog (cs142 fu) := step_ok hT hM gkP (ck120 fu) spsOk fnsOk fo142 fun x => rf142 fu x
noncomputable def fa128 : FnA := ⟨⟨5, codeOf Try.f128, [.tmp 2]⟩, .seq (.reg (upto 1)) (.seq (.reg (upto 3)) (.leaf))⟩
theorem fo128 : FnOk Try.prog 128 fa128 := ⟨Try.call128, Try.f128, Try.func128, by kernel_rfl, rfl, rfl, by kernel_rfl⟩
noncomputable def sg128 : Sg := ⟨[.val (.int .i64)], [(false, .bool)]⟩
theorem rf128 (fu : Nat) (x0 : Int) : model pg (callN pg fu ⟨cs142 fu, spsT, fnsT⟩ 12) fu fa128 sg128 x0 = m_s_l1Key fu x0 := by kernel_rfl
noncomputable def cs128 (fu : Nat) : List (FuncId × Con) := (128, ⟨sg128, false, fun x => m_s_l1Key fu x⟩) :: cs142 fu
theorem ck128 (fu : Nat) : ConsOk Try.prog (cs128 fu) := step_ok hT hM gkP (ck142 fu) spsOk fnsOk fo128 fun x => rf128 fu x
noncomputable def fa129 : FnA := ⟨⟨5, codeOf Try.f129, [.tmp 2]⟩, .seq (.reg (upto 1)) (.seq (.reg (upto 3)) (.leaf))⟩
theorem fo129 : FnOk Try.prog 129 fa129 := ⟨Try.call129, Try.f129, Try.func129, by kernel_rfl, rfl, rfl, by kernel_rfl⟩
noncomputable def sg129 : Sg := ⟨[.val (.int .i64)], [(false, .bool)]⟩
theorem rf129 (fu : Nat) (x0 : Int) : model pg (callN pg fu ⟨cs128 fu, spsT, fnsT⟩ 12) fu fa129 sg129 x0 = m_s_l1Value fu x0 := by kernel_rfl
noncomputable def cs129 (fu : Nat) : List (FuncId × Con) := (129, ⟨sg129, false, fun x => m_s_l1Value fu x⟩) :: cs128 fu
theorem ck129 (fu : Nat) : ConsOk Try.prog (cs129 fu) := step_ok hT hM gkP (ck128 fu) spsOk fnsOk fo129 fun x => rf129 fu x
noncomputable def fa121 : FnA := ⟨⟨61, codeOf Try.f121, [.tmp 2]⟩, .seq (.reg (upto 2)) (.seq (.seq (.join ⟨[4, 5, 6, 7, 8, 9, 10, 11, 12, 13], [], true, [(.normal, ⟨[(13, .bool)], []⟩)]⟩ (.reg (upto 10))) (.cond (.seq (.reg (upto 1)) (.leaf)) (.leaf))) (.seq (.seq (.reg (upto 4)) (.cond (.seq (.reg (upto 1)) (.leaf)) (.leaf))) (.seq (.seq (.reg (upto 1)) (.block (.loop ⟨[2, 3, 18, 19, 20, 21, 22, 23, 24, 25, 26, 27, 28, 29, 30, 31, 32, 33, 34, 35, 36, 37, 38, 39, 40, 41, 42, 43, 44, 45, 46, 47, 48, 49, 50, 51, 52, 53, 54, 55, 56, 57, 58, 59, 60], [], true, [((.exit 0), ⟨[], []⟩), (.ret, ⟨[(2, .int .i64)], []⟩)]⟩ ⟨[(3, .int .i64)], []⟩ (.seq (.seq (.reg (upto 5)) (.cond (.leaf) (.leaf))) (.seq (.block (.seq (.seq (.join ⟨[25, 26, 27, 28, 29, 30, 31, 32, 33, 34, 35, 36, 37, 38, 39, 40, 41, 42], [], true, [(.normal, ⟨[(42, .bool)], []⟩)]⟩ (.reg (upto 18))) (.cond (.seq (.reg (upto 1)) (.leaf)) (.leaf))) (.seq (.join ⟨[43, 44, 45, 46, 47, 48, 49, 50, 51, 52, 53, 54, 55, 56, 57, 58, 59, 60], [], true, [(.normal, ⟨[(60, .bool)], []⟩)]⟩ (.draw [] [(0, 0), (1, 0), (2, 0), (3, 0), (4, 1), (5, 0), (6, 1), (7, 0), (8, 1), (9, 0), (10, 1), (11, 0), (12, 0), (13, 1), (14, 0), (15, 1), (16, 0), (17, 0)])) (.cond (.seq (.reg (upto 1)) (.leaf)) (.leaf))))) (.reg (upto 3))))))) (.seq (.reg (upto 1)) (.leaf)))))⟩
theorem fo121 : FnOk Try.prog 121 fa121 := ⟨Try.call121, Try.f121, Try.func121, by kernel_rfl, rfl, rfl, by kernel_rfl⟩
noncomputable def sg121 : Sg := ⟨[.val (.rcd .page)], [(false, .int .i64)]⟩
theorem rf121 (fu : Nat) (x0 : PageD) : model pg (callN pg fu ⟨cs129 fu, spsT, fnsT⟩ 12) fu fa121 sg121 x0 = m_s_PageFault fu x0 := by kernel_rfl
noncomputable def cs121 (fu : Nat) : List (FuncId × Con) := (121, ⟨sg121, false, fun x => m_s_PageFault fu x⟩) :: cs129 fu
theorem ck121 (fu : Nat) : ConsOk Try.prog (cs121 fu) := step_ok hT hM gkP (ck129 fu) spsOk fnsOk fo121 fun x => rf121 fu x
noncomputable def fa143 : FnA := ⟨⟨24, codeOf Try.f143, [.tmp 4]⟩, .seq (.reg (upto 1)) (.seq (.reg (upto 2)) (.seq (.seq (.reg (upto 3)) (.block (.loop ⟨[5, 6, 10, 11, 12, 13, 14, 15, 16, 17, 18, 19, 20, 21, 22], [(.row, (.tmp 5))], false, [((.exit 0), ⟨[(5, .row 0)], [.row 0 true (.int .u8)]⟩)]⟩ ⟨[(5, .row 0), (6, .int .i64)], [.row 0 true (.int .u8)]⟩ (.seq (.seq (.reg (upto 2)) (.cond (.leaf) (.leaf))) (.seq (.block (.reg (upto 10))) (.reg (upto 3))))))) (.seq (.reg (upto 2)) (.leaf))))⟩
theorem fo143 : FnOk Try.prog 143 fa143 := ⟨Try.call143, Try.f143, Try.func143, by kernel_rfl, rfl, rfl, by kernel_rfl⟩
noncomputable def sg143 : Sg := ⟨[.val (.int .i64), .val (.int .i64)], [(true, .list (.int .u8))]⟩
theorem rf143 (fu : Nat) (x0 : Int) (x1 : Int) : model pg (callN pg fu ⟨cs121 fu, spsT, fnsT⟩ 12) fu fa143 sg143 (x0, x1) = m_s_l1Bytes fu x0 x1 := by kernel_rfl
noncomputable def cs143 (fu : Nat) : List (FuncId × Con) := (143, ⟨sg143, false, fun x => m_s_l1Bytes fu x.1 x.2⟩) :: cs121 fu
theorem ck143 (fu : Nat) : ConsOk Try.prog (cs143 fu) := step_ok hT hM gkP (ck121 fu) spsOk fnsOk fo143 fun x => rf143 fu x.1 x.2
noncomputable def fa122 : FnA := ⟨⟨56, codeOf Try.f122, [.tmp 2]⟩, .seq (.reg (upto 2)) (.seq (.draw [] [(0, 0), (1, 1), (2, 1), (4, 0), (5, 1), (6, 2), (3, 3), (7, 2), (8, 4)]) (.seq (.reg (upto 8)) (.seq (.seq (.reg (upto 1)) (.block (.loop ⟨[3, 4, 20, 21, 22, 23, 24, 25, 26, 27, 28, 29, 30, 31, 32, 33, 34, 35, 36, 37, 38, 39, 40, 41, 42, 43, 44], [(.row, (.tmp 3))], false, [((.exit 0), ⟨[(3, .row 0)], [.row 0 true (.int .u8)]⟩)]⟩ ⟨[(3, .row 0), (4, .int .i64)], [.row 0 true (.int .u8)]⟩ (.seq (.seq (.reg (upto 5)) (.cond (.leaf) (.leaf))) (.seq (.block (.draw [(.tmp 3)] [(0, 0), (1, 0), (2, 1), (3, 0), (4, 1), (5, 0), (6, 1), (7, 1), (10, 0), (11, 1), (12, 0), (13, 1), (14, 0), (15, 1), (8, 2), (9, 2), (16, 2), (17, 2), (18, 4)])) (.reg (upto 3))))))) (.seq (.block (.loop ⟨[3, 45, 46, 47, 48, 49, 50], [(.row, (.tmp 3))], false, [((.exit 2), ⟨[(3, .row 0)], [.row 0 true (.int .u8)]⟩)]⟩ ⟨[(3, .row 0)], [.row 0 true (.int .u8)]⟩ (.seq (.seq (.reg (upto 3)) (.cond (.leaf) (.leaf))) (.block (.reg (upto 4)))))) (.seq (.reg (upto 6)) (.leaf))))))⟩
theorem fo122 : FnOk Try.prog 122 fa122 := ⟨Try.call122, Try.f122, Try.func122, by kernel_rfl, rfl, rfl, by kernel_rfl⟩
noncomputable def sg122 : Sg := ⟨[.val (.rcd .page)], [(true, .list (.int .u8))]⟩
theorem rf122 (fu : Nat) (x0 : PageD) : model pg (callN pg fu ⟨cs143 fu, spsT, fnsT⟩ 12) fu fa122 sg122 x0 = m_s_l1Pack fu x0 := by kernel_rfl
noncomputable def cs122 (fu : Nat) : List (FuncId × Con) := (122, ⟨sg122, false, fun x => m_s_l1Pack fu x⟩) :: cs143 fu
theorem ck122 (fu : Nat) : ConsOk Try.prog (cs122 fu) := step_ok hT hM gkP (ck143 fu) spsOk fnsOk fo122 fun x => rf122 fu x
noncomputable def fa80 : FnA := ⟨⟨69, codeOf Try.f80, [.cell 2 60]⟩, .seq (.reg (upto 1)) (.seq (.seq (.reg (upto 3)) (.cond (.seq (.reg (upto 2)) (.leaf)) (.leaf))) (.seq (.seq (.draw [] [(0, 0), (2, 0), (3, 0), (1, 2), (4, 2), (5, 0)]) (.cond (.seq (.reg (upto 2)) (.leaf)) (.leaf))) (.seq (.draw [] [(0, 0), (1, 1), (2, 1), (3, 1), (4, 0), (5, 2), (6, 0), (7, 3), (8, 4)]) (.seq (.seq (.reg (upto 1)) (.block (.loop ⟨[4, 23, 24, 25, 26, 27, 28, 29, 30, 31, 32, 33, 34, 35, 36, 37, 38, 39, 40, 41, 42, 43, 44, 45, 46, 47, 48, 49, 50, 51, 52, 53, 54], [(.cell [2], (.tmp 3))], false, [((.exit 0), ⟨[], [.cell 0 [.lk, .lk, .row 0], .row 0 true (.rcd .cell)]⟩)]⟩ ⟨[(4, .int .i64)], [.cell 0 [.lk, .lk, .row 0], .row 0 true (.rcd .cell)]⟩ (.seq (.seq (.join ⟨[23, 24, 25, 26, 27, 28, 29, 30, 31, 32, 33, 34], [], true, [(.normal, ⟨[(34, .bool)], []⟩)]⟩ (.reg (upto 12))) (.cond (.leaf) (.leaf))) (.seq (.block (.draw [(.fld (.tmp 3) 2)] [(0, 0), (1, 1), (2, 0), (3, 0), (4, 0), (5, 0), (6, 1), (7, 1), (8, 1), (9, 0), (10, 0), (11, 0), (12, 0), (13, 2), (14, 0), (15, 2), (16, 2), (17, 4), (18, 4)])) (.reg (upto 3))))))) (.seq (.seq (.join ⟨[55, 56, 57, 58, 59, 60, 61, 62, 63, 64, 65], [], true, [(.normal, ⟨[(65, .bool)], []⟩)]⟩ (.draw [] [(0, 1), (1, 2), (2, 0), (3, 0), (4, 1), (7, 0), (8, 1), (5, 2), (6, 2), (9, 0), (10, 0)])) (.cond (.seq (.reg (upto 2)) (.leaf)) (.leaf))) (.seq (.reg (upto 3)) (.leaf)))))))⟩
theorem fo80 : FnOk Try.prog 80 fa80 := ⟨Try.call80, Try.f80, Try.func80, by kernel_rfl, rfl, rfl, by kernel_rfl⟩
noncomputable def sg80 : Sg := ⟨[.val (.list (.int .u8))], [(true, .rcd .pageResult)]⟩
theorem rf80 (fu : Nat) (x0 : List Int) : model pg (callN pg fu ⟨cs122 fu, spsT, fnsT⟩ 12) fu fa80 sg80 x0 = m_s_UnpackPage fu x0 := by kernel_rfl
noncomputable def cs80 (fu : Nat) : List (FuncId × Con) := (80, ⟨sg80, false, fun x => m_s_UnpackPage fu x⟩) :: cs122 fu
theorem ck80 (fu : Nat) : ConsOk Try.prog (cs80 fu) := step_ok hT hM gkP (ck122 fu) spsOk fnsOk fo80 fun x => rf80 fu x
noncomputable def fa38 : FnA := ⟨⟨25, codeOf Try.f38, [.cell 4 60]⟩, .seq (.reg (upto 2)) (.seq (.reg (upto 9)) (.seq (.seq (.join ⟨[13, 14, 15, 16, 17, 18, 19, 20, 21, 22], [], true, [(.normal, ⟨[(22, .bool)], []⟩)]⟩ (.reg (upto 10))) (.cond (.seq (.reg (upto 2)) (.leaf)) (.leaf))) (.seq (.reg (upto 2)) (.leaf))))⟩
theorem fo38 : FnOk Try.prog 38 fa38 := ⟨Try.call38, Try.f38, Try.func38, by kernel_rfl, rfl, rfl, by kernel_rfl⟩
noncomputable def sg38 : Sg := ⟨[.val (.rcd .disk), .val (.int .i64)], [(true, .rcd .pageResult)]⟩
theorem rf38 (fu : Nat) (x0 : DiskD) (x1 : Int) : model pg (callN pg fu ⟨cs80 fu, spsT, fnsT⟩ 12) fu fa38 sg38 (x0, x1) = m_s_l2Read fu x0 x1 := by kernel_rfl
noncomputable def cs38 (fu : Nat) : List (FuncId × Con) := (38, ⟨sg38, false, fun x => m_s_l2Read fu x.1 x.2⟩) :: cs80 fu
theorem ck38 (fu : Nat) : ConsOk Try.prog (cs38 fu) := step_ok hT hM gkP (ck80 fu) spsOk fnsOk fo38 fun x => rf38 fu x.1 x.2
noncomputable def fa10 : FnA := ⟨⟨66, codeOf Try.f10, [.tmp 4]⟩, .seq (.reg (upto 3)) (.seq (.seq (.join ⟨[10, 11, 12, 13, 14, 15, 16, 17, 18, 19, 20, 21, 22, 23, 24, 25, 26], [], true, [(.normal, ⟨[(26, .bool)], []⟩)]⟩ (.reg (upto 17))) (.cond (.seq (.reg (upto 1)) (.leaf)) (.leaf))) (.seq (.reg (upto 4)) (.seq (.seq (.reg (upto 1)) (.block (.loop ⟨[4, 6, 7, 8, 9, 29, 30, 31, 32, 33, 34, 35, 36, 37, 38, 39, 40, 41, 42, 43, 44, 45, 46, 47, 48, 49, 50, 51, 52, 53, 54, 55, 56, 57, 58, 59, 60, 61, 62, 63, 64, 65], [], false, [((.exit 0), ⟨[], []⟩), (.ret, ⟨[(4, .bool)], []⟩)]⟩ ⟨[(6, .int .i64)], []⟩ (.seq (.seq (.reg (upto 5)) (.cond (.leaf) (.leaf))) (.seq (.join ⟨[4, 7, 8, 9, 36, 37, 38, 39, 40, 41, 42, 43, 44, 45, 46, 47, 48, 49, 50, 51, 52, 53, 54, 55, 56, 57, 58, 59, 60, 61, 62, 63, 64, 65], [], false, [(.normal, ⟨[], []⟩), (.ret, ⟨[(4, .bool)], []⟩)]⟩ (.block (.seq (.seq (.reg (upto 5)) (.cond (.leaf) (.leaf))) (.seq (.reg (upto 3)) (.seq (.reg (upto 1)) (.seq (.seq (.reg (upto 1)) (.block (.loop ⟨[8, 9, 43, 44, 45, 46, 47, 48, 49, 50, 51, 52, 53, 54, 55, 56, 57, 58, 59, 60, 61, 62, 63], [], true, [((.exit 2), ⟨[(8, .bool)], []⟩)]⟩ ⟨[(8, .bool), (9, .int .i64)], []⟩ (.seq (.seq (.reg (upto 4)) (.cond (.leaf) (.leaf))) (.seq (.join ⟨[8, 49, 50, 51, 52, 53, 54, 55, 56, 57, 58, 59, 60, 61, 62, 63], [], true, [(.normal, ⟨[(8, .bool)], []⟩)]⟩ (.block (.draw [] [(0, 0), (1, 0), (2, 0), (3, 0), (4, 1), (5, 1), (6, 1), (7, 0), (8, 1), (9, 0), (10, 1), (11, 1), (12, 1), (13, 0), (14, 0), (15, 4)]))) (.reg (upto 3))))))) (.seq (.reg (upto 2)) (.cond (.seq (.reg (upto 1)) (.leaf)) (.leaf))))))))) (.reg (upto 3))))))) (.seq (.reg (upto 1)) (.leaf)))))⟩
theorem fo10 : FnOk Try.prog 10 fa10 := ⟨Try.call10, Try.f10, Try.func10, by kernel_rfl, rfl, rfl, by kernel_rfl⟩
noncomputable def sg10 : Sg := ⟨[.val (.rcd .disk), .val (.rcd .disk)], [(false, .bool)]⟩
theorem rf10 (fu : Nat) (x0 : DiskD) (x1 : DiskD) : model pg (callN pg fu ⟨cs38 fu, spsT, fnsT⟩ 12) fu fa10 sg10 (x0, x1) = m_s_ReadsWhole fu x0 x1 := by kernel_rfl
noncomputable def cs10 (fu : Nat) : List (FuncId × Con) := (10, ⟨sg10, false, fun x => m_s_ReadsWhole fu x.1 x.2⟩) :: cs38 fu
theorem ck10 (fu : Nat) : ConsOk Try.prog (cs10 fu) := step_ok hT hM gkP (ck38 fu) spsOk fnsOk fo10 fun x => rf10 fu x.1 x.2
noncomputable def fa85 : FnA := ⟨⟨15, codeOf Try.f85, [.tmp 6]⟩, .seq (.reg (upto 1)) (.seq (.join ⟨[6, 7, 8, 9, 10, 11, 12, 13, 14], [], true, [(.normal, ⟨[(6, .bool)], []⟩)]⟩ (.reg (upto 9))) (.leaf))⟩
theorem fo85 : FnOk Try.prog 85 fa85 := ⟨Try.call85, Try.f85, Try.func85, by kernel_rfl, rfl, rfl, by kernel_rfl⟩
noncomputable def sg85 : Sg := ⟨[.val (.int .i64), .val (.int .i64), .val (.int .i64)], [(false, .bool)]⟩
theorem rf85 (fu : Nat) (x0 : Int) (x1 : Int) (x2 : Int) : model pg (callN pg fu ⟨cs10 fu, spsT, fnsT⟩ 12) fu fa85 sg85 (x0, x1, x2) = m_i_within fu x0 x1 x2 := by kernel_rfl
noncomputable def cs85 (fu : Nat) : List (FuncId × Con) := (85, ⟨sg85, false, fun x => m_i_within fu x.1 x.2.1 x.2.2⟩) :: cs10 fu
theorem ck85 (fu : Nat) : ConsOk Try.prog (cs85 fu) := step_ok hT hM gkP (ck10 fu) spsOk fnsOk fo85 fun x => rf85 fu x.1 x.2.1 x.2.2
noncomputable def fa84 : FnA := ⟨⟨11, codeOf Try.f84, [.tmp 4]⟩, .seq (.reg (upto 2)) (.seq (.reg (upto 7)) (.leaf))⟩
theorem fo84 : FnOk Try.prog 84 fa84 := ⟨Try.call84, Try.f84, Try.func84, by kernel_rfl, rfl, rfl, by kernel_rfl⟩
noncomputable def sg84 : Sg := ⟨[.val (.rcd .disk), .val (.int .i64)], [(false, .bool)]⟩
theorem rf84 (fu : Nat) (x0 : DiskD) (x1 : Int) : model pg (callN pg fu ⟨cs85 fu, spsT, fnsT⟩ 12) fu fa84 sg84 (x0, x1) = m_i_Disk_hasPage fu x0 x1 := by kernel_rfl
noncomputable def cs84 (fu : Nat) : List (FuncId × Con) := (84, ⟨sg84, false, fun x => m_i_Disk_hasPage fu x.1 x.2⟩) :: cs85 fu
theorem ck84 (fu : Nat) : ConsOk Try.prog (cs84 fu) := step_ok hT hM gkP (ck85 fu) spsOk fnsOk fo84 fun x => rf84 fu x.1 x.2
noncomputable def fa42 : FnA := ⟨⟨51, codeOf Try.f42, [.tmp 2]⟩, .seq (.reg (upto 2)) (.seq (.block (.seq (.join ⟨[5, 6, 7, 8, 9, 10, 11, 12, 13, 14, 15, 16, 17, 18, 19, 20], [], true, [(.normal, ⟨[(5, .bool)], []⟩)]⟩ (.reg (upto 16))) (.cond (.seq (.reg (upto 1)) (.leaf)) (.seq (.reg (upto 5)) (.cond (.seq (.reg (upto 1)) (.leaf)) (.leaf)))))) (.seq (.seq (.reg (upto 4)) (.block (.loop ⟨[2, 4, 29, 30, 31, 32, 33, 34, 35, 36, 37, 38, 39, 40, 41, 42, 43, 44, 45, 46, 47, 48, 49, 50], [], true, [((.exit 1), ⟨[], []⟩), (.ret, ⟨[(2, .int .i64)], []⟩)]⟩ ⟨[(29, .int .i64)], []⟩ (.seq (.reg (upto 1)) (.seq (.cond (.leaf) (.leaf)) (.seq (.block (.seq (.reg (upto 4)) (.block (.seq (.join ⟨[33, 34, 35, 36, 37, 38, 39, 40, 41, 42, 43, 44], [], true, [(.normal, ⟨[(33, .bool)], []⟩)]⟩ (.reg (upto 12))) (.cond (.seq (.reg (upto 1)) (.leaf)) (.seq (.reg (upto 5)) (.cond (.seq (.reg (upto 1)) (.leaf)) (.leaf)))))))) (.reg (upto 2)))))))) (.seq (.reg (upto 1)) (.leaf))))⟩
theorem fo42 : FnOk Try.prog 42 fa42 := ⟨Try.call42, Try.f42, Try.func42, by kernel_rfl, rfl, rfl, by kernel_rfl⟩
noncomputable def sg42 : Sg := ⟨[.val (.rcd .disk)], [(false, .int .i64)]⟩
theorem rf42 (fu : Nat) (x0 : DiskD) : model pg (callN pg fu ⟨cs84 fu, spsT, fnsT⟩ 12) fu fa42 sg42 x0 = m_i_DiskFault fu x0 := by kernel_rfl
noncomputable def cs42 (fu : Nat) : List (FuncId × Con) := (42, ⟨sg42, false, fun x => m_i_DiskFault fu x⟩) :: cs84 fu
theorem ck42 (fu : Nat) : ConsOk Try.prog (cs42 fu) := step_ok hT hM gkP (ck84 fu) spsOk fnsOk fo42 fun x => rf42 fu x
noncomputable def fa86 : FnA := ⟨⟨43, codeOf Try.f86, [.cell 2 30]⟩, .seq (.reg (upto 2)) (.seq (.reg (upto 3)) (.seq (.seq (.reg (upto 4)) (.block (.loop ⟨[5, 12, 13, 14, 15, 16, 17, 18, 19, 20, 21, 22, 23], [(.cell [0], (.tmp 3))], false, [((.exit 0), ⟨[], [.cell 0 [.row 0, .lk], .row 0 true (.list (.int .u8))]⟩)]⟩ ⟨[(12, .int .i64)], [.cell 0 [.row 0, .lk], .row 0 true (.list (.int .u8))]⟩ (.seq (.reg (upto 1)) (.seq (.cond (.leaf) (.leaf)) (.seq (.block (.seq (.reg (upto 3)) (.draw [(.fld (.tmp 3) 0)] [(0, 0), (1, 1), (2, 0), (3, 2), (4, 2), (5, 2), (6, 4), (7, 4)]))) (.reg (upto 2)))))))) (.seq (.seq (.reg (upto 4)) (.block (.loop ⟨[7, 27, 28, 29, 30, 31, 32, 33, 34, 35, 36, 37, 38, 39, 40, 41], [(.cell [1], (.tmp 3))], false, [((.exit 2), ⟨[], [.cell 0 [.lk, .row 0], .row 0 true (.rcd .loose)]⟩)]⟩ ⟨[(27, .int .i64)], [.cell 0 [.lk, .row 0], .row 0 true (.rcd .loose)]⟩ (.seq (.reg (upto 1)) (.seq (.cond (.leaf) (.leaf)) (.seq (.block (.seq (.reg (upto 4)) (.seq (.reg (upto 5)) (.reg (upto 7))))) (.reg (upto 2)))))))) (.seq (.reg (upto 2)) (.leaf)))))⟩
theorem fo86 : FnOk Try.prog 86 fa86 := ⟨Try.call86, Try.f86, Try.func86, by kernel_rfl, rfl, rfl, by kernel_rfl⟩
noncomputable def sg86 : Sg := ⟨[.val (.rcd .disk)], [(true, .rcd .disk)]⟩
theorem rf86 (fu : Nat) (x0 : DiskD) : model pg (callN pg fu ⟨cs42 fu, spsT, fnsT⟩ 12) fu fa86 sg86 x0 = m_i_Disk_copied fu x0 := by kernel_rfl
noncomputable def cs86 (fu : Nat) : List (FuncId × Con) := (86, ⟨sg86, false, fun x => m_i_Disk_copied fu x⟩) :: cs42 fu
theorem ck86 (fu : Nat) : ConsOk Try.prog (cs86 fu) := step_ok hT hM gkP (ck42 fu) spsOk fnsOk fo86 fun x => rf86 fu x
noncomputable def fa43 : FnA := ⟨⟨32, codeOf Try.f43, [.cell 4 30]⟩, .seq (.reg (upto 2)) (.seq (.reg (upto 4)) (.seq (.reg (upto 2)) (.seq (.seq (.reg (upto 3)) (.block (.loop ⟨[7, 13, 14, 15, 16, 17, 18, 19, 20, 21, 22, 23, 24, 25, 26, 27, 28, 29, 30], [(.row, (.fld (.tmp 5) 0))], false, [((.exit 0), ⟨[], [.rowK 0 true]⟩)]⟩ ⟨[(13, .int .i64)], [.rowK 0 true]⟩ (.seq (.reg (upto 1)) (.seq (.cond (.leaf) (.leaf)) (.seq (.block (.seq (.reg (upto 4)) (.draw [(.fld (.tmp 5) 0)] [(0, 0), (1, 1), (2, 0), (3, 1), (6, 0), (7, 1), (8, 0), (10, 0), (11, 1), (4, 2), (5, 2), (9, 0), (12, 2)]))) (.reg (upto 2)))))))) (.seq (.reg (upto 2)) (.leaf)))))⟩
theorem fo43 : FnOk Try.prog 43 fa43 := ⟨Try.call43, Try.f43, Try.func43, by kernel_rfl, rfl, rfl, by kernel_rfl⟩
noncomputable def sg43 : Sg := ⟨[.val (.rcd .disk), .val (.list (.rcd .loose))], [(true, .rcd .disk)]⟩
theorem rf43 (fu : Nat) (x0 : DiskD) (x1 : List LooseD) : model pg (callN pg fu ⟨cs86 fu, spsT, fnsT⟩ 12) fu fa43 sg43 (x0, x1) = m_i_Disk_done fu x0 x1 := by kernel_rfl
noncomputable def cs43 (fu : Nat) : List (FuncId × Con) := (43, ⟨sg43, false, fun x => m_i_Disk_done fu x.1 x.2⟩) :: cs86 fu
theorem ck43 (fu : Nat) : ConsOk Try.prog (cs43 fu) := step_ok hT hM gkP (ck86 fu) spsOk fnsOk fo43 fun x => rf43 fu x.1 x.2
noncomputable def fa123 : FnA := ⟨⟨19, codeOf Try.f123, [.tmp 2]⟩, .seq (.reg (upto 1)) (.seq (.reg (upto 1)) (.seq (.seq (.reg (upto 3)) (.block (.loop ⟨[3, 5, 8, 9, 10, 11, 12, 13, 14, 15, 16, 17], [], true, [((.exit 0), ⟨[(3, .int .i64)], []⟩)]⟩ ⟨[(3, .int .i64), (8, .int .i64)], []⟩ (.seq (.reg (upto 1)) (.seq (.cond (.leaf) (.leaf)) (.seq (.block (.seq (.reg (upto 3)) (.reg (upto 6)))) (.reg (upto 2)))))))) (.seq (.reg (upto 2)) (.leaf))))⟩
theorem fo123 : FnOk Try.prog 123 fa123 := ⟨Try.call123, Try.f123, Try.func123, by kernel_rfl, rfl, rfl, by kernel_rfl⟩
noncomputable def sg123 : Sg := ⟨[.val (.list (.int .u8))], [(false, .int .i64)]⟩
theorem rf123 (fu : Nat) (x0 : List Int) : model pg (callN pg fu ⟨cs43 fu, spsT, fnsT⟩ 12) fu fa123 sg123 x0 = m_i_take fu x0 := by kernel_rfl
noncomputable def cs123 (fu : Nat) : List (FuncId × Con) := (123, ⟨sg123, false, fun x => m_i_take fu x⟩) :: cs43 fu
theorem ck123 (fu : Nat) : ConsOk Try.prog (cs123 fu) := step_ok hT hM gkP (ck43 fu) spsOk fnsOk fo123 fun x => rf123 fu x
noncomputable def fa124 : FnA := ⟨⟨21, codeOf Try.f124, [.tmp 2]⟩, .seq (.reg (upto 1)) (.seq (.reg (upto 1)) (.seq (.seq (.reg (upto 3)) (.block (.loop ⟨[3, 5, 8, 9, 10, 11, 12, 13, 14, 15, 16, 17, 18, 19], [], true, [((.exit 0), ⟨[(3, .int .i64)], []⟩)]⟩ ⟨[(3, .int .i64), (8, .int .i64)], []⟩ (.seq (.reg (upto 1)) (.seq (.cond (.leaf) (.leaf)) (.seq (.block (.seq (.reg (upto 3)) (.reg (upto 8)))) (.reg (upto 2)))))))) (.seq (.reg (upto 2)) (.leaf))))⟩
theorem fo124 : FnOk Try.prog 124 fa124 := ⟨Try.call124, Try.f124, Try.func124, by kernel_rfl, rfl, rfl, by kernel_rfl⟩
noncomputable def sg124 : Sg := ⟨[.val (.list (.int .u8))], [(false, .int .i64)]⟩
theorem rf124 (fu : Nat) (x0 : List Int) : model pg (callN pg fu ⟨cs123 fu, spsT, fnsT⟩ 12) fu fa124 sg124 x0 = m_i_SumBytes fu x0 := by kernel_rfl
noncomputable def cs124 (fu : Nat) : List (FuncId × Con) := (124, ⟨sg124, false, fun x => m_i_SumBytes fu x⟩) :: cs123 fu
theorem ck124 (fu : Nat) : ConsOk Try.prog (cs124 fu) := step_ok hT hM gkP (ck123 fu) spsOk fnsOk fo124 fun x => rf124 fu x
noncomputable def fa144 : FnA := ⟨⟨5, codeOf Try.f144, [.tmp 2]⟩, .seq (.reg (upto 1)) (.seq (.reg (upto 3)) (.leaf))⟩
theorem fo144 : FnOk Try.prog 144 fa144 := ⟨Try.call144, Try.f144, Try.func144, by kernel_rfl, rfl, rfl, by kernel_rfl⟩
noncomputable def sg144 : Sg := ⟨[.val (.int .i64)], [(false, .bool)]⟩
theorem rf144 (fu : Nat) (x0 : Int) : model pg (callN pg fu ⟨cs124 fu, spsT, fnsT⟩ 12) fu fa144 sg144 x0 = m_i_isLsn fu x0 := by kernel_rfl
noncomputable def cs144 (fu : Nat) : List (FuncId × Con) := (144, ⟨sg144, false, fun x => m_i_isLsn fu x⟩) :: cs124 fu
theorem ck144 (fu : Nat) : ConsOk Try.prog (cs144 fu) := step_ok hT hM gkP (ck124 fu) spsOk fnsOk fo144 fun x => rf144 fu x
noncomputable def fa99 : FnA := ⟨⟨5, codeOf Try.f99, [.tmp 2]⟩, .seq (.reg (upto 1)) (.seq (.reg (upto 3)) (.leaf))⟩
theorem fo99 : FnOk Try.prog 99 fa99 := ⟨Try.call99, Try.f99, Try.func99, by kernel_rfl, rfl, rfl, by kernel_rfl⟩
noncomputable def sg99 : Sg := ⟨[.val (.int .i64)], [(false, .bool)]⟩
theorem rf99 (fu : Nat) (x0 : Int) : model pg (callN pg fu ⟨cs144 fu, spsT, fnsT⟩ 12) fu fa99 sg99 x0 = m_i_isKey fu x0 := by kernel_rfl
noncomputable def cs99 (fu : Nat) : List (FuncId × Con) := (99, ⟨sg99, false, fun x => m_i_isKey fu x⟩) :: cs144 fu
theorem ck99 (fu : Nat) : ConsOk Try.prog (cs99 fu) := step_ok hT hM gkP (ck144 fu) spsOk fnsOk fo99 fun x => rf99 fu x
noncomputable def fa100 : FnA := ⟨⟨5, codeOf Try.f100, [.tmp 2]⟩, .seq (.reg (upto 1)) (.seq (.reg (upto 3)) (.leaf))⟩
theorem fo100 : FnOk Try.prog 100 fa100 := ⟨Try.call100, Try.f100, Try.func100, by kernel_rfl, rfl, rfl, by kernel_rfl⟩
noncomputable def sg100 : Sg := ⟨[.val (.int .i64)], [(false, .bool)]⟩
theorem rf100 (fu : Nat) (x0 : Int) : model pg (callN pg fu ⟨cs99 fu, spsT, fnsT⟩ 12) fu fa100 sg100 x0 = m_i_isValue fu x0 := by kernel_rfl
noncomputable def cs100 (fu : Nat) : List (FuncId × Con) := (100, ⟨sg100, false, fun x => m_i_isValue fu x⟩) :: cs99 fu
theorem ck100 (fu : Nat) : ConsOk Try.prog (cs100 fu) := step_ok hT hM gkP (ck99 fu) spsOk fnsOk fo100 fun x => rf100 fu x
noncomputable def fa145 : FnA := ⟨⟨38, codeOf Try.f145, [.tmp 2]⟩, .seq (.reg (upto 1)) (.seq (.seq (.reg (upto 3)) (.block (.loop ⟨[2, 3, 4, 7, 8, 9, 10, 11, 12, 13, 14, 15, 16, 17, 18, 19, 20, 21, 22, 23, 24, 25, 26, 27, 28, 29, 30, 31, 32, 33, 34, 35, 36, 37], [], true, [((.exit 0), ⟨[], []⟩), (.ret, ⟨[(2, .int .i64)], []⟩)]⟩ ⟨[(7, .int .i64)], []⟩ (.seq (.reg (upto 1)) (.seq (.cond (.leaf) (.leaf)) (.seq (.block (.seq (.reg (upto 6)) (.block (.seq (.join ⟨[12, 13, 14, 15, 16, 17, 18, 19, 20, 21, 22], [], true, [(.normal, ⟨[(12, .bool)], []⟩)]⟩ (.reg (upto 11))) (.cond (.seq (.reg (upto 1)) (.leaf)) (.seq (.join ⟨[23, 24, 25, 26, 27, 28, 29, 30, 31, 32, 33, 34, 35, 36], [], true, [(.normal, ⟨[(23, .bool)], []⟩)]⟩ (.draw [] [(0, 0), (1, 0), (2, 0), (3, 0), (4, 1), (5, 0), (6, 0), (7, 0), (8, 1), (9, 0), (10, 1), (11, 0), (12, 0), (13, 0)])) (.cond (.seq (.reg (upto 1)) (.leaf)) (.leaf)))))))) (.reg (upto 2)))))))) (.seq (.reg (upto 1)) (.leaf)))⟩
theorem fo145 : FnOk Try.prog 145 fa145 := ⟨Try.call145, Try.f145, Try.func145, by kernel_rfl, rfl, rfl, by kernel_rfl⟩
noncomputable def sg145 : Sg := ⟨[.val (.list (.rcd .cell))], [(false, .int .i64)]⟩
theorem rf145 (fu : Nat) (x0 : List CellD) : model pg (callN pg fu ⟨cs100 fu, spsT, fnsT⟩ 12) fu fa145 sg145 x0 = m_i_cellsFault fu x0 := by kernel_rfl
noncomputable def cs145 (fu : Nat) : List (FuncId × Con) := (145, ⟨sg145, false, fun x => m_i_cellsFault fu x⟩) :: cs100 fu
theorem ck145 (fu : Nat) : ConsOk Try.prog (cs145 fu) := step_ok hT hM gkP (ck100 fu) spsOk fnsOk fo145 fun x => rf145 fu x
noncomputable def fa125 : FnA := ⟨⟨22, codeOf Try.f125, [.tmp 2]⟩, .seq (.reg (upto 2)) (.seq (.block (.seq (.join ⟨[3, 4, 5, 6, 7, 8, 9, 10, 11, 12, 13], [], true, [(.normal, ⟨[(3, .bool)], []⟩)]⟩ (.reg (upto 11))) (.cond (.seq (.reg (upto 1)) (.leaf)) (.seq (.reg (upto 5)) (.cond (.seq (.reg (upto 1)) (.leaf)) (.leaf)))))) (.seq (.reg (upto 4)) (.leaf)))⟩
theorem fo125 : FnOk Try.prog 125 fa125 := ⟨Try.call125, Try.f125, Try.func125, by kernel_rfl, rfl, rfl, by kernel_rfl⟩
noncomputable def sg125 : Sg := ⟨[.val (.rcd .page)], [(false, .int .i64)]⟩
theorem rf125 (fu : Nat) (x0 : PageD) : model pg (callN pg fu ⟨cs145 fu, spsT, fnsT⟩ 12) fu fa125 sg125 x0 = m_i_PageFault fu x0 := by kernel_rfl
noncomputable def cs125 (fu : Nat) : List (FuncId × Con) := (125, ⟨sg125, false, fun x => m_i_PageFault fu x⟩) :: cs145 fu
theorem ck125 (fu : Nat) : ConsOk Try.prog (cs125 fu) := step_ok hT hM gkP (ck145 fu) spsOk fnsOk fo125 fun x => rf125 fu x
noncomputable def fa126 : FnA := ⟨⟨40, codeOf Try.f126, [.tmp 2]⟩, .seq (.reg (upto 2)) (.seq (.draw [] [(0, 0), (1, 1), (3, 0), (4, 1), (6, 0), (7, 1), (8, 1), (2, 2), (5, 2), (9, 2), (10, 4)]) (.seq (.seq (.reg (upto 4)) (.block (.loop ⟨[3, 5, 19, 20, 21, 22, 23, 24, 25, 26, 27, 28, 29, 30], [(.row, (.tmp 3))], false, [((.exit 0), ⟨[(3, .row 0)], [.row 0 true (.int .u8)]⟩)]⟩ ⟨[(3, .row 0), (19, .int .i64)], [.row 0 true (.int .u8)]⟩ (.seq (.reg (upto 1)) (.seq (.cond (.leaf) (.leaf)) (.seq (.block (.seq (.reg (upto 4)) (.draw [(.tmp 3)] [(0, 0), (1, 0), (2, 1), (4, 0), (5, 1), (3, 2), (6, 2), (7, 4)]))) (.reg (upto 2)))))))) (.seq (.reg (upto 6)) (.seq (.reg (upto 5)) (.leaf)))))⟩
theorem fo126 : FnOk Try.prog 126 fa126 := ⟨Try.call126, Try.f126, Try.func126, by kernel_rfl, rfl, rfl, by kernel_rfl⟩
noncomputable def sg126 : Sg := ⟨[.val (.rcd .page)], [(true, .list (.int .u8))]⟩
theorem rf126 (fu : Nat) (x0 : PageD) : model pg (callN pg fu ⟨cs125 fu, spsT, fnsT⟩ 12) fu fa126 sg126 x0 = m_i_Page_pack fu x0 := by kernel_rfl
noncomputable def cs126 (fu : Nat) : List (FuncId × Con) := (126, ⟨sg126, false, fun x => m_i_Page_pack fu x⟩) :: cs125 fu
theorem ck126 (fu : Nat) : ConsOk Try.prog (cs126 fu) := step_ok hT hM gkP (ck125 fu) spsOk fnsOk fo126 fun x => rf126 fu x
noncomputable def fa87 : FnA := ⟨⟨77, codeOf Try.f87, [.cell 2 60]⟩, .seq (.reg (upto 1)) (.seq (.seq (.reg (upto 3)) (.cond (.seq (.reg (upto 2)) (.leaf)) (.leaf))) (.seq (.reg (upto 1)) (.seq (.seq (.draw [] [(0, 0), (1, 0), (2, 0), (4, 0), (5, 0), (6, 0), (3, 2), (7, 2), (8, 0)]) (.cond (.seq (.reg (upto 2)) (.leaf)) (.leaf))) (.seq (.draw [] [(0, 0), (1, 0), (3, 0), (4, 0), (2, 2), (5, 2), (6, 0), (7, 3), (8, 4)]) (.seq (.seq (.reg (upto 6)) (.block (.loop ⟨[5, 6, 33, 34, 35, 36, 37, 38, 39, 40, 41, 42, 43, 44, 45, 46, 47, 48, 49, 50, 51, 52, 53, 54, 55, 56, 57, 58, 59, 60, 61, 62, 63], [(.cell [0, 1, 2, 3], (.tmp 2)), (.cell [2], (.tmp 4))], false, [((.exit 0), ⟨[], [.cell 0 [.int .i64, .int .i64, .int .i64, .nil], .cell 1 [.lk, .lk, .row 0], .row 0 true (.rcd .cell)]⟩), (.ret, ⟨[], [.cell 0 [.int .i64, .int .i64, .int .i64, .nil], .cell 1 [.lk, .lk, .row 0], .row 0 true (.rcd .cell)]⟩)]⟩ ⟨[(33, .int .i64)], [.cell 0 [.int .i64, .int .i64, .int .i64, .nil], .cell 1 [.lk, .lk, .row 0], .row 0 true (.rcd .cell)]⟩ (.seq (.reg (upto 1)) (.seq (.cond (.leaf) (.leaf)) (.seq (.block (.seq (.reg (upto 2)) (.seq (.reg (upto 4)) (.seq (.seq (.reg (upto 4)) (.cond (.seq (.reg (upto 2)) (.leaf)) (.leaf))) (.draw [(.fld (.tmp 4) 2)] [(0, 0), (1, 1), (2, 0), (3, 0), (4, 0), (5, 0), (6, 0), (8, 0), (9, 0), (10, 0), (11, 0), (12, 0), (13, 0), (7, 2), (14, 2), (15, 0), (16, 2), (17, 2), (18, 4), (19, 4)]))))) (.reg (upto 2)))))))) (.seq (.seq (.join ⟨[64, 65, 66, 67, 68, 69, 70, 71, 72, 73], [], true, [(.normal, ⟨[(73, .bool)], []⟩)]⟩ (.reg (upto 10))) (.cond (.seq (.reg (upto 2)) (.leaf)) (.leaf))) (.seq (.reg (upto 3)) (.leaf))))))))⟩
theorem fo87 : FnOk Try.prog 87 fa87 := ⟨Try.call87, Try.f87, Try.func87, by kernel_rfl, rfl, rfl, by kernel_rfl⟩
noncomputable def sg87 : Sg := ⟨[.val (.list (.int .u8))], [(true, .rcd .pageResult)]⟩
theorem rf87 (fu : Nat) (x0 : List Int) : model pg (callN pg fu ⟨cs126 fu, spsT, fnsT⟩ 12) fu fa87 sg87 x0 = m_i_UnpackPage fu x0 := by kernel_rfl
noncomputable def cs87 (fu : Nat) : List (FuncId × Con) := (87, ⟨sg87, false, fun x => m_i_UnpackPage fu x⟩) :: cs126 fu
theorem ck87 (fu : Nat) : ConsOk Try.prog (cs87 fu) := step_ok hT hM gkP (ck126 fu) spsOk fnsOk fo87 fun x => rf87 fu x
noncomputable def fa44 : FnA := ⟨⟨24, codeOf Try.f44, [.cell 4 60]⟩, .seq (.reg (upto 2)) (.seq (.reg (upto 8)) (.seq (.seq (.join ⟨[12, 13, 14, 15, 16, 17, 18, 19, 20, 21], [], true, [(.normal, ⟨[(21, .bool)], []⟩)]⟩ (.reg (upto 10))) (.cond (.seq (.reg (upto 2)) (.leaf)) (.leaf))) (.seq (.reg (upto 2)) (.leaf))))⟩
theorem fo44 : FnOk Try.prog 44 fa44 := ⟨Try.call44, Try.f44, Try.func44, by kernel_rfl, rfl, rfl, by kernel_rfl⟩
noncomputable def sg44 : Sg := ⟨[.val (.rcd .disk), .val (.int .i64)], [(true, .rcd .pageResult)]⟩
theorem rf44 (fu : Nat) (x0 : DiskD) (x1 : Int) : model pg (callN pg fu ⟨cs87 fu, spsT, fnsT⟩ 12) fu fa44 sg44 (x0, x1) = m_i_Disk_read fu x0 x1 := by kernel_rfl
noncomputable def cs44 (fu : Nat) : List (FuncId × Con) := (44, ⟨sg44, false, fun x => m_i_Disk_read fu x.1 x.2⟩) :: cs87 fu
theorem ck44 (fu : Nat) : ConsOk Try.prog (cs44 fu) := step_ok hT hM gkP (ck87 fu) spsOk fnsOk fo44 fun x => rf44 fu x.1 x.2
noncomputable def fa46 : FnA := ⟨⟨63, codeOf Try.f46, [.tmp 4]⟩, .seq (.reg (upto 2)) (.seq (.reg (upto 8)) (.seq (.seq (.reg (upto 1)) (.block (.loop ⟨[5, 6, 7, 8, 9, 10, 18, 19, 20, 21, 22, 23, 24, 25, 26, 27, 28, 29, 30, 31, 32, 33, 34, 35, 36, 37, 38, 39, 40, 41, 42, 43, 44, 45, 46, 47, 48, 49, 50, 51, 52, 53, 54, 55, 56, 57, 58, 59, 60, 61], [(.row, (.tmp 5))], false, [((.exit 0), ⟨[(5, .row 0)], [.row 0 true (.list (.int .u8))]⟩)]⟩ ⟨[(5, .row 0), (6, .int .i64)], [.row 0 true (.list (.int .u8))]⟩ (.seq (.seq (.reg (upto 6)) (.cond (.leaf) (.leaf))) (.seq (.join ⟨[5, 7, 8, 9, 10, 26, 27, 28, 29, 30, 31, 32, 33, 34, 35, 36, 37, 38, 39, 40, 41, 42, 43, 44, 45, 46, 47, 48, 49, 50, 51, 52, 53, 54, 55, 56, 57, 58, 59, 60, 61], [(.row, (.tmp 5))], false, [(.normal, ⟨[(5, .row 0)], [.row 0 true (.list (.int .u8))]⟩)]⟩ (.block (.seq (.reg (upto 3)) (.seq (.seq (.reg (upto 8)) (.block (.loop ⟨[7, 8, 9, 10, 34, 35, 36, 37, 38, 39, 40, 41, 42, 43, 44, 45, 46, 47, 48, 49, 50, 51, 52, 53, 54, 55, 56], [(.row, (.tmp 7))], false, [((.exit 2), ⟨[(7, .row 0), (8, .bool)], [.row 0 true (.int .u8)]⟩)]⟩ ⟨[(7, .row 0), (8, .bool), (34, .int .i64)], [.row 0 true (.int .u8)]⟩ (.seq (.reg (upto 1)) (.seq (.cond (.leaf) (.leaf)) (.seq (.block (.seq (.reg (upto 6)) (.seq (.join ⟨[8, 39, 40, 41, 42, 43, 44, 45, 46, 47, 48, 49, 50, 51], [], true, [(.normal, ⟨[(8, .bool)], []⟩)]⟩ (.reg (upto 14))) (.reg (upto 5))))) (.reg (upto 2)))))))) (.seq (.reg (upto 1)) (.cond (.reg (upto 5)) (.leaf))))))) (.reg (upto 3))))))) (.seq (.reg (upto 2)) (.leaf))))⟩
theorem fo46 : FnOk Try.prog 46 fa46 := ⟨Try.call46, Try.f46, Try.func46, by kernel_rfl, rfl, rfl, by kernel_rfl⟩
noncomputable def sg46 : Sg := ⟨[.val (.rcd .disk), .val (.int .i64)], [(true, .list (.list (.int .u8)))]⟩
theorem rf46 (fu : Nat) (x0 : DiskD) (x1 : Int) : model pg (callN pg fu ⟨cs44 fu, spsT, fnsT⟩ 12) fu fa46 sg46 (x0, x1) = m_i_Disk_images fu x0 x1 := by kernel_rfl
noncomputable def cs46 (fu : Nat) : List (FuncId × Con) := (46, ⟨sg46, false, fun x => m_i_Disk_images fu x.1 x.2⟩) :: cs44 fu
theorem ck46 (fu : Nat) : ConsOk Try.prog (cs46 fu) := step_ok hT hM gkP (ck44 fu) spsOk fnsOk fo46 fun x => rf46 fu x.1 x.2
noncomputable def fa12 : FnA := ⟨⟨48, codeOf Try.f12, [.tmp 4]⟩, .seq (.reg (upto 3)) (.seq (.seq (.join ⟨[7, 8, 9, 10, 11, 12, 13, 14, 15, 16, 17, 18, 19, 20, 21, 22, 23], [], true, [(.normal, ⟨[(23, .bool)], []⟩)]⟩ (.reg (upto 17))) (.cond (.seq (.reg (upto 1)) (.leaf)) (.leaf))) (.seq (.reg (upto 6)) (.seq (.seq (.reg (upto 4)) (.block (.loop ⟨[4, 6, 31, 32, 33, 34, 35, 36, 37, 38, 39, 40, 41, 42, 43, 44, 45, 46, 47], [], true, [((.exit 0), ⟨[], []⟩), (.ret, ⟨[(4, .bool)], []⟩)]⟩ ⟨[(31, .int .i64)], []⟩ (.seq (.reg (upto 1)) (.seq (.cond (.leaf) (.leaf)) (.seq (.block (.seq (.reg (upto 3)) (.seq (.join ⟨[34, 35, 36, 37, 38, 39, 40, 41, 42, 43, 44, 45, 46], [], true, [(.normal, ⟨[(46, .bool)], []⟩)]⟩ (.reg (upto 13))) (.cond (.seq (.reg (upto 1)) (.leaf)) (.leaf))))) (.reg (upto 2)))))))) (.seq (.reg (upto 1)) (.leaf)))))⟩
theorem fo12 : FnOk Try.prog 12 fa12 := ⟨Try.call12, Try.f12, Try.func12, by kernel_rfl, rfl, rfl, by kernel_rfl⟩
noncomputable def sg12 : Sg := ⟨[.val (.rcd .disk), .val (.rcd .disk)], [(false, .bool)]⟩
theorem rf12 (fu : Nat) (x0 : DiskD) (x1 : DiskD) : model pg (callN pg fu ⟨cs46 fu, spsT, fnsT⟩ 12) fu fa12 sg12 (x0, x1) = m_i_ReadsWhole fu x0 x1 := by kernel_rfl
noncomputable def cs12 (fu : Nat) : List (FuncId × Con) := (12, ⟨sg12, false, fun x => m_i_ReadsWhole fu x.1 x.2⟩) :: cs46 fu
theorem ck12 (fu : Nat) : ConsOk Try.prog (cs12 fu) := step_ok hT hM gkP (ck46 fu) spsOk fnsOk fo12 fun x => rf12 fu x.1 x.2
noncomputable def fa90 : FnA := ⟨⟨26, codeOf Try.f90, [.tmp 4]⟩, .seq (.reg (upto 1)) (.seq (.seq (.reg (upto 5)) (.cond (.seq (.reg (upto 1)) (.leaf)) (.leaf))) (.seq (.seq (.reg (upto 1)) (.block (.loop ⟨[4, 5, 11, 12, 13, 14, 15, 16, 17, 18, 19, 20, 21, 22, 23, 24, 25], [], true, [((.exit 0), ⟨[], []⟩), (.ret, ⟨[(4, .bool)], []⟩)]⟩ ⟨[(5, .int .i64)], []⟩ (.seq (.seq (.reg (upto 4)) (.cond (.leaf) (.leaf))) (.seq (.block (.seq (.draw [] [(0, 0), (1, 0), (2, 1), (3, 1), (4, 0), (5, 0), (6, 1), (7, 1), (8, 0)]) (.cond (.seq (.reg (upto 1)) (.leaf)) (.leaf)))) (.reg (upto 3))))))) (.seq (.reg (upto 1)) (.leaf))))⟩
theorem fo90 : FnOk Try.prog 90 fa90 := ⟨Try.call90, Try.f90, Try.func90, by kernel_rfl, rfl, rfl, by kernel_rfl⟩
noncomputable def sg90 : Sg := ⟨[.val (.list (.int .u8)), .val (.list (.int .u8))], [(false, .bool)]⟩
theorem rf90 (fu : Nat) (x0 : List Int) (x1 : List Int) : model pg (callN pg fu ⟨cs12 fu, spsT, fnsT⟩ 12) fu fa90 sg90 (x0, x1) = m_l_eqByteS fu x0 x1 := by kernel_rfl
noncomputable def cs90 (fu : Nat) : List (FuncId × Con) := (90, ⟨sg90, false, fun x => m_l_eqByteS fu x.1 x.2⟩) :: cs12 fu
theorem ck90 (fu : Nat) : ConsOk Try.prog (cs90 fu) := step_ok hT hM gkP (ck12 fu) spsOk fnsOk fo90 fun x => rf90 fu x.1 x.2
noncomputable def fa49 : FnA := ⟨⟨27, codeOf Try.f49, [.tmp 4]⟩, .seq (.reg (upto 1)) (.seq (.seq (.reg (upto 5)) (.cond (.seq (.reg (upto 1)) (.leaf)) (.leaf))) (.seq (.seq (.reg (upto 1)) (.block (.loop ⟨[4, 5, 11, 12, 13, 14, 15, 16, 17, 18, 19, 20, 21, 22, 23, 24, 25, 26], [], true, [((.exit 0), ⟨[], []⟩), (.ret, ⟨[(4, .bool)], []⟩)]⟩ ⟨[(5, .int .i64)], []⟩ (.seq (.seq (.reg (upto 4)) (.cond (.leaf) (.leaf))) (.seq (.block (.seq (.draw [] [(0, 0), (1, 0), (2, 1), (3, 1), (4, 0), (5, 0), (6, 1), (7, 1), (8, 2), (9, 0)]) (.cond (.seq (.reg (upto 1)) (.leaf)) (.leaf)))) (.reg (upto 3))))))) (.seq (.reg (upto 1)) (.leaf))))⟩
theorem fo49 : FnOk Try.prog 49 fa49 := ⟨Try.call49, Try.f49, Try.func49, by kernel_rfl, rfl, rfl, by kernel_rfl⟩
noncomputable def sg49 : Sg := ⟨[.val (.list (.list (.int .u8))), .val (.list (.list (.int .u8)))], [(false, .bool)]⟩
theorem rf49 (fu : Nat) (x0 : List (List Int)) (x1 : List (List Int)) : model pg (callN pg fu ⟨cs90 fu, spsT, fnsT⟩ 12) fu fa49 sg49 (x0, x1) = m_l_eqByteSS fu x0 x1 := by kernel_rfl
noncomputable def cs49 (fu : Nat) : List (FuncId × Con) := (49, ⟨sg49, false, fun x => m_l_eqByteSS fu x.1 x.2⟩) :: cs90 fu
theorem ck49 (fu : Nat) : ConsOk Try.prog (cs49 fu) := step_ok hT hM gkP (ck90 fu) spsOk fnsOk fo49 fun x => rf49 fu x.1 x.2
noncomputable def fa91 : FnA := ⟨⟨21, codeOf Try.f91, [.tmp 4]⟩, .seq (.reg (upto 3)) (.seq (.seq (.reg (upto 5)) (.cond (.seq (.reg (upto 1)) (.leaf)) (.leaf))) (.seq (.seq (.reg (upto 5)) (.cond (.seq (.reg (upto 1)) (.leaf)) (.leaf))) (.seq (.seq (.reg (upto 6)) (.cond (.seq (.reg (upto 1)) (.leaf)) (.leaf))) (.seq (.reg (upto 1)) (.leaf)))))⟩
theorem fo91 : FnOk Try.prog 91 fa91 := ⟨Try.call91, Try.f91, Try.func91, by kernel_rfl, rfl, rfl, by kernel_rfl⟩
noncomputable def sg91 : Sg := ⟨[.val (.rcd .loose), .val (.rcd .loose)], [(false, .bool)]⟩
theorem rf91 (fu : Nat) (x0 : LooseD) (x1 : LooseD) : model pg (callN pg fu ⟨cs49 fu, spsT, fnsT⟩ 12) fu fa91 sg91 (x0, x1) = m_l_eqLoose fu x0 x1 := by kernel_rfl
noncomputable def cs91 (fu : Nat) : List (FuncId × Con) := (91, ⟨sg91, false, fun x => m_l_eqLoose fu x.1 x.2⟩) :: cs49 fu
theorem ck91 (fu : Nat) : ConsOk Try.prog (cs91 fu) := step_ok hT hM gkP (ck49 fu) spsOk fnsOk fo91 fun x => rf91 fu x.1 x.2
noncomputable def fa50 : FnA := ⟨⟨27, codeOf Try.f50, [.tmp 4]⟩, .seq (.reg (upto 1)) (.seq (.seq (.reg (upto 5)) (.cond (.seq (.reg (upto 1)) (.leaf)) (.leaf))) (.seq (.seq (.reg (upto 1)) (.block (.loop ⟨[4, 5, 11, 12, 13, 14, 15, 16, 17, 18, 19, 20, 21, 22, 23, 24, 25, 26], [], true, [((.exit 0), ⟨[], []⟩), (.ret, ⟨[(4, .bool)], []⟩)]⟩ ⟨[(5, .int .i64)], []⟩ (.seq (.seq (.reg (upto 4)) (.cond (.leaf) (.leaf))) (.seq (.block (.seq (.draw [] [(0, 0), (1, 0), (2, 1), (3, 1), (4, 0), (5, 0), (6, 1), (7, 1), (8, 2), (9, 0)]) (.cond (.seq (.reg (upto 1)) (.leaf)) (.leaf)))) (.reg (upto 3))))))) (.seq (.reg (upto 1)) (.leaf))))⟩
theorem fo50 : FnOk Try.prog 50 fa50 := ⟨Try.call50, Try.f50, Try.func50, by kernel_rfl, rfl, rfl, by kernel_rfl⟩
noncomputable def sg50 : Sg := ⟨[.val (.list (.rcd .loose)), .val (.list (.rcd .loose))], [(false, .bool)]⟩
theorem rf50 (fu : Nat) (x0 : List LooseD) (x1 : List LooseD) : model pg (callN pg fu ⟨cs91 fu, spsT, fnsT⟩ 12) fu fa50 sg50 (x0, x1) = m_l_eqLooseS fu x0 x1 := by kernel_rfl
noncomputable def cs50 (fu : Nat) : List (FuncId × Con) := (50, ⟨sg50, false, fun x => m_l_eqLooseS fu x.1 x.2⟩) :: cs91 fu
theorem ck50 (fu : Nat) : ConsOk Try.prog (cs50 fu) := step_ok hT hM gkP (ck91 fu) spsOk fnsOk fo50 fun x => rf50 fu x.1 x.2
noncomputable def fa13 : FnA := ⟨⟨17, codeOf Try.f13, [.tmp 4]⟩, .seq (.reg (upto 3)) (.seq (.seq (.reg (upto 6)) (.cond (.seq (.reg (upto 1)) (.leaf)) (.leaf))) (.seq (.seq (.reg (upto 6)) (.cond (.seq (.reg (upto 1)) (.leaf)) (.leaf))) (.seq (.reg (upto 1)) (.leaf))))⟩
theorem fo13 : FnOk Try.prog 13 fa13 := ⟨Try.call13, Try.f13, Try.func13, by kernel_rfl, rfl, rfl, by kernel_rfl⟩
noncomputable def sg13 : Sg := ⟨[.val (.rcd .disk), .val (.rcd .disk)], [(false, .bool)]⟩
theorem rf13 (fu : Nat) (x0 : DiskD) (x1 : DiskD) : model pg (callN pg fu ⟨cs50 fu, spsT, fnsT⟩ 12) fu fa13 sg13 (x0, x1) = m_l_eqDisk fu x0 x1 := by kernel_rfl
noncomputable def cs13 (fu : Nat) : List (FuncId × Con) := (13, ⟨sg13, false, fun x => m_l_eqDisk fu x.1 x.2⟩) :: cs50 fu
theorem ck13 (fu : Nat) : ConsOk Try.prog (cs13 fu) := step_ok hT hM gkP (ck50 fu) spsOk fnsOk fo13 fun x => rf13 fu x.1 x.2
noncomputable def fa3 : FnA := ⟨⟨45, codeOf Try.f3, [.tmp 4]⟩, .seq (.reg (upto 3)) (.seq (.reg (upto 1)) (.seq (.reg (upto 4)) (.seq (.seq (.reg (upto 2)) (.cond (.seq (.reg (upto 1)) (.leaf)) (.leaf))) (.seq (.reg (upto 4)) (.seq (.seq (.reg (upto 2)) (.cond (.seq (.reg (upto 1)) (.leaf)) (.leaf))) (.seq (.draw [] [(0, 1), (2, 1), (1, 2), (3, 2), (4, 2), (5, 4)]) (.seq (.reg (upto 4)) (.seq (.reg (upto 4)) (.seq (.reg (upto 4)) (.seq (.seq (.reg (upto 3)) (.cond (.seq (.reg (upto 1)) (.leaf)) (.leaf))) (.seq (.seq (.draw [] [(0, 1), (1, 1), (2, 2), (3, 2), (4, 0)]) (.cond (.seq (.reg (upto 1)) (.leaf)) (.leaf))) (.seq (.seq (.draw [] [(0, 1), (1, 1), (2, 2), (3, 2), (4, 0)]) (.cond (.seq (.reg (upto 1)) (.leaf)) (.leaf))) (.seq (.reg (upto 1)) (.leaf))))))))))))))⟩
theorem fo3 : FnOk Try.prog 3 fa3 := ⟨Try.call3, Try.f3, Try.func3, by kernel_rfl, rfl, rfl, by kernel_rfl⟩
noncomputable def sg3 : Sg := ⟨[.val (.rcd .disk), .val (.rcd .disk)], [(false, .bool)]⟩
theorem rf3 (fu : Nat) (x0 : DiskD) (x1 : DiskD) : model pg (callN pg fu ⟨cs13 fu, spsT, fnsT⟩ 12) fu fa3 sg3 (x0, x1) = m_l_FnExactReadsWhole fu x0 x1 := by kernel_rfl
noncomputable def cs3 (fu : Nat) : List (FuncId × Con) := (3, ⟨sg3, false, fun x => m_l_FnExactReadsWhole fu x.1 x.2⟩) :: cs13 fu
theorem ck3 (fu : Nat) : ConsOk Try.prog (cs3 fu) := step_ok hT hM gkP (ck13 fu) spsOk fnsOk fo3 fun x => rf3 fu x.1 x.2
theorem law3 {x0 : DiskD} {x1 : DiskD} {u0 u1 : AV} (h0 : ParOk Heap.emp (.val (.rcd .disk)) x0 u0) (h1 : ParOk Heap.emp (.val (.rcd .disk)) x1 u1) (hm : ∃ fu, m_l_FnExactReadsWhole fu x0 x1 = some true) : CA Try.prog 3 [u0, u1] Heap.emp 0 (fun r _ _ => r = .bool true) := by
  obtain ⟨fu, hm⟩ := hm
  exact law_end (ck3 fu 3 _ rfl) (x := (x0, x1)) ⟨u0, _, rfl, h0, ⟨u1, rfl, h1⟩⟩ rfl ⟨true, hm, HEq.rfl⟩
theorem ty25 : TyC Try.prog pg 25 [.list (.list (.int .u8)), .list (.rcd .loose)] := (.struct 25 [(0, 22), (1, 23)] [.list (.list (.int .u8)), .list (.rcd .loose)] rfl (by kernel_rfl) (.cons 0 22 [(1, 23)] [.list (.list (.int .u8))] [.list (.rcd .loose)] (.slice 22 64 (.list (.int .u8)) [.list (.int .u8)] rfl (by kernel_rfl) (.slice 64 5 (.int .u8) [.int .u8] rfl (by kernel_rfl) (.int 5 .u8 rfl (by kernel_rfl)) rfl fun _ => rfl) rfl fun _ => rfl) (.cons 1 23 [] [.list (.rcd .loose)] [] (.slice 23 95 (.rcd .loose) [.int .i64, .int .i64, .list (.int .u8)] rfl (by kernel_rfl) (.struct 95 [(0, 2), (1, 2), (2, 64)] [.int .i64, .int .i64, .list (.int .u8)] rfl (by kernel_rfl) (.cons 0 2 [(1, 2), (2, 64)] [.int .i64] [.int .i64, .list (.int .u8)] (.int 2 .i64 rfl (by kernel_rfl)) (.cons 1 2 [(2, 64)] [.int .i64] [.list (.int .u8)] (.int 2 .i64 rfl (by kernel_rfl)) (.cons 2 64 [] [.list (.int .u8)] [] (.slice 64 5 (.int .u8) [.int .u8] rfl (by kernel_rfl) (.int 5 .u8 rfl (by kernel_rfl)) rfl fun _ => rfl) (.nil _))))) rfl fun _ => rfl) (.nil _))))
end
end Go.Proofs.Ytcngfjmfgeckmaa
end
namespace Go.Proofs.Ytcngfjmfgeckmaa
open Go
theorem wr {x : Int} (h1 : -9223372036854775808 ≤ x) (h2 : x < 9223372036854775808) : IntKind.i64.wrap x = x := by rw [IntKind.wrap_i64]; omega
theorem wsucc {i : Nat} (h : i < 9223372036854775807) : IntKind.i64.wrap ((i : Int) + 1) = ((i + 1 : Nat) : Int) := by rw [wr (by omega) (by omega)]; rfl
theorem atI_nat {α : Type} (l : List α) (i : Nat) : atI l (i : Int) = l[i]? := by simp [atI]
theorem setI_nat {α : Type} (l : List α) (i : Nat) (a : α) : setI l (i : Int) a = l.set i a := by simp [setI]
theorem appI_ok {α : Type} {b : Nat} {l l2 : List α} (h1 : (l.length + l2.length) * b ≤ 140737488355328) (h2 : l.length + l2.length ≤ 140737488355328) : appI b l l2 = some (l ++ l2) := by
  simp [appI, roomI, h1, h2]
theorem cloneI_ok {α : Type} {b fu : Nat} {l : List α} (h1 : l.length * b ≤ 140737488355328) (h2 : l.length ≤ 140737488355328) : cloneI b fu l = some l := by
  simp [cloneI, roomI, h1, h2]
theorem mkI_ok {α : Type} {b n : Nat} {z : α} (h1 : n * b ≤ 140737488355328) (h2 : n ≤ 140737488355328) : mkI b (n : Int) (n : Int) z = some (List.replicate n z) := by
  simp [mkI, roomI, h1, h2]
theorem slcI_nat {α : Type} {l : List α} {i j : Nat} (h1 : i ≤ j) (h2 : j ≤ l.length) : slcI l (i : Int) (j : Int) = some ((l.drop i).take (j - i)) := by
  have : ((j : Int) - (i : Int)).toNat = j - i := by omega
  simp [slcI, h1, h2, this]
section
variable {α β σ ρ : Type}
theorem iter_step {step : σ → Option (σ ⊕ ρ)} {s s' : σ} {fu : Nat} (h : step s = some (.inl s')) : iterO step (fu + 1) s = iterO step fu s' := by simp [iterO, h]
theorem iter_out {step : σ → Option (σ ⊕ ρ)} {s : σ} {r : ρ} {fu : Nat} (h : step s = some (.inr r)) : iterO step (fu + 1) s = some r := by simp [iterO, h]
theorem iter_for {step : σ → Option (σ ⊕ ρ)} (st : Nat → σ) {r : ρ} {n : Nat} (hs : ∀ i, i < n → step (st i) = some (.inl (st (i + 1)))) (he : step (st n) = some (.inr r)) {fu : Nat} (hf : n < fu) : iterO step fu (st 0) = some r := by
  have : ∀ m i fu, i + m = n → m < fu → iterO step fu (st i) = some r := fun m => by
    induction m with
    | zero =>
      intro i fu h1 h2
      cases fu with
      | zero => omega
      | succ fu =>
        have hq : i = n := by omega
        rw [hq]; exact iter_out he
    | succ m ih =>
      intro i fu h1 h2
      cases fu with
      | zero => omega
      | succ fu => rw [iter_step (hs i (by omega))]; exact ih (i + 1) fu (by omega) (by omega)
  exact this n 0 fu (by omega) hf
theorem iter_copy {xs : List α} {z : α} {step : Int × List α → Option ((Int × List α) ⊕ List α)} (hs : ∀ (i : Nat) x l, xs[i]? = some x → l.length = xs.length → step ((i : Int), l) = some (.inl (((i + 1 : Nat) : Int), l.set i x)))
    (he : ∀ l, l.length = xs.length → step ((xs.length : Int), l) = some (.inr l)) {fu : Nat} (hf : xs.length < fu) : iterO step fu (0, List.replicate xs.length z) = some xs := by
  have h := iter_for (step := step) (n := xs.length) (r := xs) (fu := fu) (fun i => ((i : Int), xs.take i ++ List.replicate (xs.length - i) z)) (fun i hi => ?_) (by simpa using he xs rfl) hf
  · simpa using h
  · have hx : xs[i]? = some xs[i] := List.getElem?_eq_getElem hi
    rw [hs i _ _ hx (by simp; omega)]
    congr 3
    apply List.ext_getElem?
    intro k
    rw [List.getElem?_set]
    by_cases hk : i = k
    · subst hk
      rw [if_pos rfl, if_pos (by simp; omega), List.getElem?_append_left (by simp; omega), List.getElem?_take, if_pos (by omega), hx]
    · rw [if_neg hk]
      by_cases hk2 : k < i
      · rw [List.getElem?_append_left (by simp; omega), List.getElem?_append_left (by simp; omega), List.getElem?_take, List.getElem?_take, if_pos hk2, if_pos (by omega)]
      · rw [List.getElem?_append_right (by simp; omega), List.getElem?_append_right (by simp; omega)]
        simp only [List.length_take, List.getElem?_replicate]
        have e1 : min i xs.length = i := by omega
        have e2 : min (i + 1) xs.length = i + 1 := by omega
        rw [e1, e2]
        by_cases hk3 : k < xs.length
        · rw [if_pos (by omega), if_pos (by omega)]
        · rw [if_neg (by omega), if_neg (by omega)]
theorem iter_push {xs : List α} {g : α → β} {step : Int × List β → Option ((Int × List β) ⊕ List β)} (hs : ∀ (i : Nat) x, xs[i]? = some x → step ((i : Int), (xs.take i).map g) = some (.inl (((i + 1 : Nat) : Int), (xs.take i).map g ++ [g x])))
    (he : step ((xs.length : Int), xs.map g) = some (.inr (xs.map g))) {fu : Nat} (hf : xs.length < fu) : iterO step fu (0, []) = some (xs.map g) := by
  have h := iter_for (step := step) (n := xs.length) (r := xs.map g) (fu := fu) (fun i => ((i : Int), (xs.take i).map g)) (fun i hi => ?_) (by simpa using he) hf
  · simpa using h
  · have hx : xs[i]? = some xs[i] := List.getElem?_eq_getElem hi
    rw [hs i _ hx]
    have : (xs.take (i + 1)) = xs.take i ++ [xs[i]] := by rw [List.take_add_one, hx]; rfl
    rw [this, List.map_append]
    rfl
end
end Go.Proofs.Ytcngfjmfgeckmaa
