import Derived.Test.YtcngfjmfgeckmaaZ11e
set_option linter.unusedSimpArgs false
set_option linter.unusedVariables false
set_option linter.unusedSectionVars false
namespace Go.Proofs.Ytcngfjmfgeckmaa
open Go
section
variable {B : Bas} {cx : Cx} {st : St} {L : Lay} {Es : List Env} {E : Env} {h : Heap} {n : Nat} {g : Pg} {α : Type} {y : α} {k : SV → St → Option α}
variable {env : SEnv} {ρ0 ρ1 ρ2 : Roots} {nx mc mc' : Nat} {D : Nat → Prop}
theorem OS.rowB {F h : Heap} {e : Bool} {t : PT} {xs : List t.den} {A : AV} {I : Ids0} (hv : OS F h (.rd e t xs) A I) : RowB .own F h t xs A I := by
  cases hv with
  | rdn _ _ _ hI => exact .inl ⟨rfl, rfl, hI⟩
  | emp _ _ _ hI => exact .inr (.inl ⟨rfl, rfl, hI⟩)
  | sl _ _ _ id off lo ex b _ J hb hle hlo hc hid hI => exact .inr (.inr ⟨id, off, lo, ex, b, J, rfl, hb, hle, hlo, hc, hid, hI⟩)
theorem Gam.split (H : Gam B cx ⟨env, ρ0, nx, mc⟩ L Es E h n) {r v w s u off : Nat} {i : Int} {t t' : PT} {xs : List t'.den} {x : t'.den} {ys : List t.den} {a0 : AV} (hlk : lkp ρ0 r = some (.row v w s .own none t' xs)) (hU : L.U u = i) (hu : u < nx) (hx : atI xs i = some x)
    (hz : nthS (explode t' x) off = some (.rd false t ys)) (ha : cellAt h (L.A r) i.toNat off = some a0) {ρ1 : Roots} (h1 : ∀ q, lkp ρ1 q = if q = r then some (.row v nx nx .own (some (u, off)) t' xs) else lkp ρ0 q) (hfst : ρ1.map Prod.fst = ρ0.map Prod.fst) :
    ∃ L1 I1, Gam B cx ⟨env, (nx, .row nx nx nx .own none t ys) :: ρ1, nx + 1, mc⟩ L1 Es E h n ∧ L1.F = L.F ∧ L1.A nx = a0 ∧ L1.ft nx = I1 ∧ RowB .own L.F h t ys a0 I1 ∧ (∀ z, I1 z → L.ft r z) ∧ (∀ q, q ≠ r → q ≠ nx → L1.ft q = L.ft q) ∧
      ∀ v a, TV L (rootOf cx ⟨env, ρ0, nx, mc⟩) mc h v a → v.lowN nx = true → TV L1 (rootOf cx ⟨env, (nx, .row nx nx nx .own none t ys) :: ρ1, nx + 1, mc⟩) mc h v a ∧ v.lowN (nx + 1) = true := by
  have hr : rootOf cx ⟨env, ρ0, nx, mc⟩ r = some (.row v w s .own none t' xs) := lkp_root hlk
  have hlow := H.lowT _ _ hr
  obtain ⟨i0, hx', hil⟩ := atI_some hx
  have hro : RowOk L h r .own none t' xs := H.th _ _ hr
  obtain ⟨id, off0, lo, qx, b, J, P⟩ := hro.rowP rfl (i := i.toNat) (by omega)
  have M := P.own rfl
  have hrn : r ≠ nx := low_of_root H hr
  have hes : ((b.drop off0).take xs.length).length = xs.length := by rw [List.length_take, List.length_drop]; have := P.le; have := P.xl; omega
  obtain ⟨e, he⟩ : ∃ e, ((b.drop off0).take xs.length)[i.toNat]? = some e := ⟨_, List.getElem?_eq_getElem (by omega)⟩
  have hbe := drop_take_get he
  have cellA : cellAt h (L.A r) i.toNat off = e.cells[off]? := by rw [P.A]; simp [cellAt, P.hb, hbe]
  rw [cellA] at ha
  rw [nthS_get] at hz
  have hOS := M.cell _ _ _ _ _ _ hx' he hz ha _root_.id
  have hoff : off < t'.w := by rw [← explode_len t' x]; exact (List.getElem?_eq_some_iff.1 hz).1
  have rt1 : ∀ q, rootOf cx ⟨env, ρ1, nx, mc⟩ q = if q = r then some (.row v nx nx .own (some (u, off)) t' xs) else rootOf cx ⟨env, ρ0, nx, mc⟩ q := fun q => by
    by_cases hq : q = r
    · subst hq; rw [if_pos rfl]; exact lkp_root (by rw [h1, if_pos rfl])
    · rw [if_neg hq, rootOf_jn, rootOf_jn]; simp only [h1, if_neg hq]
  have rt : ∀ q, rootOf cx ⟨env, (nx, .row nx nx nx .own none t ys) :: ρ1, nx + 1, mc⟩ q = if q = nx then some (.row nx nx nx .own none t ys) else rootOf cx ⟨env, ρ1, nx, mc⟩ q := fun q => by
    by_cases hq : q = nx
    · subst hq; rw [if_pos rfl]; exact lkp_root (by rw [lkp_cons, if_pos rfl])
    · rw [if_neg hq, rootOf_jn, rootOf_jn]
      simp only
      rw [lkp_cons, if_neg hq]
  let L1 : Lay := { L with A := fun q => open Classical in if q = nx then a0 else L.A q, ft := fun q => open Classical in if q = nx then J i.toNat off else if q = r then (fun z => z = id ∨ ∃ j o, (J j o z ∧ ¬ (j = i.toNat ∧ o = off))) else L.ft q }
  have A0 : L1.A nx = a0 := if_pos rfl
  have A1 : ∀ q, q ≠ nx → L1.A q = L.A q := fun q hq => if_neg hq
  have f0 : L1.ft nx = J i.toNat off := if_pos rfl
  have fr : L1.ft r = fun z => z = id ∨ ∃ j o, (J j o z ∧ ¬ (j = i.toNat ∧ o = off)) := by
    show (if r = nx then _ else if r = r then _ else _) = _
    rw [if_neg hrn, if_pos rfl]
  have f1 : ∀ q, q ≠ r → q ≠ nx → L1.ft q = L.ft q := fun q k1 k2 => by
    show (if q = nx then _ else if q = r then _ else _) = _
    rw [if_neg k2, if_neg k1]
  have inr : ∀ q z, (q = r ∨ q = nx) → L1.ft q z → L.ft r z := fun q z hq hz => by
    rcases hq with rfl | rfl
    · rw [fr] at hz
      exact (P.ft z).2 (hz.imp _root_.id fun ⟨j, o, k, _⟩ => ⟨j, o, k⟩)
    · rw [f0] at hz
      exact (P.ft z).2 (.inr ⟨_, _, hz⟩)
  have sep : ∀ z, L1.ft r z → L1.ft nx z → False := fun z k1 k2 => by
    rw [fr] at k1
    rw [f0] at k2
    rcases k1 with rfl | ⟨j, o, k1, k3⟩
    · exact P.nid _ _ k2
    · exact k3 (P.dis _ _ _ _ z k1 k2)
  have S : Stp cx ⟨env, ρ0, nx, mc⟩ ⟨env, (nx, .row nx nx nx .own none t ys) :: ρ1, nx + 1, mc⟩ L L1 h h n n (fun q => q = r ∨ q = nx) := {
    nx := Nat.le_succ nx
    nn := Nat.le_refl n
    env := rfl
    F := fun _ _ hb => hb
    Fh := H.fh
    Fnew := fun _ _ hb => .inl hb
    fr := fun _ _ => .inl rfl
    lt := H.hlt
    old := fun q hq => by
      simp only [not_or] at hq
      rw [rt, if_neg hq.2, rt1, if_neg hq.1]
      exact ⟨rfl, A1 q hq.2, rfl, f1 q hq.1 hq.2⟩
    U := fun _ _ => rfl
    row := fun q v2 w2 s2 md2 hl2 t2 xs2 hX hq hlt1 hlt2 => by
      have hqn : q ≠ nx := fun hq' => absurd hlt1 (by rw [hq']; exact Nat.lt_irrefl nx)
      have hqr : q = r := hX.resolve_right hqn
      subst hqr
      rw [rt, if_neg hqn, rt1, if_pos rfl] at hq
      cases hq
      exact ⟨w, s, .own, none, xs, hr, A1 _ hqn, rfl, fun hq => absurd hq (Nat.lt_irrefl _), fun hq => absurd hq (Nat.lt_irrefl _)⟩
    cell := fun q cs hX hq hlt1 => by
      have hqn : q ≠ nx := fun hq' => absurd hlt1 (by rw [hq']; exact Nat.lt_irrefl nx)
      have hqr : q = r := hX.resolve_right hqn
      subst hqr
      rw [rt, if_neg hqn, rt1, if_pos rfl] at hq
      cases hq
    low := fun q ρq hX hq => by
      by_cases hqn : q = nx
      · subst hqn
        rw [rt, if_pos rfl] at hq
        cases hq
        exact ⟨Nat.lt_succ_self _, Nat.lt_succ_self _, Nat.lt_succ_self _, Nat.lt_succ_self _, fun u o hq => by cases hq⟩
      · have hqr : q = r := hX.resolve_right hqn
        subst hqr
        rw [rt, if_neg hqn, rt1, if_pos rfl] at hq
        cases hq
        exact ⟨Nat.lt_succ_of_lt hlow.1, Nat.lt_succ_of_lt hlow.2.1, Nat.lt_succ_self _, Nat.lt_succ_self _, fun u o hq => by cases hq; exact Nat.lt_succ_of_lt hu⟩
    ft := fun q ρq z hX hq hz => by
      have hz' := inr q z hX hz
      have := H.ftF r _ z hr hz'
      refine ⟨this.1, this.2.2.1, .inr ⟨r, _, .inl rfl, hr, hz', ?_⟩⟩
      by_cases hqn : q = nx
      · subst hqn
        rw [rt, if_pos rfl] at hq
        cases hq; rfl
      · have hqr : q = r := hX.resolve_right hqn
        subst hqr
        rw [rt, if_neg hqn, rt1, if_pos rfl] at hq
        cases hq; rfl
    ap := fun q q' _ _ z k1 k2 _ _ k3 k4 => by
      rcases k1 with rfl | rfl <;> rcases k2 with rfl | rfl
      · rfl
      · exact (sep z k3 k4).elim
      · exact (sep z k4 k3).elim
      · rfl
    xk := fun q hX => hX.elim (fun hq => .inl (by rw [hq]; exact ⟨_, hlk⟩)) fun hq => .inr (by rw [hq]; exact Nat.le_refl _)
    key := fun q x hx => by
      simp only at hx
      rw [lkp_cons] at hx
      split at hx
      · rename_i hr; exact .inr (by rw [hr]; exact Nat.le_refl _)
      · rw [h1] at hx
        split at hx
        · rename_i hr; exact .inl (by rw [hr]; exact ⟨_, hlk⟩)
        · exact .inl ⟨x, hx⟩
    nd := by
      show (nx :: ρ1.map Prod.fst).Nodup
      rw [hfst]; exact H.cons_nd
    lkc := fun q ρq ρ0' k1 k2 => by
      simp only at k1
      rw [lkp_cons] at k1
      by_cases hqn : q = nx
      · subst hqn
        rw [(H.rootHi (Nat.le_refl _)).2] at k2; cases k2
      · rw [if_neg hqn, h1] at k1
        split at k1
        · rename_i hqr
          subst hqr
          rw [H.row0 hlk] at k2; cases k2
        · exact H.lkc _ _ _ k1 k2 }
  obtain ⟨R, G, tv⟩ := H.stepK S (Nat.lt_succ_of_lt H.mcl) rfl (fun _ _ => .inl rfl) (fun R T q ρq hX hq => by
    by_cases hqn : q = nx
    · subst hqn
      rw [rt, if_pos rfl] at hq
      cases hq
      show OS L.F h (.rd false t ys) (L1.A _) (L1.ft _)
      rw [A0, f0]
      exact hOS
    · have hqr : q = r := hX.resolve_right hqn
      subst hqr
      rw [rt, if_neg hqn, rt1, if_pos rfl] at hq
      cases hq
      show HoleOk L.F h t' xs (L1.A _) (L1.ft _) (L.U u) off
      rw [A1 _ hqn, fr, hU]
      refine ⟨id, off0, lo, qx, b, fun j o z => J j o z ∧ ¬ (j = i.toNat ∧ o = off), P.A, P.hb, P.le, P.xl, i0, by omega, hoff, ⟨M.len, M.el, fun j x2 e2 o v2 a2 q1 q2 q3 q4 q5 => (M.cell j x2 e2 o v2 a2 q1 q2 q3 q4 _root_.id).eqv fun z => ⟨fun hz => ⟨hz, q5⟩, fun hz => hz.1⟩, fun j o j' o' z q1 q2 => M.dis _ _ _ _ z q1.1 q2.1, fun j o z q1 => ⟨(M.sup _ _ _ q1.1).1, (M.sup _ _ _ q1.1).2.1, q1.2⟩⟩, fun j o hj => P.nid _ _ hj.1, fun z => Iff.rfl⟩)
  exact ⟨{ L1 with R := R }, J i.toNat off, G, rfl, A0, f0, hOS.rowB, fun z hz => (P.ft z).2 (.inr ⟨_, _, hz⟩), f1, tv⟩
theorem appendS_ok (H : Gam B cx st L Es E h n) {e : TypeId} {X Y : SV} {ax ay : AV} (hX : TV L (rootOf cx st) st.mc h X ax) (hXl : X.lowN st.nx = true) (hY : TV L (rootOf cx st) st.mc h Y ay) (hYl : Y.lowN st.nx = true) (hk : appendS g cx st e X Y k = some y) :
    appendP g.T e ax ay h n (Done B cx Es E y k) := by
  obtain ⟨env, ρ, nx, mc⟩ := st
  have fin : ∀ {es : List AV} {t : PT}, (g.T e).sz = t.w → rdSl h t.w ay = some es → appTo g.T e ax es h n (Done B cx Es E y k) → appendP g.T e ax ay h n (Done B cx Es E y k) := fun {es t} h1 h2 h3 => ⟨es, by rw [h1]; exact h2, by rw [h1]; exact t.w_pos, h3⟩
  have row : ∀ {r v w s : Nat} {md : Md} {t : PT} {xs0 xs : List t.den} {I1 : Ids0}, lkp ρ r = some (.row v w s md none t xs0) → Nat.beq (g.T e).sz t.w = true → md.isFz = false → RowB md L.F h t xs ax I1 → (∀ i, I1 i → L.ft r i) →
      srcK cx ⟨env, ρ, nx, mc⟩ t.flat Y t ρ (fun own' ys ρ => Option.bind (appI (g.T e).bytes xs ys) fun zs => updK ρ r (.row nx nx nx (Md.of (md.isOwn && own')) none t zs) fun ρ => k (.row r nx) ⟨env, ρ, nx + 1, nx⟩) = some y → appendP g.T e ax ay h n (Done B cx Es E y k) := fun {r v w s md t xs0 xs I1} hlk hb hm hB hI hq => by
    have hsz := Nat.eq_of_beq_eq_true hb
    obtain ⟨own, ys, ρ1, D, es, q1, q2, o⟩ := srcK_ok H hY hq (fun h => h)
    obtain ⟨zs, q3, q4⟩ := Option.bind_eq_some_iff.1 q1
    unfold appI at q3
    split at q3
    · rename_i hroom
      cases q3
      obtain ⟨ρ2, u1, ⟨oo, u2⟩, u3, u4⟩ := updK_ok q4
      have hr : rootOf cx ⟨env, ρ, nx, mc⟩ r = _ := lkp_root hlk
      have hD : ¬ D r := fun hq => by have := (q2.del r hq).1; rw [this] at u2; cases u2
      have hrl := (H.lowT _ _ hr).1
      refine fin hsz o.rd (app_core H q2 (r0 := r) (mc' := nx) (ρ2 := ρ2) hm hB (fun i hi => ⟨_, hr, hI i hi, rfl⟩) (.inr ⟨_, _, _, _, _, _, _, hlk⟩) hD o.own o.fz u4 (by rw [u3]; exact q2.nd) hsz hroom (.inr rfl) fun A' h' n' L' G tv => ⟨_, _, L', u1, tv, ?_, G⟩)
      simp only [SV.lowN, Bool.and_eq_true, Nat.blt_eq]
      exact ⟨Nat.lt_succ_of_lt hrl, Nat.lt_succ_self _⟩
    · cases q3
  simp only [appendS] at hk
  cases X with
  | nil =>
    simp only at hk
    split at hk
    · rename_i t ht
      obtain ⟨hb, hq⟩ := bif_some hk
      have hsz := Nat.eq_of_beq_eq_true hb
      obtain ⟨own, ys, ρ1, D, es, q1, q2, o⟩ := srcK_ok H hY hq (fun h => h)
      obtain ⟨zs, q3, q4⟩ := Option.bind_eq_some_iff.1 q1
      unfold appI at q3
      split at q3
      · rename_i hroom
        cases q3
        obtain ⟨k1, k2, k3, k4⟩ := q2.new H (.row nx nx nx (Md.of own) none t ([] ++ ys))
        rw [nil_inv hX]
        refine ⟨es, by rw [hsz]; exact o.rd, by rw [hsz]; exact t.w_pos, ?_⟩
        exact app_core H q2 (r0 := nx) (md := .own) (own := own) (mc' := mc) (xs := []) (I1 := fun _ => False) rfl (.inl ⟨rfl, rfl, fun _ hq => hq⟩) (fun _ hq => hq.elim) (.inl rfl) k3 o.own o.fz k1 k2 hsz hroom (.inl ⟨rfl, rfl⟩) fun A' h' n' L' G tv => ⟨_, _, L', q4, tv, row_low nx, G⟩
      · cases q3
    · cases hk
  | rd ex t xs =>
    cases ex with
    | false => cases hk
    | true =>
      obtain ⟨hb, hq⟩ := bif_some hk
      simp only [Bool.and_eq_true] at hb
      have hsz := Nat.eq_of_beq_eq_true hb.1
      have hfl := hb.2
      obtain ⟨own, ys, ρ1, D, es, q1, q2, o⟩ := srcK_ok H hY hq (fun h => h)
      obtain ⟨zs, q3, q4⟩ := Option.bind_eq_some_iff.1 q1
      unfold appI at q3
      split at q3
      · rename_i hroom
        cases q3
        obtain ⟨rb1, rb2⟩ := roomI_ok hroom
        have hf : Fz L.F (.rd true t xs) ax := by cases hX with | pl _ _ hf => exact hf
        have drow : ∀ {q}, D q → ∃ v w s md t xs, rootOf cx ⟨env, ρ, nx, mc⟩ q = some (.row v w s md none t xs) := fun hq => by
          obtain ⟨_, v, w, s, md, t, xs, hx⟩ := q2.del _ hq
          exact ⟨v, w, s, md, t, xs, lkp_root hx⟩
        have fl : FzL (frzF L.F h fun i => ∃ q, D q ∧ L.ft q i) t ys es := o.fz _ (frzF_sub fun i ⟨q, k1, k2⟩ => by
          obtain ⟨_, _, _, _, _, _, k3⟩ := drow k1
          exact (H.ftF q _ i k3 k2).1) fun q i b hq hi hb => frzF_at ⟨q, hq, hi⟩ hb
        have hesl : es.length = ys.length := fl.len
        split at q4
        · cases q4
        · rename_i hne
          have hes : es ≠ [] := by
            rintro rfl
            apply hne
            have : ys = [] := List.eq_nil_of_length_eq_zero hesl.symm
            rw [this]; rfl
          obtain ⟨exs, hrd, hxs⟩ := hf.rd H.fh
          have hexl : exs.length = xs.length := hxs.len
          have bd : Body .own L.F h t (xs ++ ys) ((exs ++ es).take (xs ++ ys).length) (fun _ => False) := by
            rw [List.take_of_length_le (by simp; omega)]
            exact Body.ofFlat hfl (FzL.append (hxs.mono (frzF_sub (h := h) (Y := fun i => ∃ q, D q ∧ L.ft q i) fun i ⟨q, k1, k2⟩ => by
              obtain ⟨_, _, _, _, _, _, k3⟩ := drow k1
              exact (H.ftF q _ i k3 k2).1)) fl)
          obtain ⟨L', G, tv0, _⟩ := H.newRow q2 (md := .own) (t := t) (xs := xs ++ ys) (b := exs ++ es) (lo := (xs ++ ys).length) (ex := false) (J := fun _ => False) rfl (fun _ _ hb => hb) H.fh (fun _ _ hb => .inl hb) (fun _ _ _ hq => hq.elim) (by simp; omega) (Nat.le_refl _) bd (fun _ hq => hq.elim)
          have done : Done B cx Es E y k (.sl t.w n 0 (xs.length + ys.length) (xs.length + ys.length) false) (h.upd n (exs ++ es)) (n + 1) := by
            rw [List.length_append] at tv0
            exact ⟨_, _, L', q4, tv0, row_low nx, G⟩
          refine fin hsz o.rd ?_
          cases hf with
          | rdn =>
            have hex0 : exs = [] := List.eq_nil_of_length_eq_zero hexl
            subst hex0
            refine ⟨by rw [hesl]; simpa using rb1, by rw [hesl]; simpa using rb2, ?_⟩
            rw [if_neg hes, hesl, hsz]
            simpa using done
          | ro _ ex' _ _ l he hc =>
            obtain rfl : l = exs := by simpa [rdSl] using hrd
            refine ⟨hsz.symm, by rw [hexl, hesl]; exact rb1, by rw [hexl, hesl]; exact rb2, ?_⟩
            rw [if_neg hes]
            exact ⟨he rfl, by rw [hexl, hesl]; exact done⟩
          | sl _ _ _ id off lo ex' b hb' hle hlo he hc =>
            obtain ⟨rfl, rfl⟩ := he rfl
            have hbb := H.fh _ _ hb'
            have hexb : exs = (b.drop off).take xs.length := by
              simp only [rdSl, if_true, hbb] at hrd
              rw [if_pos (by omega)] at hrd
              exact (Option.some.inj hrd).symm
            refine ⟨hsz.symm, by rw [hesl]; exact rb1, by rw [hesl]; exact rb2, b, hbb, hle, ?_⟩
            have hpos : 0 < es.length := List.length_pos_iff.2 hes
            rw [if_neg (by omega), if_pos rfl, ← hexb, hesl]
            exact done
      · cases q3
  | row r v =>
    simp only at hk
    split at hk
    · rename_i v' w s md t xs hlk
      obtain ⟨hb, hq⟩ := bif_some hk
      simp only [Bool.and_eq_true] at hb
      obtain rfl := Nat.eq_of_beq_eq_true hb.1.2
      have hm : md.isFz = false := by simpa using hb.2
      have hr : rootOf cx ⟨env, ρ, nx, mc⟩ r = _ := lkp_root hlk
      cases hX with
      | pl _ _ hf => cases hf
      | row _ _ _ hone hv' =>
        have hA := hv' _ _ _ _ _ _ hr
        have hro : RowOk L h r md none t xs := H.th _ _ hr
        exact row hlk hb.1.1 hm (by rw [hA]; exact hro.rowB hm) (fun i hi => hi) hq
    · cases hk
  | sub r v s i j ex t ys =>
    cases ex with
    | true => cases hk
    | false =>
      simp only at hk
      split at hk
      · rename_i v' w s' md t2 xs hlk
        obtain ⟨hb, hq⟩ := bif_some hk
        simp only [Bool.and_eq_true] at hb
        obtain rfl := Nat.eq_of_beq_eq_true hb.1.1.2
        have hss := Nat.eq_of_beq_eq_true hb.1.2
        have hm : md.isFz = false := by simpa using hb.2
        have hr : rootOf cx ⟨env, ρ, nx, mc⟩ r = _ := lkp_root hlk
        cases hX with
        | pl _ _ hf => cases hf
        | sub _ _ _ _ _ _ _ _ _ hone hv' =>
          obtain ⟨m1, hA, m3⟩ := hv' _ _ _ _ _ _ hr
          obtain ⟨zs, m4, m5⟩ := m3 hss
          cases m5
          have hro : RowOk L h r md none t xs := H.th _ _ hr
          obtain ⟨I', p1, p2⟩ := (hro.rowB hm).piece m4
          exact row hlk hb.1.1.1 hm (by rw [hA]; exact p1) p2 hq
      · cases hk
  | nst r v w u s i off t ys =>
    simp only at hk
    split at hk
    · rename_i v' w' s' t' xs hlk
      obtain ⟨hb, hq⟩ := bif_some hk
      simp only [Bool.and_eq_true] at hb
      obtain rfl := Nat.eq_of_beq_eq_true hb.1.1.2
      obtain rfl := Nat.eq_of_beq_eq_true hb.1.2
      have hss := Nat.eq_of_beq_eq_true hb.2
      have hsz := Nat.eq_of_beq_eq_true hb.1.1.1
      have hr : rootOf cx ⟨env, ρ, nx, mc⟩ r = _ := lkp_root hlk
      have hro : RowOk L h r .own none t' xs := H.th _ _ hr
      cases hX with
      | pl _ _ hf => cases hf
      | nst _ _ _ _ _ _ _ _ _ _ hone hv' =>
        obtain ⟨m1, m2, m3, m4, m5, m6⟩ := hv' _ _ _ _ _ hr
        obtain ⟨x, m7, m8⟩ := m6 hss
        obtain ⟨own, zs, ρ1, D, es, q1, q2, o⟩ := srcK_ok H hY hq (fun h => h)
        obtain ⟨zz, q3, q4⟩ := Option.bind_eq_some_iff.1 q1
        unfold appI at q3
        split at q3
        · rename_i hroom
          cases q3
          obtain ⟨hown, q5⟩ := bif_some q4
          subst hown
          obtain ⟨ρ2, u1, ⟨oo, u2⟩, u3, u4⟩ := updK_ok q5
          have hD : ¬ D r := fun hq => by have := (q2.del r hq).1; rw [this] at u2; cases u2
          have hrn : r ≠ nx := low_of_root H hr
          simp only [SV.lowN, Bool.and_eq_true, Nat.blt_eq] at hXl
          obtain ⟨ρ0', w1, w2, w3⟩ : ∃ ρ0' : Roots, (∀ q, lkp ρ0' q = if q = r then some (.row v nx nx .own (some (u, off)) t' xs) else lkp ρ q) ∧ ρ0'.map Prod.fst = ρ.map Prod.fst ∧ True := by
            have : ∀ {l : Roots} {a : Root}, (∃ o, lkp l r = some o) → ∃ z, updK l r a some = some z := by
              intro l a hl
              induction l with
              | nil => obtain ⟨o, ho⟩ := hl; cases ho
              | cons p l ih =>
                obtain ⟨c, d⟩ := p
                simp only [updK]
                cases hc : c.beq r with
                | true => exact ⟨_, rfl⟩
                | false =>
                  have hne : r ≠ c := by rintro rfl; rw [Nat.beq_refl] at hc; cases hc
                  obtain ⟨o, ho⟩ := hl
                  rw [lkp_cons, if_neg hne] at ho
                  obtain ⟨z, hz⟩ := ih ⟨o, ho⟩
                  have : ∀ {l : Roots} {k : Roots → Option Roots} {k2 : Roots → Roots}, (∀ l', k l' = some (k2 l')) → ∀ z, updK l r a some = some z → updK l r a k = some (k2 z) := by
                    intro l k k2 hk
                    induction l generalizing k k2 with
                    | nil => intro z hz; cases hz
                    | cons p l ih2 =>
                      obtain ⟨c, d⟩ := p
                      intro z hz
                      simp only [updK] at hz ⊢
                      cases hc : c.beq r with
                      | true => rw [hc] at hz; cases hz; exact hk _
                      | false =>
                        rw [hc] at hz
                        cases hz' : updK l r a some with
                        | none =>
                          have hno : ∀ {l : Roots} {k : Roots → Option Roots}, updK l r a some = none → updK l r a k = none := by
                            intro l k hl
                            induction l generalizing k with
                            | nil => rfl
                            | cons p l ih3 =>
                              obtain ⟨c, d⟩ := p
                              simp only [updK] at hl ⊢
                              cases hc : c.beq r with
                              | true => rw [hc] at hl; cases hl
                              | false =>
                                rw [hc] at hl
                                refine ih3 ?_
                                cases hq : updK l r a some with
                                | none => rfl
                                | some z3 =>
                                  exfalso
                                  obtain ⟨l3, k1, ⟨o3, k2⟩, _⟩ := updK_ok hq
                                  have : lkp l r = some o3 := k2
                                  clear ih3
                                  have ex : ∀ {l : Roots} {k : Roots → Option Roots}, (∀ l', ∃ z, k l' = some z) → (∃ o, lkp l r = some o) → updK l r a k ≠ none := by
                                    intro l k hk hl
                                    induction l generalizing k with
                                    | nil => obtain ⟨o, ho⟩ := hl; cases ho
                                    | cons p l ih4 =>
                                      obtain ⟨c, d⟩ := p
                                      simp only [updK]
                                      cases hc : c.beq r with
                                      | true => obtain ⟨z, hz⟩ := hk ((c, a) :: l); show k _ ≠ none; rw [hz]; simp
                                      | false =>
                                        have hne : r ≠ c := by rintro rfl; rw [Nat.beq_refl] at hc; cases hc
                                        obtain ⟨o, ho⟩ := hl
                                        rw [lkp_cons, if_neg hne] at ho
                                        exact ih4 (fun l' => hk _) ⟨o, ho⟩
                                  exact ex (fun l' => ⟨_, rfl⟩) ⟨_, this⟩ hl
                          rw [hno hz'] at hz; cases hz
                        | some z' =>
                          have e1 := ih2 (k := fun l' => some ((c, d) :: l')) (k2 := fun l' => (c, d) :: l') (fun _ => rfl) z' hz'
                          rw [e1] at hz
                          cases hz
                          exact ih2 (k := fun l' => k ((c, d) :: l')) (k2 := fun l' => k2 ((c, d) :: l')) (fun l' => hk _) z' hz'
                  exact ⟨_, this (k2 := fun l' => (c, d) :: l') (fun _ => rfl) z hz⟩
            obtain ⟨z, hz⟩ := this (l := ρ) (a := .row v nx nx .own (some (u, off)) t' xs) ⟨_, hlk⟩
            obtain ⟨l', k1, _, k3, k4⟩ := updK_ok hz
            cases k1
            exact ⟨z, k4, k3, trivial⟩
          obtain ⟨L1, I1, G1, lF, lA, lft, hB, hI, hft, tv⟩ := H.split hlk m1 hXl.1.2 m7 m8 m5 w1 w2
          have R1 : AbsR ((nx, .row nx nx nx .own none t ys) :: ρ0') ((nx, .row nx nx nx .own none t ys) :: ρ2) D (fun _ => False) := by
            have hDn : ∀ q, D q → q ≠ r ∧ q ≠ nx := fun q hq => ⟨fun h' => hD (h' ▸ hq), fun h' => by
              obtain ⟨_, _, _, _, _, _, _, hx⟩ := q2.del q hq
              rw [h', (H.rootHi (Nat.le_refl _)).1] at hx; cases hx⟩
            have hn2 := (q2.new H (.row nx nx nx .own none t ys)).2.1
            refine ⟨?_, fun q hq => ?_, fun q hq => ?_, fun q hq => hq.elim, fun q h1 _ => ?_⟩
            · show (nx :: ρ2.map Prod.fst).Nodup
              rw [u3]; exact hn2
            · simp only [List.map_cons, List.mem_cons] at hq ⊢
              rw [u3] at hq
              rw [w2]
              exact hq.imp _root_.id (q2.sub q)
            · obtain ⟨k1, v2, w2', s2, md2, t2, xs2, k2⟩ := q2.del q hq
              obtain ⟨n1, n2⟩ := hDn q hq
              exact ⟨by rw [lkp_cons, if_neg n2, u4, if_neg n1]; exact k1, v2, w2', s2, md2, t2, xs2, by rw [lkp_cons, if_neg n2, w1, if_neg n1]; exact k2⟩
            · rw [lkp_cons, lkp_cons, u4, w1]
              by_cases hqn : q = nx
              · rw [if_pos hqn, if_pos hqn]
              · rw [if_neg hqn, if_neg hqn]
                by_cases hqr : q = r
                · rw [if_pos hqr, if_pos hqr]
                · rw [if_neg hqr, if_neg hqr]; exact q2.look q h1 _root_.id
          have hDf : ∀ q, D q → L1.ft q = L.ft q := fun q hq => hft q (fun h' => hD (h' ▸ hq)) (fun h' => by
              obtain ⟨_, _, _, _, _, _, _, hx⟩ := q2.del q hq
              rw [h', (H.rootHi (Nat.le_refl _)).1] at hx; cases hx)
          have hDnx : ¬ D nx := fun hq => by
            obtain ⟨_, _, _, _, _, _, _, hx⟩ := q2.del nx hq
            rw [(H.rootHi (Nat.le_refl _)).1] at hx; cases hx
          have hrt : rootOf cx ⟨env, (nx, .row nx nx nx .own none t ys) :: ρ0', nx + 1, mc⟩ nx = some (.row nx nx nx .own none t ys) := lkp_root (by rw [lkp_cons, if_pos rfl])
          refine fin hsz o.rd (app_core G1 R1 (r0 := nx) (md := .own) (own := true) (mc' := nx + 1) (ρ2 := (nx, .row (nx + 1) (nx + 1) (nx + 1) .own none t (ys ++ zs)) :: ρ2) rfl (by rw [lF]; exact hB) (fun z hz => ⟨_, hrt, by rw [lft]; exact hz, rfl⟩) (.inr ⟨_, _, _, _, _, _, _, by rw [lkp_cons, if_pos rfl]⟩) hDnx
            (fun hq => by
              obtain ⟨J, j1, j2⟩ := o.own hq
              exact ⟨J, by rw [lF]; exact j1, fun z hz => by obtain ⟨q, j3, j4⟩ := j2 z hz; exact ⟨q, j3, by rw [hDf q j3]; exact j4⟩⟩)
            (fun F' f1 f2 => o.fz F' (by rw [← lF]; exact f1) fun q z b hq hz hb => f2 q z b hq (by rw [hDf q hq]; exact hz) hb)
            (fun q => by rw [lkp_cons, lkp_cons]; by_cases hqn : q = nx <;> simp [hqn, Md.of, Md.isOwn]) (by
              show (nx :: ρ2.map Prod.fst).Nodup
              rw [u3]; exact (q2.new H (.row nx nx nx .own none t ys)).2.1) hsz hroom (.inr rfl) fun A' h' n' L' G tv => ⟨_, _, L', u1, tv, ?_, G⟩)
          simp only [SV.lowN, Bool.and_eq_true, Nat.blt_eq]
          exact ⟨Nat.lt_succ_of_lt (Nat.lt_succ_self _), Nat.lt_succ_self _⟩
        · cases q3
    · cases hk
  | _ => cases hk
end
end Go.Proofs.Ytcngfjmfgeckmaa
namespace Go.Proofs.Ytcngfjmfgeckmaa
open Go
section
variable {B : Bas} {cx : Cx} {st : St} {L : Lay} {Es : List Env} {E : Env} {h : Heap} {n : Nat} {g : Pg} {α : Type} {y : α} {k : SV → St → Option α}
variable {env : SEnv} {ρ0 ρ2 : Roots} {nx mc : Nat}
theorem Gam.inner (H : Gam B cx ⟨env, ρ0, nx, mc⟩ L Es E h n) {r v w s off : Nat} {i : Int} {t2 t' : PT} {xs : List t'.den} {x : t'.den} {ys : List t2.den} {a0 : AV} (hlk : lkp ρ0 r = some (.row v w s .own none t' xs)) (hx : atI xs i = some x)
    (hz : nthS (explode t' x) off = some (.rd false t2 ys)) (ha : cellAt h (L.A r) i.toNat off = some a0) :
    ∃ J0, OS L.F h (.rd false t2 ys) a0 J0 ∧ (∀ z, J0 z → z < n) ∧ ∀ {h' : Heap} {J2 : Ids0} {ys' : List t2.den} {x' : t'.den} {ρ2 : Roots}, (∀ z, ¬ J0 z → h' z = h z) → (∀ z b, h' z = some b → z < n) → OS L.F h' (.rd false t2 ys') a0 J2 → (∀ z, J2 z → J0 z) →
      LeL ((explode t' x).take off ++ [.rd false t2 ys'] ++ (explode t' x).drop (off + 1)) (explode t' x') → (∀ q, lkp ρ2 q = if q = r then some (.row v w nx .own none t' (setI xs i x')) else lkp ρ0 q) → (ρ2.map Prod.fst).Nodup →
      ∃ L', Gam B cx ⟨env, ρ2, nx + 1, nx⟩ L' Es E h' n := by
  have hr : rootOf cx ⟨env, ρ0, nx, mc⟩ r = some (.row v w s .own none t' xs) := lkp_root hlk
  have hlow := H.lowT _ _ hr
  obtain ⟨i0, hx', hil⟩ := atI_some hx
  have hro : RowOk L h r .own none t' xs := H.th _ _ hr
  obtain ⟨id, off0, lo, qx, b, J, P⟩ := hro.rowP rfl (i := i.toNat) (by omega)
  have M := P.own rfl
  have hes : ((b.drop off0).take xs.length).length = xs.length := by rw [List.length_take, List.length_drop]; have := P.le; have := P.xl; omega
  obtain ⟨e, he⟩ : ∃ e, ((b.drop off0).take xs.length)[i.toNat]? = some e := ⟨_, List.getElem?_eq_getElem (by omega)⟩
  have hbe := drop_take_get he
  have cellA : cellAt h (L.A r) i.toNat off = e.cells[off]? := by rw [P.A]; simp [cellAt, P.hb, hbe]
  rw [cellA] at ha
  rw [nthS_get] at hz
  have hOS := M.cell _ _ _ _ _ _ hx' he hz ha _root_.id
  have hoff : off < t'.w := by rw [← explode_len t' x]; exact (List.getElem?_eq_some_iff.1 hz).1
  have Jr : ∀ {j o z}, J j o z → L.ft r z := fun hj => (P.ft _).2 (.inr ⟨_, _, hj⟩)
  have hidn := H.ftF r _ id hr ((P.ft id).2 (.inl rfl))
  refine ⟨J i.toNat off, hOS, fun z hz => (H.ftF r _ z hr (Jr hz)).2.2.1, fun {h' J2 ys' x' ρ2} hC hlt hO2 hJ2 hle hl2 hnd => ?_⟩
  have hid' : h' id = h id := hC id (P.nid _ _)
  have hlen : (setI xs i x').length = xs.length := by simp [setI]
  have hother : ∀ j o, ¬ (j = i.toNat ∧ o = off) → ∀ z, J j o z → h' z = h z := fun j o hne z hz => hC z fun hq => hne (P.dis _ _ _ _ z hz hq)
  have M2 : Mat L.F h' t' (setI xs i x') ((b.drop off0).take xs.length) (fun j o z => if j = i.toNat ∧ o = off then J2 z else J j o z) (fun _ _ => False) := by
    refine ⟨by rw [hlen, hes], M.el, fun j x2 e2 o v2 a2 q1 q2 q3 q4 _ => ?_, fun j o j' o' z q1 q2 => ?_, fun j o z q1 => ?_⟩
    · have hxs : (j = i.toNat ∧ x2 = x') ∨ (j ≠ i.toNat ∧ xs[j]? = some x2) := by
        unfold setI at q1
        rw [List.getElem?_set] at q1
        by_cases hj : i.toNat = j
        · rw [if_pos hj, if_pos (by omega)] at q1
          exact .inl ⟨hj.symm, (Option.some.inj q1).symm⟩
        · rw [if_neg hj] at q1
          exact .inr ⟨fun hq => hj hq.symm, q1⟩
      rcases hxs with ⟨rfl, rfl⟩ | ⟨hj, hxj⟩
      · rw [he] at q2
        cases q2
        obtain ⟨v3, h3, h4⟩ := hle.get o v2 q3
        rw [show off + 1 = off + [SV.rd false t2 ys'].length from rfl, spl_get _ _ _ _ (by rw [explode_len]; simp; omega)] at h3
        by_cases ho : o = off
        · subst ho
          rw [if_neg (Nat.lt_irrefl _), if_pos (by simp), Nat.sub_self] at h3
          cases h3
          rw [ha] at q4
          cases q4
          exact (hO2.le h4).eqv fun z => by rw [if_pos ⟨rfl, rfl⟩]
        · have h3' : (explode t' x)[o]? = some v3 := by
            by_cases ho1 : o < off
            · rw [if_pos ho1] at h3; exact h3
            · rw [if_neg ho1, if_neg (by simp; omega)] at h3; exact h3
          have hne : ¬ (i.toNat = i.toNat ∧ o = off) := fun hq => ho hq.2
          exact (((M.cell _ _ _ _ _ _ hx' he h3' q4 _root_.id).keep (fun _ _ hb => hb) (hother _ _ hne)).le h4).eqv fun z => by rw [if_neg hne]
      · have hne : ¬ (j = i.toNat ∧ o = off) := fun hq => hj hq.1
        exact ((M.cell _ _ _ _ _ _ hxj q2 q3 q4 _root_.id).keep (fun _ _ hb => hb) (hother _ _ hne)).eqv fun z => by rw [if_neg hne]
    · have up : ∀ {j o}, (if j = i.toNat ∧ o = off then J2 z else J j o z) → J j o z := fun {j o} hq => by
        by_cases hc : j = i.toNat ∧ o = off
        · rw [if_pos hc] at hq; rw [hc.1, hc.2]; exact hJ2 z hq
        · rw [if_neg hc] at hq; exact hq
      exact P.dis _ _ _ _ z (up q1) (up q2)
    · have q1' : J j o z := by
        by_cases hc : j = i.toNat ∧ o = off
        · rw [if_pos hc] at q1; rw [hc.1, hc.2]; exact hJ2 z q1
        · rw [if_neg hc] at q1; exact q1
      have := M.sup _ _ _ q1'
      exact ⟨by rw [hlen]; exact this.1, this.2.1, _root_.id⟩
  have sub : ∀ z, (∃ j o, if j = i.toNat ∧ o = off then J2 z else J j o z) → ∃ j o, J j o z := fun z ⟨j, o, hq⟩ => by
    by_cases hc : j = i.toNat ∧ o = off
    · rw [if_pos hc] at hq; exact ⟨_, _, hJ2 z hq⟩
    · rw [if_neg hc] at hq; exact ⟨_, _, hq⟩
  obtain ⟨L', G, _⟩ := H.absStep (AbsR.refl H.nd) (r0 := r) (v := v) (w := w) (s := nx) (md := .own) (t := t') (xs := setI xs i x') (ρ2 := ρ2) (nx' := nx + 1) (mc' := nx) (F' := L.F) (h' := h') (n' := n) (A := L.A r) (I := fun z => z = id ∨ ∃ j o, if j = i.toNat ∧ o = off then J2 z else J j o z) rfl hl2 hnd (.inr ⟨_, _, _, _, _, _, _, hlk⟩) _root_.id _root_.id
    (fun _ _ hb => hb) (fun z c hc => by
      rw [hC z fun hq => by rw [(H.ftF r _ z hr (Jr hq)).1] at hc; cases hc]
      exact H.fh _ _ hc) (fun _ _ hb => .inl hb) (fun _ _ _ hq => hq.elim) (Nat.le_refl n) (fun z hz => by
      by_cases hq : J i.toNat off z
      · exact .inr ⟨_, hr, Jr hq⟩
      · exact .inl (hC z hq)) hlt
    (.inr (.inr ⟨id, off0, lo, qx, b, fun z => ∃ j o, if j = i.toNat ∧ o = off then J2 z else J j o z, by rw [hlen]; exact P.A, by rw [hid']; exact P.hb, P.le, by rw [hlen]; exact P.xl, by rw [hlen]; exact M2.oe, fun hq => by obtain ⟨j, o, hj⟩ := sub id hq; exact P.nid _ _ hj, fun z => Iff.rfl⟩))
    (fun z hz => by
      have hz' : L.ft r z := (P.ft z).2 (hz.imp _root_.id (sub z))
      have := H.ftF r _ z hr hz'
      exact ⟨this.1, this.2.2.1, .inr ⟨r, _, .inl rfl, hr, hz', rfl⟩⟩)
    (Nat.le_succ nx) ⟨Nat.lt_succ_of_lt hlow.1, Nat.lt_succ_of_lt hlow.2.1, Nat.lt_succ_of_lt hlow.2.2.1, Nat.lt_succ_self _⟩ (Nat.lt_succ_self _) (.inr (Nat.le_refl _))
    (fun _ _ => ⟨w, s, .own, none, xs, hr, rfl, hlen, fun hq => absurd hq (Nat.lt_irrefl _), fun _ => ⟨rfl, fun j o a hj hla hcell => by
      rw [P.A] at hcell ⊢
      simp only [cellAt] at hcell ⊢
      rw [hid']; exact hcell⟩⟩)
  exact ⟨L', G⟩
def PlainOut (cx : Cx) (st : St) (L : Lay) (h : Heap) (y : α) (vs : List SV) (asl : List AV) (k : List Src → List SV → Option α) : Prop :=
  ∃ q ws, k q ws = some y ∧ ws.length = vs.length ∧ (∀ (j : Nat) w a, ws[j]? = some w → asl[j]? = some a → (Fz L.F w a ∧ ∀ e t xs, w ≠ .rd e t xs) ∨ ∃ c, c ∈ q ∧ SrcOk L h (rootOf cx st) c w a) ∧ ∀ r, Src.own r ∈ q → ∃ w s x md t xs, rootOf cx st r = some (.row w s x md none t xs)
theorem plainK_ok (H : Gam B cx st L Es E h n) : ∀ {vs : List SV} {asl : List AV} {k : List Src → List SV → Option α}, TVs L (rootOf cx st) st.mc h vs asl → plainK cx st vs k = some y → PlainOut cx st L h y vs asl k
  | [], _, k, .nil, hk => ⟨[], [], hk, rfl, fun j w a hw => (by simp at hw), fun r hr => by cases hr⟩
  | v :: vs, _, k, .cons _ _ a asl hv hl, hk => by
    have sc : ∀ {w : SV}, Fz L.F w a → (∀ e t xs, w ≠ .rd e t xs) → plainK cx st vs (fun q l => k q (w :: l)) = some y → PlainOut cx st L h y (v :: vs) (a :: asl) k := fun {w} h1 h2 h3 => by
      obtain ⟨q, ws, q1, q2, q3, q4⟩ := plainK_ok H hl h3
      refine ⟨q, w :: ws, q1, by simp [q2], fun j w' a' m1 m2 => ?_, q4⟩
      cases j with
      | zero => simp at m1 m2; subst m1; subst m2; exact .inl ⟨h1, h2⟩
      | succ j => exact q3 j w' a' (by simpa using m1) (by simpa using m2)
    have ls : Go.Proofs.Ytcngfjmfgeckmaa.asL cx st v (fun c t xs => plainK cx st vs fun q l => k (c :: q) (.rd false t xs :: l)) = some y → PlainOut cx st L h y (v :: vs) (a :: asl) k := fun h3 => by
      obtain ⟨c, t, xs, p1, p2⟩ := H.asL hv h3
      obtain ⟨q, ws, q1, q2, q3, q4⟩ := plainK_ok H hl p1
      refine ⟨c :: q, .rd false t xs :: ws, q1, by simp [q2], fun j w' a' m1 m2 => ?_, fun r hr => ?_⟩
      rotate_left
      · rcases List.mem_cons.1 hr with hr | hr
        · subst hr; exact p2.1
        · exact q4 r hr
      cases j with
      | zero => simp at m1 m2; subst m1; subst m2; exact .inr ⟨c, by simp, p2⟩
      | succ j => exact (q3 j w' a' (by simpa using m1) (by simpa using m2)).imp id fun ⟨c', r1, r2⟩ => ⟨c', List.mem_cons_of_mem _ r1, r2⟩
    cases v with
    | int i x => exact sc (by rw [int_inv hv]; exact .int _ _) (by simp) hk
    | bool x => exact sc (by rw [bool_inv hv]; exact .bool _) (by simp) hk
    | str x => exact sc (by rw [str_inv hv]; exact .str _) (by simp) hk
    | nil => exact sc (by rw [nil_inv hv]; exact .nil) (by simp) hk
    | _ => exact ls hk
theorem storeInner_ok (H : Gam B cx st L Es E h n) {t : TypeId} {pa px : Operand} {r v w u s off off2 : Nat} {i j : Int} {cs0 : List SV} (ha : evS cx st pa = .en r v w u s i off j off2 cs0) (hk : storeS g cx st t (evS cx st pa) (evS cx st px) k = some y) : opP g.T (.store t pa px) (ev E) h n (Done B cx Es E y k) := by
  obtain ⟨hav, hal⟩ := H.ev pa
  obtain ⟨hxv, hxl⟩ := H.ev px
  rw [ha] at hk hav hal
  generalize hX : evS cx st px = X at hk hxv hxl
  obtain ⟨q1, q2⟩ := bif_some hk
  simp only [Bool.and_eq_true, Nat.blt_eq] at q1
  obtain ⟨⟨hsz, hok⟩, hpos⟩ := q1
  have hsz := Nat.eq_of_beq_eq_true hsz
  obtain ⟨env, ρ, nx, mc⟩ := st
  simp only at q2
  split at q2
  case h_2 => cases q2
  rename_i v' w' s' t' xs hlk
  obtain ⟨q3, q4⟩ := bif_some q2
  simp only [Bool.and_eq_true] at q3
  obtain rfl := Nat.eq_of_beq_eq_true q3.1
  obtain rfl := Nat.eq_of_beq_eq_true q3.2
  have hr : rootOf cx ⟨env, ρ, nx, mc⟩ r = some (.row v w s' .own none t' xs) := lkp_root hlk
  obtain ⟨x, hx, q5⟩ := Option.bind_eq_some_iff.1 q4
  split at q5
  case h_2 => cases q5
  rename_i e2 t2 ys hz
  obtain ⟨z, hzj, q6⟩ := Option.bind_eq_some_iff.1 q5
  have he2 := explode_ex t' x _ (by rw [nthS_get] at hz; exact List.mem_of_getElem? hz) _ _ _ rfl
  subst he2
  cases hav with
  | pl _ _ hf => cases hf
  | en _ _ _ _ _ _ _ _ _ _ _ hone hv =>
    obtain ⟨k1, k2, k3, k4, k5, ⟨a0, k6, k7⟩, k8⟩ := hv _ _ _ _ _ hr
    obtain ⟨hxc, hxg⟩ := hxv.cells hok
    obtain ⟨J0, hO, hJn, step⟩ := H.inner hlk hx hz k6
    obtain ⟨qs, new, p1, p2, p3, _⟩ := plainK_ok H hxc q6
    dsimp only at p1
    cases hc : (anyL new || t2.scal && !X.oneV) with
    | true => rw [hc] at p1; cases p1
    | false =>
    rw [hc] at p1
    simp only [Bool.or_eq_false_iff] at hc
    obtain ⟨hany, hscal⟩ := hc
    obtain ⟨s1, s2⟩ := splK_ok p1
    split at s1
    case h_2 => cases s1
    rename_i z' himp
    obtain ⟨s3, s4⟩ := splK_ok s1
    split at s3
    case h_2 => cases s3
    rename_i x' himp2
    obtain ⟨ρ2, u1, _, u3, u4⟩ := updK_ok s3
    have hle := implode_le himp
    have hle2 := implode_le himp2
    obtain ⟨j0, hzj', hjl⟩ := atI_some hzj
    cases hO with
    | rdn => simp at hzj'
    | emp => simp at hzj'
    | sl _ _ _ id2 o2 lo2 ex2 b2 _ J2 hb2 hle3 hlo2 hc2 hid2 hI2 =>
      obtain ⟨JJ, M, hJJ⟩ := hc2.mat
      have hesl : ((b2.drop o2).take ys.length).length = ys.length := by rw [List.length_take, List.length_drop]; omega
      obtain ⟨e, he⟩ : ∃ e, ((b2.drop o2).take ys.length)[j.toNat]? = some e := ⟨_, List.getElem?_eq_getElem (by omega)⟩
      have hbe := drop_take_get he
      obtain ⟨eg, ew, e1⟩ := M.el _ _ he
      have hxlen : (ev E px).cells.length = new.length := by rw [hxc.len, p2]
      have hew : (explode t2 z).length = e.cells.length := by rw [explode_len, ew]
      have hcells := setPart_cells (e := e) (u := ev E px) (off := off2) (by omega) e1 (by omega)
      have hcell2 := spl_len (explode t2 z) new off2 s2
      have e'ok : eOk t2 (setPart e off2 (ev E px)) ∧ (setPart e off2 (ev E px)).cells.length = t2.w ∧ ∀ z, z ∈ (setPart e off2 (ev E px)).cells → z.one = true := by
        refine ⟨⟨by cases e <;> first | exact hxg | rfl, fun hs => ?_⟩, by rw [hcells, spl_len _ _ _ (by omega), ew], fun z hz => ?_⟩
        · have he1 := eg.2 hs
          have hx1 : (ev E px).one = true := by
            rw [hs] at hscal
            exact hxv.one (by simpa using hscal)
          cases e <;> first | exact hx1 | cases he1
        · rw [hcells] at hz
          simp only [List.mem_append] at hz
          rcases hz with (hz | hz) | hz
          · exact e1 z (List.mem_of_mem_take hz)
          · exact hxc.one hok z hz
          · exact e1 z (List.mem_of_mem_drop hz)
      have noL : ∀ (o : Nat) v2, new[o]? = some v2 → ∀ e t xs, v2 ≠ .rd e t xs ∧ v2 ≠ .nil := fun o v2 hv2 e t xs => by
        have : ∀ {l : List SV} {o : Nat}, anyL l = false → l[o]? = some v2 → v2 ≠ .rd e t xs ∧ v2 ≠ .nil := by
          intro l
          induction l with
          | nil => intro o _ h; simp at h
          | cons c l ih =>
            intro o h1 h2
            cases o with
            | zero =>
              simp at h2; subst h2
              refine ⟨?_, ?_⟩ <;> (intro hq; subst hq; simp [anyL] at h1)
            | succ o => exact ih (o := o) (by cases c <;> first | exact h1 | cases h1) (by simpa using h2)
        exact this hany hv2
      have M2 : Mat L.F h t2 (setI ys j z') (((b2.drop o2).take ys.length).set j.toNat (setPart e off2 (ev E px))) (fun jj o q => if jj = j.toNat ∧ off2 ≤ o ∧ o < off2 + new.length then False else JJ jj o q) (fun _ _ => False) := by
        refine ⟨by rw [List.length_set, hesl]; simp [setI], fun jj e3 he3 => ?_, fun jj z3 e3 o v3 a3 m1 m2 m3 m4 _ => ?_, fun jj o jj' o' q m1 m2 => ?_, fun jj o q m1 => ?_⟩
        · rw [List.getElem?_set] at he3
          by_cases hj : j.toNat = jj
          · rw [if_pos hj, if_pos (by omega)] at he3
            cases he3; exact e'ok
          · rw [if_neg hj] at he3; exact M.el _ _ he3
        · rw [List.getElem?_set] at m2
          unfold setI at m1
          rw [List.getElem?_set] at m1
          by_cases hj : j.toNat = jj
          · rw [if_pos hj, if_pos (by omega)] at m1 m2
            cases m1; cases m2
            obtain ⟨v2, h3, h4⟩ := hle.get o v3 m3
            rw [spl_get _ _ _ _ s2] at h3
            rw [hcells, spl_get _ _ _ _ (by omega), hxlen] at m4
            by_cases ho : o < off2
            · rw [if_pos ho] at h3 m4
              exact ((M.cell _ _ _ _ _ _ hzj' he h3 m4 _root_.id).le h4).eqv fun q => by rw [if_neg (by omega), hj]
            · rw [if_neg ho] at h3 m4
              by_cases ho2 : o < off2 + new.length
              · rw [if_pos ho2] at h3 m4
                have hnl := noL _ _ h3
                have hF : Fz L.R v2 a3 := by
                  rcases p3 _ _ _ h3 m4 with ⟨q, _⟩ | ⟨c, _, q⟩
                  · exact q.mono H.fr
                  · exact H.readR q
                have h5 : v3 = v2 := by
                  cases h4 with
                  | refl => rfl
                  | rd e t xs => exact absurd rfl (hnl e t xs).1
                  | nil t => exact absurd rfl (hnl true t []).2
                subst h5
                exact (hF.os fun e t xs => (hnl e t xs).1).eqv fun q => by rw [if_pos ⟨hj.symm, by omega, ho2⟩]
              · rw [if_neg ho2] at h3 m4
                exact ((M.cell _ _ _ _ _ _ hzj' he h3 m4 _root_.id).le h4).eqv fun q => by rw [if_neg (by omega), hj]
          · rw [if_neg hj] at m1 m2
            exact (M.cell _ _ _ _ _ _ m1 m2 m3 m4 _root_.id).eqv fun q => by rw [if_neg (by omega)]
        · split at m1
          · exact m1.elim
          · split at m2
            · exact m2.elim
            · exact M.dis _ _ _ _ q m1 m2
        · split at m1
          · exact m1.elim
          · have := M.sup _ _ _ m1
            exact ⟨by simp [setI]; exact this.1, this.2.1, _root_.id⟩
      have subJ : ∀ q, (∃ jj o, if jj = j.toNat ∧ off2 ≤ o ∧ o < off2 + new.length then False else JJ jj o q) → J2 q := fun q ⟨jj, o, hq⟩ => by
        split at hq
        · exact hq.elim
        · exact (hJJ q).2 ⟨_, _, hq⟩
      have hlen' : (setI ys j z').length = ys.length := by simp [setI]
      have hset : (((b2.set (o2 + j.toNat) (setPart e off2 (ev E px))).drop o2).take ys.length) = ((b2.drop o2).take ys.length).set j.toNat (setPart e off2 (ev E px)) := drop_set b2 o2 j.toNat ys.length _ (by omega)
      have hC : ∀ q, q ≠ id2 → (h.upd id2 (b2.set (o2 + j.toNat) (setPart e off2 (ev E px)))) q = h q := fun q hq => by unfold Heap.upd; rw [if_neg hq]
      have hO' : OS L.F (h.upd id2 (b2.set (o2 + j.toNat) (setPart e off2 (ev E px)))) (.rd false t2 (setI ys j z')) (.sl t2.w id2 o2 ys.length lo2 ex2) (fun q => q = id2 ∨ ∃ jj o, if jj = j.toNat ∧ off2 ≤ o ∧ o < off2 + new.length then False else JJ jj o q) := by
        have hMk := M2.keep (F' := L.F) (h' := h.upd id2 (b2.set (o2 + j.toNat) (setPart e off2 (ev E px)))) (fun _ _ hb => hb) fun jj o q hq => hC q fun hqq => hid2 (hqq ▸ subJ q ⟨jj, o, hq⟩)
        have := OS.sl (F := L.F) (h := h.upd id2 (b2.set (o2 + j.toNat) (setPart e off2 (ev E px)))) false t2 (setI ys j z') id2 o2 lo2 ex2 (b2.set (o2 + j.toNat) (setPart e off2 (ev E px))) (fun q => q = id2 ∨ ∃ jj o, if jj = j.toNat ∧ off2 ≤ o ∧ o < off2 + new.length then False else JJ jj o q) (fun q => ∃ jj o, if jj = j.toNat ∧ off2 ≤ o ∧ o < off2 + new.length then False else JJ jj o q) (by simp [Heap.upd]) (by rw [List.length_set]; exact hle3) (by rw [hlen']; exact hlo2)
          (by rw [hlen', hset]; exact hMk.oe) (fun hq => hid2 (subJ _ hq)) fun q => Iff.rfl
        rw [hlen'] at this
        exact this
      obtain ⟨L', G⟩ := step (h' := h.upd id2 (b2.set (o2 + j.toNat) (setPart e off2 (ev E px)))) (fun q hq => hC q fun hqq => hq ((hI2 q).2 (.inl hqq))) (fun q c hq => by
        by_cases hqi : q = id2
        · rw [hqi]; exact hJn id2 ((hI2 id2).2 (.inl rfl))
        · rw [hC q hqi] at hq; exact H.hlt q c hq) hO' (fun q hq => (hI2 q).2 (hq.imp _root_.id (subJ q))) hle2 u4 (by rw [u3]; exact H.nd)
      obtain ⟨o', len', lo', ex', kk, hpa, m1, m2, m3⟩ := k7
      refine ⟨t2.w, id2, o', len', lo', ex', kk, off2, b2, e, hpa, hb2, by rw [m1]; exact hbe, hxg, by rw [hxc.len, hsz], hpos, by omega, .undef, ⟨env, ρ2, nx + 1, nx⟩, L', u1, .undef _, rfl, ?_⟩
      rw [m1]; exact G
theorem store_ok' (H : Gam B cx st L Es E h n) {t : TypeId} {pa px : Operand} (hk : opS g cx st (.store t pa px) k = some y) : opP g.T (.store t pa px) (ev E) h n (Done B cx Es E y k) := by
  have hk' : storeS g cx st t (evS cx st pa) (evS cx st px) k = some y := hk
  generalize ha : evS cx st pa = A at hk'
  cases A with
  | cp c off => exact storeCell_ok H ha (by rw [ha]; exact hk')
  | ep r v u s i off cs => exact storeElem_ok H ha (by rw [ha]; exact hk')
  | en r v w u s i off j off2 cs => exact storeInner_ok H ha (by rw [ha]; exact hk')
  | _ => obtain ⟨_, q2⟩ := bif_some hk'; cases q2
end
end Go.Proofs.Ytcngfjmfgeckmaa
namespace Go.Proofs.Ytcngfjmfgeckmaa
open Go
theorem cpyI_len {α : Type} (l l2 : List α) (i j : Int) (h0 : 0 ≤ i) (hij : i ≤ j) (hj : j ≤ (l.length : Int)) : (cpyI l i j l2).length = l.length := by
  simp only [cpyI, List.length_append, List.length_take, List.length_drop]
  omega
theorem FzL.cpy {F : Heap} {t : PT} {xs ys : List t.den} {es fs : List AV} (h1 : FzL F t xs es) (h2 : FzL F t ys fs) (i j : Int) : FzL F t (cpyI xs i j ys) (es.take i.toNat ++ fs.take (j - i).toNat ++ es.drop (i.toNat + (fs.take (j - i).toNat).length)) := by
  have hl : (fs.take (j - i).toNat).length = (ys.take (j - i).toNat).length := by rw [List.length_take, List.length_take, h2.len]
  rw [hl]
  exact FzL.append (FzL.append (h1.take _) (h2.take _)) (h1.drop _)
theorem OS.scalar' {F F' h : Heap} {v : SV} {a : AV} {I : Ids0} (hv : OS F h v a I) (hq : ∀ e t xs, v ≠ .rd e t xs) : Fz F' v a := by
  cases hv with
  | int => exact .int _ _
  | bool => exact .bool _
  | str => exact .str _
  | nil => exact .nil
  | rdn => exact absurd rfl (hq _ _ _)
  | emp => exact absurd rfl (hq _ _ _)
  | sl => exact absurd rfl (hq _ _ _)
theorem OE.ofFlat {F F' h : Heap} {t : PT} {xs : List t.den} {es : List AV} {I : Ids0} (ht : t.flat = true) (hl : OE F h t xs es I) : FzL F' t xs es := by
  obtain ⟨J, M, _⟩ := hl.mat
  refine FzL.of M.len fun j x e h1 h2 => ?_
  obtain ⟨q1, q2, _⟩ := M.el j e h2
  exact ⟨q1, FzC.of (by rw [q2, explode_len]) fun o v a h3 h4 => (M.cell j x e o v a h1 h2 h3 h4 id).scalar' (explode_flat ht x v (List.mem_of_getElem? h3))⟩
section
variable {B : Bas} {cx : Cx} {st : St} {L : Lay} {Es : List Env} {E : Env} {h : Heap} {n : Nat} {g : Pg} {α : Type} {y : α} {k : SV → St → Option α}
variable {env : SEnv} {ρ0 ρ2 : Roots} {nx mc : Nat}
theorem Gam.flatSet (H : Gam B cx ⟨env, ρ0, nx, mc⟩ L Es E h n) {r v w s : Nat} {md : Md} {t : PT} {xs xs' : List t.den} (hlk : lkp ρ0 r = some (.row v w s md none t xs)) (hfl : t.flat = true) (hm : md.isFz = false) (hl : xs'.length = xs.length) {h' : Heap} {R : Heap}
    (hcase : (xs = [] ∧ h' = h) ∨ ∃ id off lo ex b b', L.A r = .sl t.w id off xs.length lo ex ∧ h id = some b ∧ L.ft r id ∧ off + lo ≤ b.length ∧ xs.length ≤ lo ∧ h' = h.upd id b' ∧ b'.length = b.length ∧ FzL R t xs' ((b'.drop off).take xs.length))
    (hl2 : ∀ q, lkp ρ2 q = if q = r then some (.row v w nx md none t xs') else lkp ρ0 q) (hnd : (ρ2.map Prod.fst).Nodup) :
    ∃ L', Gam B cx ⟨env, ρ2, nx + 1, nx⟩ L' Es E h' n := by
  have hr : rootOf cx ⟨env, ρ0, nx, mc⟩ r = some (.row v w s md none t xs) := lkp_root hlk
  have hlow := H.lowT _ _ hr
  have hro : RowOk L h r md none t xs := H.th _ _ hr
  have nol : ∀ {i o : Nat}, i < xs'.length → ¬ listAt t o := fun {i o} hi hla => by
    obtain ⟨t2, zs, hz⟩ := hla xs'[i]
    rw [nthS_get] at hz
    exact explode_flat hfl _ _ (List.mem_of_getElem? hz) _ _ _ rfl
  obtain ⟨I', hB, hI, hfr, hlt, hF⟩ : ∃ I', RowB md L.F h' t xs' (L.A r) I' ∧ (∀ z, I' z → L.ft r z) ∧ (∀ z, h' z = h z ∨ L.ft r z) ∧ (∀ z b, h' z = some b → z < n) ∧ L.F.Sub h' := by
    rcases hcase with ⟨rfl, rfl⟩ | ⟨id, off, lo, ex, b, b', hA, hb, hft, hle, hxl, rfl, hbl, hF⟩
    · have : xs' = [] := List.eq_nil_of_length_eq_zero (by simpa using hl)
      subst this
      exact ⟨_, hro.rowB hm, fun _ hz => hz, fun _ => .inl rfl, H.hlt, H.fh⟩
    · have hC : ∀ z, z ≠ id → (h.upd id b') z = h z := fun z hz => by unfold Heap.upd; rw [if_neg hz]
      refine ⟨fun z => z = id, .inr (.inr ⟨id, off, lo, ex, b', fun _ => False, by rw [hl]; exact hA, by simp [Heap.upd], by rw [hbl]; exact hle, by rw [hl]; exact hxl, by rw [hl]; exact Body.ofFlat hfl hF, fun hq => hq, fun z => ⟨.inl, fun hq => hq.elim _root_.id False.elim⟩⟩), fun z hz => hz ▸ hft, fun z => ?_, fun z c hc => ?_, fun z c hc => ?_⟩
      · by_cases hz : z = id
        · exact .inr (hz ▸ hft)
        · exact .inl (hC z hz)
      · by_cases hz : z = id
        · rw [hz]; exact (H.ftF r _ id hr hft).2.2.1
        · rw [hC z hz] at hc; exact H.hlt z c hc
      · rw [hC z (by rintro rfl; rw [(H.ftF r _ _ hr hft).1] at hc; cases hc)]; exact H.fh z c hc
  obtain ⟨L', G, _⟩ := H.absStep (AbsR.refl H.nd) (r0 := r) (v := v) (w := w) (s := nx) (md := md) (t := t) (xs := xs') (ρ2 := ρ2) (nx' := nx + 1) (mc' := nx) (F' := L.F) (h' := h') (n' := n) (A := L.A r) (I := I') hm hl2 hnd (.inr ⟨_, _, _, _, _, _, _, hlk⟩) _root_.id _root_.id
    (fun _ _ hb => hb) hF (fun _ _ hb => .inl hb) (fun _ _ _ hq => hq.elim) (Nat.le_refl n) (fun z _ => (hfr z).imp _root_.id fun hq => ⟨_, hr, hq⟩) hlt hB
    (fun z hz => by
      have hz' := hI z hz
      have := H.ftF r _ z hr hz'
      exact ⟨this.1, this.2.2.1, .inr ⟨r, _, .inl rfl, hr, hz', rfl⟩⟩)
    (Nat.le_succ nx) ⟨Nat.lt_succ_of_lt hlow.1, Nat.lt_succ_of_lt hlow.2.1, Nat.lt_succ_of_lt hlow.2.2.1, Nat.lt_succ_self _⟩ (Nat.lt_succ_self _) (.inr (Nat.le_refl _))
    (fun _ _ => ⟨w, s, md, none, xs, hr, rfl, hl, fun hq => absurd hq (Nat.lt_irrefl _), fun _ => ⟨rfl, fun j o a hj hla _ => absurd hla (nol hj)⟩⟩)
  exact ⟨L', G⟩
theorem take_drop_cpy {α : Type} (b fs : List α) (off i m len : Nat) (hm : fs.length ≤ m) (hi : i + m ≤ len) (hb : off + len ≤ b.length) : ((b.take (off + i) ++ fs ++ b.drop (off + i + fs.length)).drop off).take len = ((b.drop off).take len).take i ++ fs ++ ((b.drop off).take len).drop (i + fs.length) := by
  apply List.ext_getElem?
  intro k
  have h1 : ((b.drop off).take len).length = len := by simp; omega
  rw [List.getElem?_take, List.getElem?_drop, spl_get _ _ _ _ (by omega), spl_get _ _ _ _ (by omega)]
  by_cases hk : k < len
  · rw [if_pos hk]
    by_cases hk1 : k < i
    · rw [if_pos (by omega), if_pos hk1, List.getElem?_take, if_pos hk, List.getElem?_drop]
    · rw [if_neg (by omega), if_neg hk1]
      by_cases hk2 : k < i + fs.length
      · rw [if_pos (by omega), if_pos hk2]; congr 1; omega
      · rw [if_neg (by omega), if_neg hk2, List.getElem?_take, if_pos hk, List.getElem?_drop]
  · rw [if_neg hk, if_neg (by omega), if_neg (by omega), List.getElem?_take, if_neg hk]
theorem min_cast (a b : Nat) : ((min a b : Nat) : Int) = min (a : Int) (b : Int) := by omega
theorem srcFlat (H : Gam B cx ⟨env, ρ0, nx, mc⟩ L Es E h n) {v : SV} {a : AV} {t : PT} {k : Bool → List t.den → Roots → Option α} (hv : TV L (rootOf cx ⟨env, ρ0, nx, mc⟩) mc h v a) (hk : srcK cx ⟨env, ρ0, nx, mc⟩ true v t ρ0 k = some y) (hfl : t.flat = true) :
    ∃ (own : Bool) (xs : List t.den) (ρ' : Roots) (es : List AV), k own xs ρ' = some y ∧ rdSl h t.w a = some es ∧ es.length = xs.length ∧ ∀ F', FzL F' t xs es := by
  obtain ⟨own, xs, ρ', D, es, q1, q2, o⟩ := srcK_ok H hv hk (fun _ => hfl)
  have fl := o.fz (frzF L.F h fun i => ∃ q, D q ∧ L.ft q i) (frzF_sub fun i ⟨q, k1, k2⟩ => by
    obtain ⟨_, v, w, s, md, t, xs, hx⟩ := q2.del q k1
    exact (H.ftF q _ i (lkp_root hx) k2).1) fun q i b hq hi hb => frzF_at ⟨q, hq, hi⟩ hb
  exact ⟨own, xs, ρ', es, q1, o.rd, fl.len, fun F' => (Body.ofFlat (md := .flat) (F := F') (h := h) hfl fl).1⟩
abbrev cpyTo (T : TE) (e : TypeId) (x : AV) (ys : List AV) (h : Heap) (n : Nat) (K : AV → Heap → Nat → Prop) : Prop := match x with
  | .nils => K (.int .i64 0) h n
  | .sl s id off len _ _ => s = (T e).sz ∧ ∃ b, h id = some b ∧ off + len ≤ b.length ∧ K (.int .i64 (min ys.length len : Nat)) (h.upd id (b.take off ++ ys.take len ++ b.drop (off + (ys.take len).length))) n
  | .ro _ _ [] => K (.int .i64 0) h n
  | _ => False
theorem copyS_ok (H : Gam B cx st L Es E h n) {e : TypeId} {X Y : SV} {ax ay : AV} (hX : TV L (rootOf cx st) st.mc h X ax) (hY : TV L (rootOf cx st) st.mc h Y ay) (hk : copyS cx st (g.T e).sz X Y k = some y) :
    copyP g.T e ax ay h n (Done B cx Es E y k) := by
  obtain ⟨env, ρ, nx, mc⟩ := st
  have fin : ∀ {es : List AV} {t : PT}, (g.T e).sz = t.w → rdSl h t.w ay = some es → cpyTo g.T e ax es h n (Done B cx Es E y k) → copyP g.T e ax ay h n (Done B cx Es E y k) := fun {es t} h1 h2 h3 => ⟨es, by rw [h1]; exact h2, by rw [h1]; exact t.w_pos, h3⟩
  have flat : ∀ {r v w s : Nat} {md : Md} {t : PT} {xs : List t.den} {i j : Int} {ex : Bool}, lkp ρ r = some (.row v w s md none t xs) → t.flat = true → md.isFz = false → (g.T e).sz = t.w → 0 ≤ i → i ≤ j → j ≤ (xs.length : Int) → ax = pieceA (L.A r) i.toNat j.toNat ex →
      srcK cx ⟨env, ρ, nx, mc⟩ true Y t ρ (fun _ ys _ => updK ρ r (.row v w nx md none t (cpyI xs i j ys)) fun ρ => k (.int .i64 (min (ys.length : Int) (j - i))) ⟨env, ρ, nx + 1, nx⟩) = some y → copyP g.T e ax ay h n (Done B cx Es E y k) := fun {r v w s md t xs i j ex} hlk hfl hm hsz h0 hij hj hax hq => by
    obtain ⟨_, ys, _, es, q1, q2, q3, q4⟩ := srcFlat H hY hq hfl
    obtain ⟨ρ2, u1, _, u3, u4⟩ := updK_ok q1
    have hr : rootOf cx ⟨env, ρ, nx, mc⟩ r = some (.row v w s md none t xs) := lkp_root hlk
    have hro : RowOk L h r md none t xs := H.th _ _ hr
    have hcl := cpyI_len xs ys i j h0 hij hj
    have done : ∀ {h' : Heap} {L' : Lay} {m : Nat}, Gam B cx ⟨env, ρ2, nx + 1, nx⟩ L' Es E h' n → (m : Int) = min (ys.length : Int) (j - i) → Done B cx Es E y k (.int .i64 m) h' n := fun {h' L' m} G hmm => ⟨_, _, L', u1, by rw [← hmm]; exact TV.int _ _, rfl, G⟩
    refine fin hsz q2 ?_
    rcases hro.rowB hm with ⟨hA, rfl, hI⟩ | ⟨hA, rfl, hI⟩ | ⟨id, off, lo, qx, b, J, hA, hb, hle, hlo, hc, hid, hI⟩
    · rw [hA] at hax
      have hax' : ax = .nils := hax
      subst hax'
      obtain ⟨L', G⟩ := H.flatSet hlk hfl hm hcl (h' := h) (R := L.F) (.inl ⟨rfl, rfl⟩) u4 (by rw [u3]; exact H.nd)
      simp only [List.length_nil] at hj
      exact done (m := 0) G (by omega)
    · rw [hA] at hax
      simp only [List.length_nil] at hj
      have hax' : ax = .ro t.w true [] := by rw [hax]; simp [pieceA, show j.toNat = 0 by omega]
      subst hax'
      obtain ⟨L', G⟩ := H.flatSet hlk hfl hm hcl (h' := h) (R := L.F) (.inl ⟨rfl, rfl⟩) u4 (by rw [u3]; exact H.nd)
      exact done (m := 0) G (by omega)
    · rw [hA] at hax
      have hax' : ax = .sl t.w id (off + i.toNat) (j.toNat - i.toNat) (if ex = true then j.toNat - i.toNat else lo - i.toNat) (if ex = true then true else qx) := hax
      subst hax'
      refine ⟨hsz.symm, b, hb, by omega, ?_⟩
      have e1 : (j - i).toNat = j.toNat - i.toNat := by omega
      have hfl2 : FzL L.F t xs ((b.drop off).take xs.length) := by
        cases md with
        | own => exact OE.ofFlat hfl hc
        | flat => exact hc.1
        | fz => cases hm
      have hcp := hfl2.cpy (q4 L.F) i j
      rw [e1] at hcp
      obtain ⟨L', G⟩ := H.flatSet hlk hfl hm hcl (h' := h.upd id (b.take (off + i.toNat) ++ es.take (j.toNat - i.toNat) ++ b.drop (off + i.toNat + (es.take (j.toNat - i.toNat)).length))) (R := L.F)
        (.inr ⟨id, off, lo, qx, b, _, hA, hb, (hI id).2 (.inl rfl), hle, hlo, rfl, spl_len b _ _ (by rw [List.length_take]; omega), by
          rw [take_drop_cpy b (es.take (j.toNat - i.toNat)) off i.toNat (j.toNat - i.toNat) xs.length (by rw [List.length_take]; omega) (by omega) (by omega)]
          exact hcp⟩) u4 (by rw [u3]; exact H.nd)
      exact done G (by rw [min_cast, q3]; omega)
  have nest : ∀ {r v w s off : Nat} {i p q : Int} {t2 t' : PT} {xs : List t'.den} {x : t'.den} {zs : List t2.den} {a0 : AV} {mx : Int} {ex : Bool}, lkp ρ r = some (.row v w s .own none t' xs) → atI xs i = some x → nthS (explode t' x) off = some (.rd false t2 zs) → cellAt h (L.A r) i.toNat off = some a0 → t2.flat = true → (g.T e).sz = t2.w →
      0 ≤ p → p ≤ q → q ≤ (zs.length : Int) → mx = q - p → ax = pieceA a0 p.toNat q.toNat ex →
      srcK cx ⟨env, ρ, nx, mc⟩ true Y t2 ρ (fun _ ys _ => splK (explode t' x) off [.rd false t2 (cpyI zs p q ys)] fun cs => match implode t' cs with
          | some x' => updK ρ r (.row v w nx .own none t' (setI xs i x')) fun ρ => k (.int .i64 (min (ys.length : Int) mx)) ⟨env, ρ, nx + 1, nx⟩
          | none => none) = some y → copyP g.T e ax ay h n (Done B cx Es E y k) := fun {r v w s off i p q t2 t' xs x zs a0 mx ex} hlk hx hz ha hfl hsz h0 hpq hq hmx hax hk' => by
    obtain ⟨_, ys, _, es, q1, q2, q3, q4⟩ := srcFlat H hY hk' hfl
    obtain ⟨s1, s2⟩ := splK_ok q1
    split at s1
    case h_2 => cases s1
    rename_i x' himp
    obtain ⟨ρ2, u1, _, u3, u4⟩ := updK_ok s1
    have hle2 := implode_le himp
    have hcl := cpyI_len zs ys p q h0 hpq hq
    obtain ⟨J0, hO, hJn, step⟩ := H.inner hlk hx hz ha
    have done : ∀ {h' : Heap} {L' : Lay} {m : Nat}, Gam B cx ⟨env, ρ2, nx + 1, nx⟩ L' Es E h' n → (m : Int) = min (ys.length : Int) (q - p) → Done B cx Es E y k (.int .i64 m) h' n := fun {h' L' m} G hmm => ⟨_, _, L', u1, by rw [hmx, ← hmm]; exact TV.int _ _, rfl, G⟩
    refine fin hsz q2 ?_
    have hO0 := hO
    cases hO with
    | rdn _ _ _ hI =>
      have hax' : ax = .nils := hax
      subst hax'
      have hcz : cpyI ([] : List t2.den) p q ys = [] := List.eq_nil_of_length_eq_zero (by rw [hcl]; rfl)
      rw [hcz] at hle2
      obtain ⟨L', G⟩ := step (h' := h) (J2 := J0) (fun _ _ => rfl) H.hlt hO0 (fun _ hz => hz) hle2 u4 (by rw [u3]; exact H.nd)
      simp only [List.length_nil] at hq
      exact done (m := 0) G (by omega)
    | emp _ _ _ hI =>
      simp only [List.length_nil] at hq
      have hax' : ax = .ro t2.w true [] := by rw [hax]; simp [pieceA, show q.toNat = 0 by omega]
      subst hax'
      have hcz : cpyI ([] : List t2.den) p q ys = [] := List.eq_nil_of_length_eq_zero (by rw [hcl]; rfl)
      rw [hcz] at hle2
      obtain ⟨L', G⟩ := step (h' := h) (J2 := J0) (fun _ _ => rfl) H.hlt hO0 (fun _ hz => hz) hle2 u4 (by rw [u3]; exact H.nd)
      exact done (m := 0) G (by omega)
    | sl _ _ _ id off0 lo qx b _ J hb hle hlo hc hid hI =>
      have hax' : ax = .sl t2.w id (off0 + p.toNat) (q.toNat - p.toNat) (if ex = true then q.toNat - p.toNat else lo - p.toNat) (if ex = true then true else qx) := hax
      subst hax'
      refine ⟨hsz.symm, b, hb, by omega, ?_⟩
      have e1 : (q - p).toNat = q.toNat - p.toNat := by omega
      have hcp := (OE.ofFlat (F' := L.F) hfl hc).cpy (q4 L.F) p q
      rw [e1] at hcp
      have hlen' : (cpyI zs p q ys).length = zs.length := hcl
      have hC : ∀ z, z ≠ id → (h.upd id (b.take (off0 + p.toNat) ++ es.take (q.toNat - p.toNat) ++ b.drop (off0 + p.toNat + (es.take (q.toNat - p.toNat)).length))) z = h z := fun z hz => by unfold Heap.upd; rw [if_neg hz]
      have hO' : OS L.F (h.upd id (b.take (off0 + p.toNat) ++ es.take (q.toNat - p.toNat) ++ b.drop (off0 + p.toNat + (es.take (q.toNat - p.toNat)).length))) (.rd false t2 (cpyI zs p q ys)) (.sl t2.w id off0 zs.length lo qx) (fun z => z = id ∨ False) := by
        have bl := spl_len b (es.take (q.toNat - p.toNat)) (off0 + p.toNat) (by rw [List.length_take]; omega)
        have := OS.sl (F := L.F) (h := h.upd id (b.take (off0 + p.toNat) ++ es.take (q.toNat - p.toNat) ++ b.drop (off0 + p.toNat + (es.take (q.toNat - p.toNat)).length))) false t2 (cpyI zs p q ys) id off0 lo qx (b.take (off0 + p.toNat) ++ es.take (q.toNat - p.toNat) ++ b.drop (off0 + p.toNat + (es.take (q.toNat - p.toNat)).length)) (fun z => z = id ∨ False) (fun _ => False) (Heap.upd_same _ _ _) (by rw [bl]; exact hle) (by rw [hlen']; exact hlo)
          (by
            rw [hlen', take_drop_cpy b (es.take (q.toNat - p.toNat)) off0 p.toNat (q.toNat - p.toNat) zs.length (by rw [List.length_take]; omega) (by omega) (by omega)]
            exact Body.ofFlat (md := .own) hfl hcp) (fun hq => hq) fun z => Iff.rfl
        rw [hlen'] at this
        exact this
      obtain ⟨L', G⟩ := step (h' := h.upd id (b.take (off0 + p.toNat) ++ es.take (q.toNat - p.toNat) ++ b.drop (off0 + p.toNat + (es.take (q.toNat - p.toNat)).length))) (fun z hz => hC z fun hqq => hz ((hI z).2 (.inl hqq))) (fun z c hz => by
        by_cases hqi : z = id
        · rw [hqi]; exact hJn id ((hI id).2 (.inl rfl))
        · rw [hC z hqi] at hz; exact H.hlt z c hz) hO' (fun z hz => (hI z).2 (.inl (hz.elim _root_.id False.elim))) hle2 u4 (by rw [u3]; exact H.nd)
      exact done G (by rw [min_cast, q3]; omega)
  simp only [copyS] at hk
  cases X with
  | row r v =>
    simp only at hk
    split at hk
    · rename_i v' w s md t xs hlk
      obtain ⟨hb, hq⟩ := bif_some hk
      simp only [Bool.and_eq_true] at hb
      obtain rfl := Nat.eq_of_beq_eq_true hb.1.1.1
      have hm : md.isFz = false := by simpa using hb.1.2
      have hr : rootOf cx ⟨env, ρ, nx, mc⟩ r = some (.row v w s md none t xs) := lkp_root hlk
      cases hX with
      | pl _ _ hf => cases hf
      | row _ _ _ hone hv' =>
        have hA := hv' _ _ _ _ _ _ hr
        have hro : RowOk L h r md none t xs := H.th _ _ hr
        have hd := hro.hd
        refine flat (i := 0) (j := (xs.length : Int)) (ex := false) hlk hb.1.1.2 hm (Nat.eq_of_beq_eq_true hb.2) (Int.le_refl 0) (by omega) (Int.le_refl _) ?_ (by simpa using hq)
        rw [hA]
        generalize L.A r = A at hd
        cases A with
        | nils => rfl
        | sl w0 id off ln lo ex =>
          obtain ⟨_, rfl, _⟩ := hd
          simp [pieceA]
        | ro w0 ex l =>
          obtain ⟨_, hl⟩ := hd
          simp [pieceA, ← hl]
        | _ => exact hd.elim
    · cases hk
  | sub r v s i j ex t ys0 =>
    simp only at hk
    split at hk
    · rename_i v' w s' md t2 xs hlk
      obtain ⟨hb, hq⟩ := bif_some hk
      simp only [Bool.and_eq_true] at hb
      obtain rfl := Nat.eq_of_beq_eq_true hb.1.1.1
      have hm : md.isFz = false := by simpa using hb.1.2
      have hr : rootOf cx ⟨env, ρ, nx, mc⟩ r = some (.row v w s' md none t2 xs) := lkp_root hlk
      cases hX with
      | pl _ _ hf => cases hf
      | sub _ _ _ _ _ _ _ _ _ hone hv' =>
        obtain ⟨m1, hA, m3⟩ := hv' _ _ _ _ _ _ hr
        exact flat hlk hb.1.1.2 hm (Nat.eq_of_beq_eq_true hb.2) m1.1 m1.2.1 m1.2.2 hA hq
    · cases hk
  | nsub r v w u s i off p q t ys0 =>
    simp only at hk
    split at hk
    · rename_i v' w' s' t' xs hlk
      obtain ⟨hb, hq⟩ := bif_some hk
      simp only [Bool.and_eq_true] at hb
      obtain rfl := Nat.eq_of_beq_eq_true hb.1.1
      obtain rfl := Nat.eq_of_beq_eq_true hb.1.2
      have hss := Nat.eq_of_beq_eq_true hb.2
      have hr : rootOf cx ⟨env, ρ, nx, mc⟩ r = some (.row v w s' .own none t' xs) := lkp_root hlk
      obtain ⟨x, hx, q5⟩ := Option.bind_eq_some_iff.1 hq
      split at q5
      · rename_i e2 t2 zs hz
        have he2 := explode_ex t' x _ (by rw [nthS_get] at hz; exact List.mem_of_getElem? hz) _ _ _ rfl
        subst he2
        cases hc : (!(Nat.beq (g.T e).sz t2.w && t2.flat)) with
        | true => rw [hc] at q5; cases q5
        | false =>
          rw [hc] at q5
          simp only [Bool.not_eq_false', Bool.and_eq_true] at hc
          cases hX with
          | pl _ _ hf => cases hf
          | nsub _ _ _ _ _ _ _ _ _ _ _ _ hone hv' =>
            obtain ⟨m1, m2, m3, m4, ⟨a0, m5, hax⟩, m6, m7, m8⟩ := hv' _ _ _ _ _ hr
            obtain ⟨x2, t3, zs2, ws, n1, n2, n3, n4⟩ := m8 hss
            rw [hx] at n1
            cases n1
            rw [hz] at n2
            cases n2
            obtain ⟨o1, o2, o3, _⟩ := slcI_some n3
            exact nest hlk hx hz m5 hc.2 (Nat.eq_of_beq_eq_true hc.1) o1 o2 o3 rfl hax q5
      · cases q5
    · cases hk
  | nst r v w u s i off t ys0 =>
    simp only at hk
    split at hk
    · rename_i v' w' s' t' xs hlk
      obtain ⟨hb, hq⟩ := bif_some hk
      simp only [Bool.and_eq_true] at hb
      obtain rfl := Nat.eq_of_beq_eq_true hb.1
      obtain rfl := Nat.eq_of_beq_eq_true hb.2
      have hr : rootOf cx ⟨env, ρ, nx, mc⟩ r = some (.row v w s' .own none t' xs) := lkp_root hlk
      obtain ⟨x, hx, q5⟩ := Option.bind_eq_some_iff.1 hq
      split at q5
      · rename_i e2 t2 zs hz
        have he2 := explode_ex t' x _ (by rw [nthS_get] at hz; exact List.mem_of_getElem? hz) _ _ _ rfl
        subst he2
        cases hc : (!(Nat.beq (g.T e).sz t2.w && t2.flat)) with
        | true => rw [hc] at q5; cases q5
        | false =>
          rw [hc] at q5
          simp only [Bool.not_eq_false', Bool.and_eq_true] at hc
          cases hX with
          | pl _ _ hf => cases hf
          | nst _ _ _ _ _ _ _ _ _ _ hone hv' =>
            obtain ⟨m1, m2, m3, m4, m5, m6⟩ := hv' _ _ _ _ _ hr
            have hro : RowOk L h r .own none t' xs := H.th _ _ hr
            have hd := (H.readR (nested_ok H.fh hr hro rfl (atI_some hx).2.1 hz m5)).hd
            refine nest (p := 0) (q := (zs.length : Int)) (mx := (zs.length : Int)) (ex := false) hlk hx hz m5 hc.2 (Nat.eq_of_beq_eq_true hc.1) (Int.le_refl 0) (by omega) (Int.le_refl _) (by omega) ?_ q5
            cases ax with
            | nils => rfl
            | sl w0 id off ln lo ex =>
              obtain ⟨_, hl, _⟩ := hd
              simp [pieceA, ← hl]
            | ro w0 ex l =>
              obtain ⟨_, hl⟩ := hd
              simp [pieceA, ← hl]
            | _ => exact hd.elim
      · cases q5
    · cases hk
  | _ => cases hk
end
end Go.Proofs.Ytcngfjmfgeckmaa
namespace Go.Proofs.Ytcngfjmfgeckmaa
open Go
section
variable {B : Bas} {cx : Cx} {st : St} {L : Lay} {Es : List Env} {E : Env} {h : Heap} {n : Nat} {g : Pg} {α : Type} {y : α} {k : SV → St → Option α}
theorem opS_ok (gk : POk g) (H : Gam B cx st L Es E h n) {op : Op} (hk : opS g cx st op k = some y) (hc : ∀ c, op ≠ .call c) : opP g.T op (ev E) h n (Done B cx Es E y k) := by
  cases op with
  | move x => exact move_ok H hk
  | assign x => exact assign_ok H hk
  | pick c a b => exact pick_ok H hk
  | alloc e => exact alloc_ok gk H hk
  | box e x => exact box_ok' H hk
  | build t parts => exact buildOp_ok gk H hk
  | buildSlice t len parts => exact buildSlice_ok' H hk
  | load t a => exact load_ok gk H hk
  | store t a x => exact store_ok' H hk
  | nilCheck x => exact nilCheck_ok H hk
  | binOp op t x y fl => exact binOp_ok H hk
  | unOp op t x => exact unOp_ok H hk
  | convert s d x => exact convert_ok H hk
  | makeFunc f first cap =>
    cases f with
    | func f => exact makeFunc_ok H hk
    | _ => cases hk
  | makeSlice t l c => exact makeSlice_ok' gk H hk
  | slice t x lo hi mx => exact sliceOp_ok H hk
  | fieldAddr s x f => exact fieldAddr_ok H hk
  | field t x f => exact field_ok gk H hk
  | indexAddr t x ix => exact indexAddr_ok H hk
  | index t x ix => exact index_ok H hk
  | extract t ix => exact extract_ok H hk
  | call c => exact absurd rfl (hc c)
  | _ => cases hk
end
end Go.Proofs.Ytcngfjmfgeckmaa
namespace Go.Proofs.Ytcngfjmfgeckmaa
open Go
section
variable {B : Bas} {cx : Cx} {st : St} {L : Lay} {Es : List Env} {E : Env} {h : Heap} {n : Nat} {g : Pg} {α : Type} {y : α}
theorem len_ok (H : Gam B cx st L Es E h n) {t : TypeId} {X : SV} {ax : AV} {k : SV → St → Option α} (hX : TV L (rootOf cx st) st.mc h X ax) (hk : builtinS g cx st .len [t] [X] k = some y) : builtinP g.T .len [t] [ax] h n (Done B cx Es E y k) := by
  have gen : ∀ {e : TypeId} {l : List AV}, (g.T t).ty = .slice e → rdSl h (g.T e).sz ax = some l → Done B cx Es E y k (.int .i64 l.length) h n → builtinP g.T .len [t] [ax] h n (Done B cx Es E y k) := fun {e l} h1 h2 h3 => by
    unfold builtinP
    cases ax <;> first | exact ⟨e, l, h1, h2, h3⟩ | cases h2
  have ls : ∀ {e : TypeId}, (g.T t).ty = .slice e → Go.Proofs.Ytcngfjmfgeckmaa.asL cx st X (fun _ t' xs => bif Nat.beq (g.T e).sz t'.w then k (.int .i64 xs.length) st else none) = some y → builtinP g.T .len [t] [ax] h n (Done B cx Es E y k) := fun {e} h1 h2 => by
    obtain ⟨c, t', xs, q1, q2⟩ := H.asL hX h2
    obtain ⟨q3, q4⟩ := bif_some q1
    obtain ⟨es, r1, r2⟩ := (H.readR q2).rd H.rh
    exact gen h1 (by rw [Nat.eq_of_beq_eq_true q3]; exact r1) (by rw [r2.len]; exact H.done q4 (TV.int _ _) rfl)
  simp only [builtinS] at hk
  split at hk
  · rename_i s ht
    rw [str_inv hX]
    exact ⟨ht, H.done hk (TV.int _ _) rfl⟩
  · rename_i e ht
    rw [nil_inv hX] at gen ⊢
    exact gen ht rfl (H.done hk (TV.int _ _) rfl)
  · exact ls (by assumption) hk
  · cases hk
theorem appendZ_ok (gk : POk g) (H : Gam B cx st L Es E h n) {e : TypeId} {X N : SV} {ax : AV} {k : SV → St → Option α} (hX : TV L (rootOf cx st) st.mc h X ax) (hk : appendZ g st e X N k = some y) :
    ∃ (i : IntKind) (m : Nat), N = .int i m ∧ 0 < (g.T e).sz ∧ m ≤ 140737488355328 ∧ m * (g.T e).bytes ≤ 140737488355328 ∧ appTo g.T e ax (List.replicate m (g.T e).zero) h n (Done B cx Es E y k) := by
  obtain ⟨env, ρ, nx, mc⟩ := st
  unfold appendZ at hk
  split at hk
  case h_2 => cases hk
  rename_i r v i m env' ρ' nx' mc' hst
  cases hst
  split at hk
  case h_2 => cases hk
  rename_i v' w s md t xs hlk
  obtain ⟨hb, hq⟩ := bif_some hk
  simp only [Bool.and_eq_true] at hb
  obtain rfl := Nat.eq_of_beq_eq_true hb.1.1.2
  have hsz := Nat.eq_of_beq_eq_true hb.1.1.1
  have hm : md.isFz = false := by simpa using hb.1.2
  split at hq
  case h_2 => cases hq
  rename_i z hz
  obtain ⟨zs, q1, q2⟩ := Option.bind_eq_some_iff.1 hq
  unfold appZ at q1
  split at q1
  case isFalse => cases q1
  rename_i hr
  obtain ⟨r0, r1⟩ := hr
  cases q1
  obtain ⟨rb1, rb2⟩ := roomI_ok r1
  have hpos : 0 < (g.T e).sz := by rw [hsz]; exact t.w_pos
  obtain ⟨z1, z2, z3⟩ := gk.zero e hpos
  have hg : eOk t (g.T e).zero := ⟨z1, fun hs => by have := hb.2; rw [hs] at this; simpa using this⟩
  have hroot : rootOf cx ⟨env, ρ, nx, mc⟩ r = some (.row v w s md none t xs) := lkp_root hlk
  have hro : RowOk L h r md none t xs := H.th _ _ hroot
  cases hX with
  | pl _ _ hf => cases hf
  | row _ _ _ hone hv' =>
    have hA := hv' _ _ _ _ _ _ hroot
    obtain ⟨ρ2, u1, _, u3, u4⟩ := updK_ok q2
    refine ⟨i, m.toNat, by rw [Int.toNat_of_nonneg r0], hpos, by omega, Nat.le_trans (Nat.mul_le_mul_right _ (by omega)) rb1, ?_⟩
    have hmd : Md.of (md.isOwn && md.isOwn) = md := by cases md <;> first | rfl | cases hm
    have oe : ∀ {F : Heap}, OE F h t (List.replicate m.toNat z) (List.replicate m.toNat (g.T e).zero) (fun _ => False) := fun {F} => rep_oe hz hg z3 _
    refine app_core H (AbsR.refl H.nd) (r0 := r) (md := md) (own := md.isOwn) (mc' := nx) (ρ2 := ρ2) (xs := xs) (ys := List.replicate m.toNat z) hm (by rw [hA]; exact hro.rowB hm) (fun i hi => ⟨_, hroot, hi, rfl⟩) (.inr ⟨_, _, _, _, _, _, _, hlk⟩) _root_.id (fun _ => ⟨_, oe, fun _ hq => hq.elim⟩) (fun F' f1 _ => OE.frz f1 (oe (F := L.F)) fun _ _ hq => hq.elim)
      (by rw [hmd]; exact u4) (by rw [u3]; exact H.nd) hsz (by rw [List.length_replicate]; exact r1) (.inr rfl) fun A' h' n' L' G tv => ⟨_, _, L', u1, tv, ?_, G⟩
    have hrl := (H.lowT _ _ hroot).1
    simp only [SV.lowN, Bool.and_eq_true, Nat.blt_eq]
    exact ⟨Nat.lt_succ_of_lt hrl, Nat.lt_succ_self _⟩
def CallOk (P : Program) (call : Callee) : Prop := ∀ {α : Type} {B : Bas} {cx : Cx} {st : St} {L : Lay} {Es : List Env} {E : Env} {h : Heap} {n : Nat} {y : α} {k : SV → St → Option α} {f : FuncId} {args : List SV} {asl : List AV},
  Gam B cx st L Es E h n → TVs L (rootOf cx st) st.mc h args asl → SV.lowNs st.nx args = true → call cx f args st k = some y → CA P f asl h n (Done B cx Es E y k)
theorem operS_ok {P : Program} (gk : POk g) {call : Callee} (hcall : CallOk P call) (H : Gam B cx st L Es E h n) {o : Oper} {k : SV → St → Option α} (hk : operS g cx st call o k = some y) : operB P g.T o E h n (Done B cx Es E y k) := by
  obtain ⟨dst, op, type, pos, after, guard⟩ := o
  have plain : (∀ c, op ≠ .call c) → opS g cx st op k = some y → operB P g.T ⟨dst, op, type, pos, after, guard⟩ E h n (Done B cx Es E y k) := fun h1 h2 => .inl (by
    have := opS_ok gk H h2 h1
    unfold callA
    simp only
    exact this)
  cases op with
  | call c =>
    simp only [operS] at hk
    split at hk
    · rename_i f hf
      split at hk
      · rename_i f' cap hfn
        obtain ⟨hfv, hfl⟩ := H.ev f
        rw [hfn] at hfv hfl
        obtain ⟨asl, ha, hc⟩ := fn_inv hfv
        refine .inl ?_
        unfold callA
        simp only [hf, ha]
        refine hcall H (TVs.append (TVs.map (fun x => (H.ev x).1) c.args.toList) hc) (lowNs_append (lowNs_map (fun x => (H.ev x).2) c.args.toList) (by simpa [SV.lowN] using hfl)) hk
      · cases hk
    · rename_i b hb
      have cA : builtinP g.T b c.argTypes.toList (c.args.toList.map (ev E)) h n (Done B cx Es E y k) → operB P g.T ⟨dst, .call c, type, pos, after, guard⟩ E h n (Done B cx Es E y k) := fun hq => .inl (by
        unfold callA
        simp only [hb, opP]
        exact hq)
      cases b
      case len =>
        generalize hts : c.argTypes.toList = ts at hk cA
        generalize hxs : c.args.toList.map (evS cx st) = xs at hk
        match ts, xs with
        | [t], [X] =>
          obtain ⟨x, hx, rfl⟩ := map1 hxs
          rw [hx] at cA
          exact cA (len_ok H (H.ev x).1 hk)
        | [], _ => cases hk
        | [_], [] => cases hk
        | [_], _ :: _ :: _ => cases hk
        | _ :: _ :: _, _ => cases hk
      case min =>
        generalize hxs : c.args.toList.map (evS cx st) = xs at hk
        match xs with
        | [X, Y] =>
          obtain ⟨x, z, hx, h1, h2⟩ := map2 hxs
          cases X with
          | int i a =>
            cases Y with
            | int j b =>
              obtain ⟨q1, q2⟩ := bif_some hk
              have hx1 := (H.ev x).1
              have hz1 := (H.ev z).1
              rw [h1] at hx1
              rw [h2] at hz1
              refine cA ?_
              rw [hx]
              simp only [List.map_cons, List.map_nil, int_inv hx1, int_inv hz1]
              obtain rfl := kindNum_inj (Nat.eq_of_beq_eq_true q1)
              exact ⟨rfl, H.done q2 (TV.int _ _) rfl⟩
            | _ => cases hk
          | _ => cases hk
        | [] => cases hk
        | [X] => cases X <;> cases hk
        | X :: Y :: _ :: _ => cases X <;> first | (cases hk; done) | (cases Y <;> cases hk)
      case max =>
        generalize hxs : c.args.toList.map (evS cx st) = xs at hk
        match xs with
        | [X, Y] =>
          obtain ⟨x, z, hx, h1, h2⟩ := map2 hxs
          cases X with
          | int i a =>
            cases Y with
            | int j b =>
              obtain ⟨q1, q2⟩ := bif_some hk
              have hx1 := (H.ev x).1
              have hz1 := (H.ev z).1
              rw [h1] at hx1
              rw [h2] at hz1
              refine cA ?_
              rw [hx]
              simp only [List.map_cons, List.map_nil, int_inv hx1, int_inv hz1]
              obtain rfl := kindNum_inj (Nat.eq_of_beq_eq_true q1)
              exact ⟨rfl, H.done q2 (TV.int _ _) rfl⟩
            | _ => cases hk
          | _ => cases hk
        | [] => cases hk
        | [X] => cases X <;> cases hk
        | X :: Y :: _ :: _ => cases X <;> first | (cases hk; done) | (cases Y <;> cases hk)
      case append =>
        generalize hts : c.argTypes.toList = ts at hk cA
        generalize hxs : c.args.toList.map (evS cx st) = xs at hk
        match ts, xs with
        | [t, u], [X, Y] =>
          obtain ⟨x, z, hx, rfl, rfl⟩ := map2 hxs
          rw [hx] at cA
          simp only [builtinS] at hk
          split at hk
          case h_2 => cases hk
          rename_i e ht
          split at hk
          · rename_i ik hu
            obtain ⟨i, m, q1, q2, q3, q4, q5⟩ := appendZ_ok gk H (H.ev x).1 hk
            have hz1 := (H.ev z).1
            rw [q1] at hz1
            exact .inr ⟨c, x, z, t, u, e, ik, i, m, rfl, hb, hx, hts, hu, ht, q2, int_inv hz1, q3, q4, q5⟩
          · obtain ⟨q1, q2⟩ := bif_some hk
            obtain rfl := Nat.eq_of_beq_eq_true q1
            exact cA ⟨rfl, e, ht, appendS_ok H (H.ev x).1 (H.ev x).2 (H.ev z).1 (H.ev z).2 q2⟩
        | [], _ => cases hk
        | [_], _ => cases hk
        | [_, _], [] => cases hk
        | [_, _], [_] => cases hk
        | [_, _], _ :: _ :: _ :: _ => cases hk
        | _ :: _ :: _ :: _, _ => cases hk
      case copy =>
        generalize hts : c.argTypes.toList = ts at hk cA
        generalize hxs : c.args.toList.map (evS cx st) = xs at hk
        match ts, xs with
        | [t, u], [X, Y] =>
          obtain ⟨x, z, hx, rfl, rfl⟩ := map2 hxs
          rw [hx] at cA
          simp only [builtinS] at hk
          split at hk
          case h_2 => cases hk
          rename_i e ht
          exact cA (.inl ⟨e, ht, copyS_ok H (H.ev x).1 (H.ev z).1 hk⟩)
        | [], _ => cases hk
        | [_], _ => cases hk
        | [_, _], [] => cases hk
        | [_, _], [_] => cases hk
        | [_, _], _ :: _ :: _ :: _ => cases hk
        | _ :: _ :: _ :: _, _ => cases hk
      all_goals
        exfalso
        generalize c.argTypes.toList = ts at hk
        generalize c.args.toList.map (evS cx st) = xs at hk
        unfold builtinS at hk
        split at hk <;> first | cases hk | (rename_i hbb; cases hbb)
    · cases hk
  | _ => exact plain (by simp) hk
def Fin (B : Bas) (cx : Cx) (Es : List Env) (y : α) (k : St → Option α) (E : Env) (h : Heap) (n : Nat) : Prop := ∃ st L, k st = some y ∧ Gam B cx st L Es E h n
theorem tup_nil {ρ : Rt} {mc : Nat} : TV L ρ mc h (.tup []) (.tup []) := .tup _ _ .nil
theorem put_same {E : Env} {d : Tmp} {v : AV} (h : E d = v) : E.put (some d) v = E := by
  funext t
  simp only [Env.put]
  split
  · rename_i ht; subst ht; exact h.symm
  · rfl
theorem regN_ok {P : Program} (gk : POk g) {call : Callee} (hcall : CallOk P call) {ops : Array Oper} : ∀ (l : List Oper) (i : Nat) {st : St} {L : Lay} {E : Env} {h : Heap} {n : Nat} {k : St → Option α}, ops.toList.drop i = l → Gam B cx st L Es E h n → regS g call cx ops (List.range' i l.length) st k = some y → opsB P g.T ops.toList l E h n (Fin B cx Es y k)
  | [], i, st, L, E, h, n, k, _, H, hk => ⟨st, L, hk, H⟩
  | o :: l, i, st, L, E, h, n, k, hd, H, hk => by
    have hi : ops[i]? = some o := by
      have : ops.toList[i]? = some o := by
        have h1 : (ops.toList.drop i)[0]? = some o := by rw [hd]; rfl
        rw [List.getElem?_drop] at h1; simpa using h1
      simpa using this
    have hd' : ops.toList.drop (i + 1) = l := by
      have : (ops.toList.drop i).tail = l := by rw [hd]; rfl
      rw [← this, List.tail_drop]
    simp only [List.length_cons, List.range'_succ, regS, hi] at hk
    have next : ∀ {r : AV} {h' : Heap} {n' : Nat}, Done B cx Es E y (fun v st => putS cx st o.dst v fun st => regS g call cx ops (List.range' (i + 1) l.length) st k) r h' n' → opsB P g.T ops.toList l (E.put o.dst r) h' n' (Fin B cx Es y k) := fun {r h' n'} ⟨v, ⟨env', ρ', nx', mc'⟩, L', q1, q2, q3, q4⟩ => by
      obtain ⟨st2, p1, p2, _⟩ := q4.put q2 q3 q1
      exact regN_ok gk hcall l (i + 1) hd' p2 p1
    have run : ∀ {st : St} {L : Lay}, Gam B cx st L Es E h n → operS g cx st call o (fun v st => putS cx st o.dst v fun st => regS g call cx ops (List.range' (i + 1) l.length) st k) = some y → operB P g.T o E h n (fun r h' n' => opsB P g.T ops.toList l (E.put o.dst r) h' n' (Fin B cx Es y k)) := fun {st L} H hk => by
      rcases operS_ok gk hcall H hk with hq | ⟨cl, x, z, t, t', e, ik, ik', m, a1, a2, a3, a4, a5, a6, a7, a8, a9, a10, a11⟩
      · exact .inl (callA_mono (fun r h' n' hr => next hr) hq)
      · refine .inr ⟨cl, x, z, t, t', e, ik, ik', m, a1, a2, a3, a4, a5, a6, a7, a8, a9, a10, ?_⟩
        unfold appTo at a11 ⊢
        split at a11
        · exact ⟨a11.1, a11.2.1, ite_mono next next a11.2.2⟩
        · exact ⟨a11.1, a11.2.1, a11.2.2.1, ite_mono next (fun q => ⟨q.1, next q.2⟩) a11.2.2.2⟩
        · obtain ⟨b1, b2, b3, b, b4, b5, b6⟩ := a11
          exact ⟨b1, b2, b3, b, b4, b5, ite_mono next (ite_mono next next) b6⟩
        · exact a11.elim
    have skip : ∀ {st : St} {L : Lay}, Gam B cx st L Es E h n → putS cx st o.dst (.tup []) (fun st => regS g call cx ops (List.range' (i + 1) l.length) st k) = some y → opsB P g.T ops.toList l (E.put o.dst (.tup [])) h n (Fin B cx Es y k) := fun {st L} H hk => by
      obtain ⟨env', ρ', nx', mc'⟩ := st
      obtain ⟨st2, p1, p2, _⟩ := H.put tup_nil rfl hk
      exact regN_ok gk hcall l (i + 1) hd' p2 p1
    unfold opsB stepB
    cases hg : o.guard with
    | none =>
      rw [hg] at hk
      exact run H hk
    | some gw =>
      obtain ⟨j, want⟩ := gw
      rw [hg] at hk
      simp only at hk ⊢
      split at hk
      · cases hk
      · rename_i d hd2
        have hyd : yieldA ops.toList E j = match E.get d with
            | .bool b => some (some b)
            | .undef => none
            | .fn .. => none
            | _ => some none := by
          unfold yieldA
          rw [Array.getElem?_toList, hd2]
          rfl
        split at hk
        · rename_i b hb
          have hE := (H.getT d).1
          rw [hb] at hE
          have hEd : E d = .bool b := bool_inv hE
          have hy : yieldA ops.toList E j = some (some b) := by rw [hyd]; show (match E d with | .bool b => some (some b) | .undef => none | .fn .. => none | _ => some none) = _; rw [hEd]
          rw [hy]
          obtain ⟨env', ρ', nx', mc'⟩ := st
          have rb : ∀ {c : Bool} {K : St → Option α}, c = b → putS cx ⟨env', ρ', nx', mc'⟩ (some d) (.bool c) K = some y → ∃ st2, K st2 = some y ∧ Gam B cx st2 L Es E h n := fun {c K} hcb hp => by
            subst hcb
            obtain ⟨st2, p1, p2, _⟩ := H.put (TV.bool _) rfl hp
            rw [put_same hEd] at p2
            exact ⟨st2, p1, p2⟩
          cases b with
          | true =>
            rw [if_pos rfl] at hk
            obtain ⟨st2, p1, p2⟩ := rb rfl hk
            cases want with
            | true => simp only [if_true]; exact run p2 p1
            | false => simp only [Option.some.injEq, Bool.true_eq_false, if_false]; exact skip p2 p1
          | false =>
            rw [if_neg (by simp)] at hk
            obtain ⟨st2, p1, p2⟩ := rb rfl hk
            cases want with
            | true => simp only [Option.some.injEq, Bool.false_eq_true, if_false]; exact skip p2 p1
            | false => simp only [if_true]; exact run p2 p1
        · rename_i vs hb
          have hE := (H.getT d).1
          rw [hb] at hE
          obtain ⟨asl, hEd, _⟩ := tup_inv hE
          have hy : yieldA ops.toList E j = some none := by rw [hyd]; show (match E d with | .bool b => some (some b) | .undef => none | .fn .. => none | _ => some none) = _; rw [hEd]
          rw [hy]
          simp only [reduceCtorEq, if_false]
          exact skip H hk
        · cases hk
end
end Go.Proofs.Ytcngfjmfgeckmaa
namespace Go.Proofs.Ytcngfjmfgeckmaa
open Go
section
variable {B : Bas} {cx cx' : Cx} {st st' : St} {L : Lay} {Es : List Env} {E : Env} {h : Heap} {n : Nat}
theorem Gam.same (H : Gam B cx st L Es E h n) (hr : ∀ r, rootOf cx' st' r = rootOf cx st r) (hnx : st'.nx = st.nx) (hmc : st'.mc = st.mc)
    (henv : ∀ t v, lkp st'.env t = some v → lkp st.env t = some v ∨ lkp cx.env0 t = some v) (henv0 : ∀ t v, lkp cx'.env0 t = some v → lkp st.env t = some v ∨ lkp cx.env0 t = some v) (hfr : cx'.frames = cx.frames) (hdj : ∀ t v, lkp cx'.env0 t = some v → lkp st'.env t = none)
    (hnd : (st'.roots.map Prod.fst).Nodup) (hkey : ∀ r x, lkp st'.roots r = some x → ∃ x', lkp st.roots r = some x') (hlkc : ∀ r ρ ρ0, lkp st'.roots r = some ρ → lkp cx'.roots0 r = some ρ0 → ∃ cs cs0, ρ = .cell cs ∧ ρ0 = .cell cs0 ∧ cs.length = cs0.length) : Gam B cx' st' L Es E h n := by
  have hR : rootOf cx' st' = rootOf cx st := funext hr
  refine ⟨H.f0, H.fh, H.gh, H.fr, H.rh, H.fnew, H.hlt, H.nn, ?_, ?_, ?_, ?_, ?_, ?_, fun t v hv => ?_, fun t v hv => ?_, ?_, hdj, ?_, ?_, hnd, fun r hr => H.lkd r (hr.imp (fun ⟨x, hx⟩ => hkey r x hx) fun hq => by rw [← hnx]; exact hq), hlkc⟩
  · rw [hR, hmc]; exact H.th
  · rw [hR, hnx]; exact H.lowT
  · rw [hR]; exact H.ap
  · rw [hR]; exact H.ftF
  · rw [hR]; exact H.ftR
  · rw [hR]; exact H.ftC
  · rw [hR, hmc, hnx]
    rcases henv t v hv with h1 | h1
    · exact H.env t v h1
    · exact H.env0 t v h1
  · rw [hR, hmc, hnx]
    rcases henv0 t v hv with h1 | h1
    · exact H.env t v h1
    · exact H.env0 t v h1
  · rw [hfr, hR, hmc, hnx]; exact H.frs
  · rw [hfr]; exact H.frl
  · rw [hmc, hnx]; exact H.mcl
theorem hasN_iff : ∀ {l : List Nat} {x : Nat}, hasN l x = true ↔ x ∈ l
  | [], x => by simp [hasN]
  | a :: l, x => by
    simp only [hasN]
    cases hb : a.beq x with
    | true => simp [Nat.eq_of_beq_eq_true hb]
    | false =>
      have hne : x ≠ a := by rintro rfl; rw [Nat.beq_refl] at hb; cases hb
      simp [hasN_iff (l := l), hne]
theorem lkp_inDs (ds : List Nat) : ∀ (env : SEnv) (t : Nat), lkp (inDs ds env) t = if t ∈ ds then lkp env t else none
  | [], t => by simp [inDs, lkp]
  | (a, v) :: l, t => by
    have ih := lkp_inDs ds l t
    simp only [inDs]
    cases hb : hasN ds a with
    | true =>
      show lkp ((a, v) :: inDs ds l) t = _
      rw [lkp_cons, lkp_cons, ih]
      by_cases hq : t = a
      · subst hq; rw [if_pos rfl, if_pos (hasN_iff.1 hb), if_pos rfl]
      · rw [if_neg hq, if_neg hq]
    | false =>
      show lkp (inDs ds l) t = _
      rw [lkp_cons, ih]
      by_cases hq : t = a
      · subst hq
        have : ¬ t ∈ ds := fun hm => by rw [hasN_iff.2 hm] at hb; cases hb
        rw [if_neg this, if_neg this]
      · rw [if_neg hq]
theorem lkp_outDs (ds : List Nat) : ∀ (env : SEnv) (t : Nat), lkp (outDs ds env) t = if t ∈ ds then none else lkp env t
  | [], t => by simp [outDs, lkp]
  | (a, v) :: l, t => by
    have ih := lkp_outDs ds l t
    simp only [outDs]
    cases hb : hasN ds a with
    | true =>
      show lkp (outDs ds l) t = _
      rw [lkp_cons, ih]
      by_cases hq : t = a
      · subst hq; rw [if_pos (hasN_iff.1 hb), if_pos (hasN_iff.1 hb)]
      · rw [if_neg hq]
    | false =>
      show lkp ((a, v) :: outDs ds l) t = _
      rw [lkp_cons, lkp_cons, ih]
      by_cases hq : t = a
      · subst hq
        have : ¬ t ∈ ds := fun hm => by rw [hasN_iff.2 hm] at hb; cases hb
        rw [if_pos rfl, if_neg this, if_pos rfl]
      · rw [if_neg hq, if_neg hq]
theorem lkp_app {α : Type} : ∀ (l m : List (Nat × α)) (t : Nat), lkp (l ++ m) t = match lkp l t with | some v => some v | none => lkp m t
  | [], m, t => rfl
  | (a, v) :: l, m, t => by
    have ih := lkp_app l m t
    rw [List.cons_append, lkp_cons, lkp_cons, ih]
    split <;> rfl
def looseOf (m : RM) : Root → Option Root
  | ρ => match m, ρ with
    | .row, ρ => some ρ
    | .cell offs, .cell cs => some (.cell (lockC offs 0 cs))
    | _, _ => none
theorem looseR_keys (ids : Ids) : ∀ (ρ : Roots), (∀ a, a ∈ (looseR ids ρ).map Prod.fst → a ∈ ρ.map Prod.fst) ∧ ((ρ.map Prod.fst).Nodup → ((looseR ids ρ).map Prod.fst).Nodup)
  | [] => by simp [looseR]
  | (r, x) :: l => by
    obtain ⟨i1, i2⟩ := looseR_keys ids l
    have key : ∀ {y : Root}, (∀ a, a ∈ ((r, y) :: looseR ids l).map Prod.fst → a ∈ ((r, x) :: l).map Prod.fst) ∧ ((((r, x) :: l).map Prod.fst).Nodup → (((r, y) :: looseR ids l).map Prod.fst).Nodup) := fun {y} => by
      refine ⟨fun a ha => ?_, fun hn => ?_⟩
      · simp only [List.map_cons, List.mem_cons] at ha ⊢
        exact ha.imp id (i1 a)
      · simp only [List.map_cons, List.nodup_cons] at hn ⊢
        exact ⟨fun hm => hn.1 (i1 r hm), i2 hn.2⟩
    have skip : (∀ a, a ∈ (looseR ids l).map Prod.fst → a ∈ ((r, x) :: l).map Prod.fst) ∧ ((((r, x) :: l).map Prod.fst).Nodup → ((looseR ids l).map Prod.fst).Nodup) := by
      refine ⟨fun a ha => ?_, fun hn => ?_⟩
      · simp only [List.map_cons, List.mem_cons]; exact .inr (i1 a ha)
      · simp only [List.map_cons, List.nodup_cons] at hn; exact i2 hn.2
    simp only [looseR]
    split
    · exact key
    · exact key
    · exact skip
theorem lkp_looseR (ids : Ids) : ∀ (ρ : Roots), (ρ.map Prod.fst).Nodup → ∀ r, lkp (looseR ids ρ) r = (lkp ρ r).bind (looseOf (modeOf ids r))
  | [], _, r => rfl
  | (a, x) :: l, hn, r => by
    simp only [List.map_cons, List.nodup_cons] at hn
    have ih := lkp_looseR ids l hn.2 r
    have hno : r = a → lkp l r = none := fun hq => by subst hq; exact lkp_none hn.1
    rw [lkp_cons]
    have go : ∀ {y : Option Root}, looseOf (modeOf ids a) x = y → (lkp (match y with | some z => (a, z) :: looseR ids l | none => looseR ids l) r = (if r = a then some x else lkp l r).bind (looseOf (modeOf ids r))) := fun {y} hy => by
      by_cases hq : r = a
      · subst hq
        rw [if_pos rfl]
        show _ = looseOf (modeOf ids r) x
        rw [hy]
        cases y with
        | some z => show lkp ((r, z) :: looseR ids l) r = _; rw [lkp_cons, if_pos rfl]
        | none => show lkp (looseR ids l) r = none; rw [ih, hno rfl]; rfl
      · rw [if_neg hq, ← ih]
        cases y with
        | some z => show lkp ((a, z) :: looseR ids l) r = _; rw [lkp_cons, if_neg hq]
        | none => rfl
    simp only [looseR]
    cases hm : modeOf ids a with
    | row => exact go (y := some x) (by rw [hm]; rfl)
    | ro => exact go (y := none) (by rw [hm]; cases x <;> rfl)
    | cell offs =>
      cases x with
      | row v w s md hl t xs => exact go (y := none) (by rw [hm]; rfl)
      | cell cs => exact go (y := some _) (by rw [hm]; rfl)
def fixedOf (r0 : Roots) (r : Nat) (m : RM) : Root → Option Root
  | x => match m, x with
    | .row, _ => none
    | _, .cell cs => (match lkp r0 r with
      | some (.cell cs0) => some (.cell (ovl cs cs0))
      | _ => some (.cell cs))
    | _, x => some x
theorem lkp_fixedR (ids : Ids) (r0 : Roots) : ∀ (ρ : Roots), (ρ.map Prod.fst).Nodup → ∀ r, lkp (fixedR ids r0 ρ) r = (lkp ρ r).bind (fixedOf r0 r (modeOf ids r))
  | [], _, r => rfl
  | (a, x) :: l, hn, r => by
    simp only [List.map_cons, List.nodup_cons] at hn
    have ih := lkp_fixedR ids r0 l hn.2 r
    have hno : r = a → lkp l r = none := fun hq => by subst hq; exact lkp_none hn.1
    rw [lkp_cons]
    have go : ∀ {y : Option Root}, fixedOf r0 a (modeOf ids a) x = y → (lkp (match y with | some z => (a, z) :: fixedR ids r0 l | none => fixedR ids r0 l) r = (if r = a then some x else lkp l r).bind (fixedOf r0 r (modeOf ids r))) := fun {y} hy => by
      by_cases hq : r = a
      · subst hq
        rw [if_pos rfl]
        show _ = fixedOf r0 r (modeOf ids r) x
        rw [hy]
        cases y with
        | some z => show lkp ((r, z) :: fixedR ids r0 l) r = _; rw [lkp_cons, if_pos rfl]
        | none => show lkp (fixedR ids r0 l) r = none; rw [ih, hno rfl]; rfl
      · rw [if_neg hq, ← ih]
        cases y with
        | some z => show lkp ((a, z) :: fixedR ids r0 l) r = _; rw [lkp_cons, if_neg hq]
        | none => rfl
    have cell : ∀ {cs : List SV}, x = .cell cs → modeOf ids a ≠ .row → (fixedR ids r0 ((a, .cell cs) :: l) = (match fixedOf r0 a (modeOf ids a) (.cell cs) with | some z => (a, z) :: fixedR ids r0 l | none => fixedR ids r0 l)) := fun {cs} _ hm => by
      simp only [fixedR, fixedOf]
      cases hm2 : modeOf ids a with
      | row => exact absurd hm2 hm
      | ro => cases hz : lkp r0 a with
        | none => rfl
        | some ρ0 => cases ρ0 <;> rfl
      | cell offs => cases hz : lkp r0 a with
        | none => rfl
        | some ρ0 => cases ρ0 <;> rfl
    cases hm : modeOf ids a with
    | row =>
      have : fixedR ids r0 ((a, x) :: l) = fixedR ids r0 l := by simp only [fixedR, hm]
      rw [this]
      exact go (y := none) (by rw [hm]; cases x <;> rfl)
    | ro =>
      cases x with
      | row v w s md hl t xs =>
        have : fixedR ids r0 ((a, .row v w s md hl t xs) :: l) = (a, .row v w s md hl t xs) :: fixedR ids r0 l := by simp only [fixedR, hm]
        rw [this]
        exact go (y := some _) (by rw [hm]; rfl)
      | cell cs => rw [cell rfl (by rw [hm]; simp)]; exact go rfl
    | cell offs =>
      cases x with
      | row v w s md hl t xs =>
        have : fixedR ids r0 ((a, .row v w s md hl t xs) :: l) = (a, .row v w s md hl t xs) :: fixedR ids r0 l := by simp only [fixedR, hm]
        rw [this]
        exact go (y := some _) (by rw [hm]; rfl)
      | cell cs => rw [cell rfl (by rw [hm]; simp)]; exact go rfl
theorem lockC_len (offs : List Nat) : ∀ (o : Nat) (cs : List SV), (lockC offs o cs).length = cs.length
  | _, [] => rfl
  | o, c :: cs => by simp [lockC, lockC_len offs (o + 1) cs]
theorem lockC_get (offs : List Nat) : ∀ (o : Nat) (cs : List SV) (i : Nat), (lockC offs o cs)[i]? = (cs[i]?).map fun v => if o + i ∈ offs then v else .lk
  | _, [], i => by simp [lockC]
  | o, c :: cs, 0 => by
    simp only [lockC, List.getElem?_cons_zero, Option.map_some, Nat.add_zero]
    cases hb : hasN offs o with
    | true => rw [if_pos (hasN_iff.1 hb)]; rfl
    | false => rw [if_neg fun hm => by rw [hasN_iff.2 hm] at hb; cases hb]; rfl
  | o, c :: cs, i + 1 => by
    have := lockC_get offs (o + 1) cs i
    simp only [lockC, List.getElem?_cons_succ]
    rw [this]
    congr 1; funext v
    rw [show o + 1 + i = o + (i + 1) by omega]
theorem ovl_lock (offs : List Nat) (cs cs0 : List SV) (hl : cs.length = cs0.length) (h0 : ∀ i : Nat, cs[i]? = some SV.lk ∨ cs[i]? = cs0[i]?) : ovl (lockC offs 0 cs) cs0 = cs0 := by
  apply List.ext_getElem?
  intro i
  rw [ovl_get _ _ (by rw [lockC_len]; exact hl), lockC_get]
  cases hc : cs[i]? with
  | none =>
    have : cs0[i]? = none := by
      rw [List.getElem?_eq_none_iff] at hc ⊢; omega
    simp [this]
  | some v =>
    simp only [Option.map_some, Nat.zero_add]
    split
    · rename_i hq; rfl
    · rename_i hne
      rcases h0 i with hq | hq
      · rw [hc] at hq
        cases hq
        exfalso
        apply hne
        split <;> rfl
      · rw [hc] at hq
        rw [← hq]
        split
        · rfl
        · rename_i hmem
          exfalso
          apply hne
          rw [if_neg hmem]
theorem Gam.scopeRoot (H : Gam B cx st L Es E h n) (ids : Ids) (r : Nat) (env : SEnv) (nx mc : Nat) (e0 : SEnv) (fr : List SEnv) : rootOf ⟨e0, fixedR ids cx.roots0 st.roots ++ cx.roots0, fr⟩ ⟨env, looseR ids st.roots, nx, mc⟩ r = rootOf cx st r := by
  rw [rootOf_jn, rootOf_jn]
  simp only
  rw [lkp_looseR ids _ H.nd, lkp_app, lkp_fixedR ids _ _ H.nd]
  cases hx : lkp st.roots r with
  | none => simp only [Option.bind_none]
  | some x =>
    simp only [Option.bind_some]
    cases x with
    | row v w s md hl t xs =>
      have h0 : lkp cx.roots0 r = none := by
        cases hz : lkp cx.roots0 r with
        | none => rfl
        | some ρ => obtain ⟨_, _, h1, _⟩ := H.lkc r _ _ hx hz; cases h1
      rw [h0]
      cases modeOf ids r <;> rfl
    | cell cs =>
      have full : ∀ {cs1 : List SV}, cs1.length = cs.length → (∀ i : Nat, cs[i]? = some SV.lk ∨ cs[i]? = cs1[i]?) → ∀ offs, jnR (some (.cell (lockC offs 0 cs))) (some (.cell cs1)) = some (.cell cs1) := fun {cs1} h1 h2 offs => by
        show some (Root.cell (ovl (lockC offs 0 cs) cs1)) = _
        rw [ovl_lock offs cs cs1 h1.symm h2]
      cases hz : lkp cx.roots0 r with
      | none =>
        cases hm : modeOf ids r with
        | row => rfl
        | ro => simp only [looseOf, fixedOf, hz]; rfl
        | cell offs =>
          simp only [looseOf, fixedOf, hz]
          exact full rfl (fun i => .inr rfl) offs
      | some ρ0 =>
        obtain ⟨cs1, cs0, h1, rfl, h3⟩ := H.lkc r _ _ hx hz
        cases h1
        cases hm : modeOf ids r with
        | row => rfl
        | ro => simp only [looseOf, fixedOf, hz]; rfl
        | cell offs =>
          simp only [looseOf, fixedOf, hz]
          refine full (ovl_len _ _ h3) (fun i => ?_) offs
          rw [ovl_get _ _ h3]
          cases hc : cs[i]? with
          | none => exact .inr rfl
          | some v => cases v <;> first | exact .inl rfl | exact .inr rfl
theorem Gam.scope {env0 env : SEnv} {roots0 ρ : Roots} {frames : List SEnv} {nx mc : Nat} (H : Gam B ⟨env0, roots0, frames⟩ ⟨env, ρ, nx, mc⟩ L Es E h n) (ids : Ids) (ds : List Nat) :
    Gam B ⟨outDs ds env ++ env0, fixedR ids roots0 ρ ++ roots0, frames⟩ ⟨inDs ds env, looseR ids ρ, nx, mc⟩ L Es E h n := by
  refine H.same (fun r => H.scopeRoot ids r _ _ _ _ _) rfl rfl (fun t v hv => ?_) (fun t v hv => ?_) rfl (fun t v hv => ?_) ((looseR_keys ids ρ).2 H.nd) (fun r x hx => ?_) (fun r x x0 h1 h2 => ?_)
  · simp only at hv
    rw [lkp_inDs] at hv
    split at hv
    · exact .inl hv
    · cases hv
  · simp only at hv
    rw [lkp_app, lkp_outDs] at hv
    split at hv
    · rename_i w hw
      split at hw
      · cases hw
      · cases hv; exact .inl hw
    · exact .inr hv
  · simp only at hv ⊢
    rw [lkp_app, lkp_outDs] at hv
    rw [lkp_inDs]
    split
    · rename_i ht
      rw [if_pos ht] at hv
      exact H.dj t v hv
    · rfl
  · exact fst_lkp ((looseR_keys ids ρ).1 r (lkp_fst hx))
  · simp only at h1 h2
    rw [lkp_looseR ids _ H.nd] at h1
    rw [lkp_app, lkp_fixedR ids _ _ H.nd] at h2
    obtain ⟨y, hy, h1⟩ := Option.bind_eq_some_iff.1 h1
    simp only at hy
    rw [hy] at h2
    simp only [Option.bind_some] at h2
    cases y with
    | row v w s md hl t xs =>
      have h0 : lkp roots0 r = none := by
        cases hz : lkp roots0 r with
        | none => rfl
        | some ρ => obtain ⟨_, _, h1, _⟩ := H.lkc r _ _ hy hz; cases h1
      rw [h0] at h2
      cases hm : modeOf ids r with
      | row => rw [hm] at h2; cases h2
      | ro => rw [hm] at h1; cases h1
      | cell offs => rw [hm] at h1; cases h1
    | cell cs =>
      have len0 : ∀ ρ0, lkp roots0 r = some ρ0 → ∃ cs0, ρ0 = .cell cs0 ∧ cs.length = cs0.length := fun ρ0 hz => by
        obtain ⟨cs1, cs0, k1, k2, k3⟩ := H.lkc r _ _ hy hz
        cases k1; exact ⟨cs0, k2, k3⟩
      cases hm : modeOf ids r with
      | row =>
        rw [hm] at h1 h2
        cases h1
        obtain ⟨cs0, rfl, k⟩ := len0 _ h2
        exact ⟨cs, cs0, rfl, rfl, k⟩
      | ro => rw [hm] at h1; cases h1
      | cell offs =>
        rw [hm] at h1 h2
        simp only [looseOf, Option.some.injEq] at h1
        subst h1
        simp only [fixedOf] at h2
        cases hz : lkp roots0 r with
        | none =>
          rw [hz] at h2
          simp only [Option.some.injEq] at h2
          subst h2
          exact ⟨_, cs, rfl, rfl, lockC_len _ _ _⟩
        | some ρ0 =>
          obtain ⟨cs0, rfl, k⟩ := len0 _ hz
          rw [hz] at h2
          simp only [Option.some.injEq] at h2
          subst h2
          exact ⟨_, _, rfl, rfl, by rw [lockC_len, ovl_len _ _ k]⟩
end
end Go.Proofs.Ytcngfjmfgeckmaa
namespace Go.Proofs.Ytcngfjmfgeckmaa
open Go
def hdId : AV → Option Nat
  | .sl _ id _ _ _ _ => some id
  | _ => none
section
variable {B : Bas} {cx : Cx} {st : St} {L : Lay} {Es : List Env} {E : Env} {h : Heap} {n : Nat}
open Classical in
noncomputable def reMd (Xf Xz : Nat → Prop) (r : Nat) : Root → Root
  | .row v w s md none t xs => .row v w s (if Xz r then .fz else if Xf r then .flat else md) none t xs
  | x => x
theorem lkp_map {α : Type} (f : Nat → α → α) : ∀ (l : List (Nat × α)) (r : Nat), lkp (l.map fun p => (p.1, f p.1 p.2)) r = (lkp l r).map (f r)
  | [], r => rfl
  | (a, x) :: l, r => by
    rw [List.map_cons, lkp_cons, lkp_cons, lkp_map f l r]
    split
    · rename_i hq; subst hq; rfl
    · rfl
theorem RowB.inner {F : Heap} {t : PT} {xs : List t.den} {A : AV} {I : Ids0} (hb : RowB .own F h t xs A I) {F' : Heap} (hs : F.Sub F') (hk : ∀ i b, I i → hdId A ≠ some i → h i = some b → F' i = some b) : RowB .flat F' h t xs A (fun i => I i ∧ hdId A = some i) := by
  rcases hb with ⟨rfl, rfl, hI⟩ | ⟨rfl, rfl, hI⟩ | ⟨id, off, lo, ex, b, J, rfl, hb, hle, hlo, hc, hid, hI⟩
  · exact .inl ⟨rfl, rfl, fun i hi => hI i hi.1⟩
  · exact .inr (.inl ⟨rfl, rfl, fun i hi => hI i hi.1⟩)
  · refine .inr (.inr ⟨id, off, lo, ex, b, fun _ => False, rfl, hb, hle, hlo, ⟨hc.frz hs fun i b hi hb => hk i b ((hI i).2 (.inr hi)) (fun hq => by cases hq; exact hid hi) hb, fun _ hq => hq⟩, fun hq => hq, fun i => ⟨fun hi => .inl (by cases hi.2; rfl), fun hi => ?_⟩⟩)
    rcases hi with rfl | hi
    · exact ⟨(hI _).2 (.inl rfl), rfl⟩
    · exact hi.elim
open Classical in
theorem Gam.reMd (H : Gam B cx st L Es E h n) (Xf Xz : Nat → Prop) (hf : ∀ r, Xf r → ∃ v w s t xs, lkp st.roots r = some (.row v w s .own none t xs)) (hz : ∀ r, Xz r → ∃ v w s md t xs, lkp st.roots r = some (.row v w s md none t xs)) (hd : ∀ r, Xf r → ¬ Xz r) :
    ∃ ρ' L', (∀ r, lkp ρ' r = (lkp st.roots r).map (Go.Proofs.Ytcngfjmfgeckmaa.reMd Xf Xz r)) ∧ ρ'.map Prod.fst = st.roots.map Prod.fst ∧ Gam B cx ⟨st.env, ρ', st.nx, st.mc⟩ L' Es E h n ∧ L'.A = L.A ∧ L'.C = L.C ∧ L'.U = L.U ∧ L.F.Sub L'.F ∧ (∀ r i b, Xz r → L.ft r i → h i = some b → L'.F i = some b) ∧ L.R.Sub L'.R ∧
      (∀ r, ¬ Xf r → ¬ Xz r → L'.ft r = L.ft r) ∧ ∀ v a, TV L (rootOf cx st) st.mc h v a → v.lowN st.nx = true → TV L' (rootOf cx ⟨st.env, ρ', st.nx, st.mc⟩) st.mc h v a := by
  obtain ⟨env, ρ, nx, mc⟩ := st
  simp only at hf hz ⊢
  refine ⟨ρ.map fun p => (p.1, Go.Proofs.Ytcngfjmfgeckmaa.reMd Xf Xz p.1 p.2), ?_⟩
  have hl : ∀ r, lkp (ρ.map fun p => (p.1, Go.Proofs.Ytcngfjmfgeckmaa.reMd Xf Xz p.1 p.2)) r = (lkp ρ r).map (Go.Proofs.Ytcngfjmfgeckmaa.reMd Xf Xz r) := fun r => lkp_map _ ρ r
  have hfst : (ρ.map fun p => (p.1, Go.Proofs.Ytcngfjmfgeckmaa.reMd Xf Xz p.1 p.2)).map Prod.fst = ρ.map Prod.fst := by rw [List.map_map]; rfl
  generalize (ρ.map fun p => (p.1, Go.Proofs.Ytcngfjmfgeckmaa.reMd Xf Xz p.1 p.2)) = ρ' at hl hfst ⊢
  have rowX : ∀ {r}, Xf r ∨ Xz r → ∃ v w s md t xs, lkp ρ r = some (.row v w s md none t xs) := fun hq => by
    rcases hq with hq | hq
    · obtain ⟨v, w, s, t, xs, k⟩ := hf _ hq; exact ⟨v, w, s, _, t, xs, k⟩
    · exact hz _ hq
  have rt : ∀ r, rootOf cx ⟨env, ρ', nx, mc⟩ r = (if Xf r ∨ Xz r then (lkp ρ r).map (Go.Proofs.Ytcngfjmfgeckmaa.reMd Xf Xz r) else rootOf cx ⟨env, ρ, nx, mc⟩ r) := fun r => by
    rw [rootOf_jn, rootOf_jn]
    simp only [hl]
    by_cases hq : Xf r ∨ Xz r
    · rw [if_pos hq]
      obtain ⟨v, w, s, md, t, xs, k⟩ := rowX hq
      rw [k, H.row0 k]
      rfl
    · rw [if_neg hq]
      simp only [not_or] at hq
      congr 1
      cases lkp ρ r with
      | none => rfl
      | some x =>
        cases x with
        | cell => rfl
        | row v w s md hl t xs =>
          cases hl with
          | none => simp [Go.Proofs.Ytcngfjmfgeckmaa.reMd, hq.1, hq.2]
          | some => rfl
  have rtX : ∀ {r v w s md t} {xs : List t.den}, Xf r ∨ Xz r → lkp ρ r = some (.row v w s md none t xs) → rootOf cx ⟨env, ρ', nx, mc⟩ r = some (Go.Proofs.Ytcngfjmfgeckmaa.reMd Xf Xz r (.row v w s md none t xs)) := fun hq k => by rw [rt, if_pos hq, k]; rfl
  let Y : Nat → Prop := fun z => (∃ r, Xz r ∧ L.ft r z) ∨ ∃ r, Xf r ∧ L.ft r z ∧ hdId (L.A r) ≠ some z
  have yX : ∀ z, Y z → ∃ r, (Xf r ∨ Xz r) ∧ L.ft r z := fun z hz => by
    rcases hz with ⟨r, h1, h2⟩ | ⟨r, h1, h2, _⟩
    · exact ⟨r, .inr h1, h2⟩
    · exact ⟨r, .inl h1, h2⟩
  have yF : ∀ z, Y z → L.F z = none := fun z hz => by
    obtain ⟨r, h1, h2⟩ := yX z hz
    obtain ⟨_, _, _, _, _, _, k⟩ := rowX h1
    exact (H.ftF r _ z (lkp_root k) h2).1
  let L1 : Lay := { L with F := frzF L.F h Y, ft := fun r => open Classical in if Xz r then (fun _ => False) else if Xf r then (fun z => L.ft r z ∧ hdId (L.A r) = some z) else L.ft r }
  have fz0 : ∀ r, Xz r → L1.ft r = fun _ => False := fun r hq => if_pos hq
  have ff0 : ∀ r, Xf r → L1.ft r = fun z => L.ft r z ∧ hdId (L.A r) = some z := fun r hq => by
    show (if Xz r then _ else if Xf r then _ else _) = _
    rw [if_neg (hd r hq), if_pos hq]
  have fo : ∀ r, ¬ Xf r → ¬ Xz r → L1.ft r = L.ft r := fun r h1 h2 => by
    show (if Xz r then _ else if Xf r then _ else _) = _
    rw [if_neg h2, if_neg h1]
  have ftSub : ∀ r z, L1.ft r z → L.ft r z := fun r z hz' => by
    by_cases h1 : Xz r
    · rw [fz0 r h1] at hz'; exact hz'.elim
    · by_cases h2 : Xf r
      · rw [ff0 r h2] at hz'; exact hz'.1
      · rw [fo r h2 h1] at hz'; exact hz'
  have apX : ∀ {r r' z}, (Xf r ∨ Xz r) → (Xf r' ∨ Xz r') → L.ft r z → L.ft r' z → r = r' := fun h1 h2 h3 h4 => by
    obtain ⟨_, _, _, _, _, _, k1⟩ := rowX h1
    obtain ⟨_, _, _, _, _, _, k2⟩ := rowX h2
    exact H.ap _ _ _ _ _ (lkp_root k1) (lkp_root k2) h3 h4
  have S : Stp cx ⟨env, ρ, nx, mc⟩ ⟨env, ρ', nx, mc⟩ L L1 h h n n (fun r => Xf r ∨ Xz r) := {
    nx := Nat.le_refl _
    nn := Nat.le_refl _
    env := rfl
    F := frzF_sub yF
    Fh := fun z b hb => (frzF_from hb).elim (H.fh z b) (·.2)
    Fnew := fun z b hb => (frzF_from hb).imp id fun ⟨hy, _⟩ => .inr (by
      obtain ⟨r, h1, h2⟩ := yX z hy
      obtain ⟨_, _, _, _, _, _, k⟩ := rowX h1
      exact ⟨r, _, h1, lkp_root k, h2, rfl⟩)
    fr := fun _ _ => .inl rfl
    lt := H.hlt
    old := fun r hr => by
      simp only [not_or] at hr
      exact ⟨by rw [rt, if_neg (by simp [hr.1, hr.2])], rfl, rfl, fo r hr.1 hr.2⟩
    U := fun _ _ => rfl
    row := fun r v w s md hl' t xs hX hq _ _ => by
      obtain ⟨v0, w0, s0, md0, t0, xs0, k⟩ := rowX hX
      rw [rtX hX k] at hq
      cases hq
      exact ⟨_, _, _, _, _, lkp_root k, rfl, rfl, fun _ => ⟨rfl, rfl⟩, fun _ => ⟨rfl, fun _ _ _ _ _ hc => hc⟩⟩
    cell := fun r cs hX hq _ => by
      obtain ⟨v0, w0, s0, md0, t0, xs0, k⟩ := rowX hX
      rw [rtX hX k] at hq
      cases hq
    low := fun r x hX hq => by
      obtain ⟨v0, w0, s0, md0, t0, xs0, k⟩ := rowX hX
      rw [rtX hX k] at hq
      cases hq
      have := H.lowT r _ (lkp_root k)
      exact ⟨this.1, this.2⟩
    ft := fun r x z hX hq hz' => by
      obtain ⟨v0, w0, s0, md0, t0, xs0, k⟩ := rowX hX
      rw [rtX hX k] at hq
      cases hq
      have hz2 := ftSub r z hz'
      have := H.ftF r _ z (lkp_root k) hz2
      refine ⟨?_, this.2.2.1, .inr ⟨r, _, hX, lkp_root k, hz2, rfl⟩⟩
      show frzF L.F h Y z = none
      rw [frzF_not]
      · exact this.1
      · rintro (⟨r', h1, h2⟩ | ⟨r', h1, h2, h3⟩)
        · obtain rfl := apX hX (.inr h1) hz2 h2
          rw [fz0 r h1] at hz'; exact hz'
        · obtain rfl := apX hX (.inl h1) hz2 h2
          rw [ff0 r h1] at hz'
          exact h3 hz'.2
    ap := fun r r' _ _ z h1 h2 _ _ h3 h4 => apX h1 h2 (ftSub r z h3) (ftSub r' z h4)
    nd := by show (ρ'.map Prod.fst).Nodup; rw [hfst]; exact H.nd
    xk := fun r hX => .inl (by obtain ⟨_, _, _, _, _, _, k⟩ := rowX hX; exact ⟨_, k⟩)
    key := fun r x hx => .inl (fst_lkp (by rw [← hfst]; exact lkp_fst hx))
    lkc := fun r x x0 h1 h2 => by
      simp only at h1
      rw [hl] at h1
      obtain ⟨y, hy, rfl⟩ := Option.map_eq_some_iff.1 h1
      obtain ⟨cs, cs0, k1, k2, k3⟩ := H.lkc r y x0 hy h2
      subst k1
      exact ⟨cs, cs0, rfl, k2, k3⟩ }
  obtain ⟨R, hRR, G, tv⟩ := H.stepKR S H.mcl rfl (fun _ _ => .inl rfl) (fun R T r x hX hq => by
    obtain ⟨v0, w0, s0, md0, t0, xs0, k⟩ := rowX hX
    rw [rtX hX k] at hq
    cases hq
    have hro : RowOk L h r md0 none t0 xs0 := H.th r _ (lkp_root k)
    by_cases h1 : Xz r
    · show RowOk { L1 with R := R } h r (if Xz r then Md.fz else if Xf r then Md.flat else md0) none t0 xs0
      rw [if_pos h1]
      refine ⟨hro.frz (frzF_sub yF) fun i b hi hb => frzF_at (.inl ⟨r, h1, hi⟩) hb, fun i hi => ?_⟩
      have hi' : L1.ft r i := hi
      rw [fz0 r h1] at hi'; exact hi'
    · have h2 : Xf r := hX.resolve_right h1
      obtain ⟨v, w, s, t, xs, k2⟩ := hf r h2
      rw [k] at k2
      cases k2
      show RowOk { L1 with R := R } h r (if Xz r then Md.fz else if Xf r then Md.flat else Md.own) none _ _
      rw [if_neg h1, if_pos h2]
      refine RowB.rowOk (L := { L1 with R := R }) ?_ rfl
      show RowB .flat (frzF L.F h Y) h _ _ (L.A r) (L1.ft r)
      rw [ff0 r h2]
      exact (hro.rowB rfl).inner (frzF_sub yF) fun i b hi hne hb => frzF_at (.inr ⟨r, h2, hi, hne⟩) hb)
  refine ⟨{ L1 with R := R }, hl, hfst, G, rfl, rfl, rfl, frzF_sub yF, fun r i b hX hi hb => frzF_at (.inl ⟨r, hX, hi⟩) hb, hRR, fo, fun v a hv hlow => (tv v a hv hlow).1⟩
end
end Go.Proofs.Ytcngfjmfgeckmaa
namespace Go.Proofs.Ytcngfjmfgeckmaa
open Go
def SrcZ (L : Lay) (h : Heap) (rt : Rt) (z : List Src) (v : SV) (a : AV) : Prop := Fz L.F v a ∨ ∃ c, c ∈ z ∧ SrcOk L h rt c v a
mutual
inductive PV (ids : Ids) (rt : Rt) (L : Lay) (h : Heap) (z : List Src) (NA : List (Nat × AV)) (cl : List (Nat × Nat)) : SK → AV → List DV → Prop
  | int (k : IntKind) (x : Int) : PV ids rt L h z NA cl (.int k) (.int k x) [⟨.int k, x⟩]
  | bool (x : Bool) : PV ids rt L h z NA cl .bool (.bool x) [⟨.bool, x⟩]
  | str (x : ByteArray) : PV ids rt L h z NA cl .str (.str x) [⟨.str, x⟩]
  | nil : PV ids rt L h z NA cl .nil .nils []
  | rd (t : PT) (xs : List t.den) (a : AV) (hv : SrcZ L h rt z (.rd false t xs) a) : PV ids rt L h z NA cl (.rd t) a [⟨.list t, xs⟩]
  | vw (t : PT) (xs : List t.den) (a : AV) (hv : Fz L.R (.rd false t xs) a) : PV ids rt L h z NA cl (.vw t) a [⟨.list t, xs⟩]
  | rcd (k : RK) (x : k.den) (asl : List AV) (hl : asl.length = (explodeR k x).length) (hc : ∀ (o : Nat) (w : SV) (a : AV), (explodeR k x)[o]? = some w → asl[o]? = some a → SrcZ L h rt z w a) : PV ids rt L h z NA cl (.rcd k) (.agg asl) [⟨.rcd k, x⟩]
  | pr (t : PT) (x : t.den) (a : AV) (hv : prA L.F (explode t x) 0 a) : PV ids rt L h z NA cl (.pr t) a [⟨t, x⟩]
  | row (q : Nat) (a : AV) (ho : a.one = true) (hq : lkp NA q = some a) : PV ids rt L h z NA cl (.row q) a []
  | cpN (q off c : Nat) (a : AV) (ho : a.isEp = true) (hq : lkp cl q = some c) (hv : ∀ cs, rt c = some (.cell cs) → a = .ep cs.length (.sl cs.length (L.C c) 0 1 1 true) 0 off) : PV ids rt L h z NA cl (.cpN q off) a []
  | rowK (j : Nat) (i : Idn) (a : AV) (ho : a.one = true) (hi : nthI ids j = some i) (hv : ∀ w s md hl t xs, rt i.r = some (.row i.v w s md hl t xs) → a = L.A i.r) : PV ids rt L h z NA cl (.rowK j) a []
  | ep (j off : Nat) (d : Idn) (i : Int) (a : AV) (ho : a.isEp = true) (hi : nthI ids j = some d) (hv : ∀ w s md hl t xs, rt d.r = some (.row d.v w s md hl t xs) → 0 ≤ i ∧ i < (xs.length : Int) ∧ epA (L.A d.r) i.toNat off a) : PV ids rt L h z NA cl (.ep j off) a [⟨.int .i64, i⟩]
  | cp (j off : Nat) (i : Idn) (a : AV) (ho : a.isEp = true) (hi : nthI ids j = some i) (hv : ∀ cs, rt i.r = some (.cell cs) → a = .ep cs.length (.sl cs.length (L.C i.r) 0 1 1 true) 0 off) : PV ids rt L h z NA cl (.cp j off) a []
  | lk (a : AV) : PV ids rt L h z NA cl .lk a []
  | agg (l : List SK) (asl : List AV) (ds : List DV) (hc : PVs ids rt L h z NA cl l asl ds) (hn : ∀ s, s ∈ l → s ≠ .lk) : PV ids rt L h z NA cl (.agg l) (.agg asl) ds
  | tup (l : List SK) (asl : List AV) (ds : List DV) (hc : PVs ids rt L h z NA cl l asl ds) (hn : ∀ s, s ∈ l → s ≠ .lk) : PV ids rt L h z NA cl (.tup l) (.tup asl) ds
  | fn (f : FuncId) (l : List SK) (asl : List AV) (ds : List DV) (hc : PVs ids rt L h z NA cl l asl ds) (hn : ∀ s, s ∈ l → s ≠ .lk) : PV ids rt L h z NA cl (.fn f l) (.fn f asl) ds
  | nilp : PV ids rt L h z NA cl .nilp .nilp []
  | nilf : PV ids rt L h z NA cl .nilf .nilf []
  | und (a : AV) : PV ids rt L h z NA cl .und a []
inductive PVs (ids : Ids) (rt : Rt) (L : Lay) (h : Heap) (z : List Src) (NA : List (Nat × AV)) (cl : List (Nat × Nat)) : List SK → List AV → List DV → Prop
  | nil : PVs ids rt L h z NA cl [] [] []
  | cons (s : SK) (l : List SK) (a : AV) (asl : List AV) (d ds : List DV) (hv : PV ids rt L h z NA cl s a d) (hl : PVs ids rt L h z NA cl l asl ds) : PVs ids rt L h z NA cl (s :: l) (a :: asl) (d ++ ds)
end
structure NLe (z z' : List Src) (NA NA' : List (Nat × AV)) (cl cl' : List (Nat × Nat)) : Prop where
  z : ∀ c, c ∈ z → c ∈ z'
  NA : ∀ q a, lkp NA q = some a → lkp NA' q = some a
  cl : ∀ q c, lkp cl q = some c → lkp cl' q = some c
theorem SrcZ.mono {L : Lay} {h : Heap} {rt : Rt} {z z' : List Src} {v : SV} {a : AV} (hz : ∀ c, c ∈ z → c ∈ z') (hv : SrcZ L h rt z v a) : SrcZ L h rt z' v a := hv.imp id fun ⟨c, h1, h2⟩ => ⟨c, hz c h1, h2⟩
section
variable {ids : Ids} {rt : Rt} {L : Lay} {h : Heap} {z z' : List Src} {NA NA' : List (Nat × AV)} {cl cl' : List (Nat × Nat)}
mutual
theorem PV.mono (hm : NLe z z' NA NA' cl cl') : ∀ {s : SK} {a : AV} {ds : List DV}, PV ids rt L h z NA cl s a ds → PV ids rt L h z' NA' cl' s a ds
  | _, _, _, .int k x => .int k x
  | _, _, _, .bool x => .bool x
  | _, _, _, .str x => .str x
  | _, _, _, .nil => .nil
  | _, _, _, .rd t xs a hv => .rd t xs a (hv.mono hm.z)
  | _, _, _, .vw t xs a hv => .vw t xs a hv
  | _, _, _, .rcd k x asl hl hc => .rcd k x asl hl fun o w a h1 h2 => (hc o w a h1 h2).mono hm.z
  | _, _, _, .pr t x a hv => .pr t x a hv
  | _, _, _, .row q a ho hq => .row q a ho (hm.NA q a hq)
  | _, _, _, .cpN q off c a ho hq hv => .cpN q off c a ho (hm.cl q c hq) hv
  | _, _, _, .rowK j i a ho hi hv => .rowK j i a ho hi hv
  | _, _, _, .ep j off d i a ho hi hv => .ep j off d i a ho hi hv
  | _, _, _, .cp j off i a ho hi hv => .cp j off i a ho hi hv
  | _, _, _, .lk a => .lk a
  | _, _, _, .agg l asl ds hc hn => .agg l asl ds (PVs.mono hm hc) hn
  | _, _, _, .tup l asl ds hc hn => .tup l asl ds (PVs.mono hm hc) hn
  | _, _, _, .fn f l asl ds hc hn => .fn f l asl ds (PVs.mono hm hc) hn
  | _, _, _, .nilp => .nilp
  | _, _, _, .nilf => .nilf
  | _, _, _, .und a => .und a
theorem PVs.mono (hm : NLe z z' NA NA' cl cl') : ∀ {l : List SK} {asl : List AV} {ds : List DV}, PVs ids rt L h z NA cl l asl ds → PVs ids rt L h z' NA' cl' l asl ds
  | _, _, _, .nil => .nil
  | _, _, _, .cons s l a asl d ds hv hl => .cons s l a asl d ds (PV.mono hm hv) (PVs.mono hm hl)
end
end
def EntOk (ρ : Roots) (L : Lay) (x : NmR) (a : AV) : Prop := match x with
  | ⟨none, _, _, _⟩ => a = .nils
  | ⟨some r, pc, own, ⟨.list t, ys⟩⟩ => ∃ v w s md, ∃ xs : List t.den, lkp ρ r = some (.row v w s md none t xs) ∧ md.isFz = false ∧ own = md.isOwn ∧ ((pc = false ∧ ys = xs ∧ a = L.A r) ∨ pc = true ∧ ∃ i j ex, slcI xs i j = some ys ∧ a = pieceA (L.A r) i.toNat j.toNat ex)
  | _ => False
structure NmOk (ρ : Roots) (rt : Rt) (L : Lay) (nm : Nm) (NA : List (Nat × AV)) : Prop where
  rows : ∀ q x, lkp nm.rows q = some x → ∃ a, lkp NA q = some a ∧ EntOk ρ L x a
  no : ∀ q, lkp nm.rows q = none → lkp NA q = none
  src : ∀ r, Src.own r ∈ nm.fz → ∃ w s x md t xs, rt r = some (.row w s x md none t xs)
section
variable {B : Bas} {cx : Cx} {st : St} {L : Lay} {Es : List Env} {E : Env} {h : Heap} {n : Nat} {α : Type} {y : α} {ids : Ids}
def PackOut (cx : Cx) (st : St) (L : Lay) (y : α) (nm : Nm) (NA : List (Nat × AV)) (K : List DV → Nm → Option α) (P : List Src → List (Nat × AV) → List (Nat × Nat) → List DV → Prop) : Prop :=
  ∃ ds nm' NA', K ds nm' = some y ∧ NmOk st.roots (rootOf cx st) L nm' NA' ∧ NLe nm.fz nm'.fz NA NA' nm.cells nm'.cells ∧ (∀ q x, lkp nm.rows q = some x → lkp nm'.rows q = some x) ∧ P nm'.fz NA' nm'.cells ds
theorem PackOut.same {nm : Nm} {NA : List (Nat × AV)} {K : List DV → Nm → Option α} {P : List Src → List (Nat × AV) → List (Nat × Nat) → List DV → Prop} {ds : List DV} (hk : K ds nm = some y) (hn : NmOk st.roots (rootOf cx st) L nm NA) (hp : P nm.fz NA nm.cells ds) : PackOut cx st L y nm NA K P :=
  ⟨ds, nm, NA, hk, hn, ⟨fun _ h => h, fun _ _ h => h, fun _ _ h => h⟩, fun _ _ h => h, hp⟩
theorem RowB.one {md : Md} {F : Heap} {t : PT} {xs : List t.den} {A : AV} {I : Ids0} (hb : RowB md F h t xs A I) : A.one = true := by
  rcases hb with ⟨rfl, _⟩ | ⟨rfl, _⟩ | ⟨_, _, _, _, _, _, rfl, _⟩ <;> rfl
theorem tv_lk {ρ : Rt} {mc : Nat} {a : AV} (hv : TV L ρ mc h .lk a) : False := by
  cases hv with
  | pl _ _ hf => cases hf
mutual
theorem pack_ok (H : Gam B cx st L Es E h n) : ∀ (s : SK) {v : SV} {a : AV} {nm : Nm} {NA : List (Nat × AV)} {K : List DV → Nm → Option α}, (v = .lk ∨ TV L (rootOf cx st) st.mc h v a) → NmOk st.roots (rootOf cx st) L nm NA → SK.pack ids cx st s v nm K = some y →
    PackOut cx st L y nm NA K fun z NA cl ds => PV ids (rootOf cx st) L h z NA cl s a ds
  | .int k, v, a, nm, NA, K, hv, hn, hk => by
    cases v with
    | int k' x =>
      obtain ⟨q1, q2⟩ := bif_some hk
      obtain rfl := kindNum_inj (Nat.eq_of_beq_eq_true q1)
      rw [int_inv (hv.resolve_left (by simp))]
      exact .same q2 hn (.int _ _)
    | _ => cases hk
  | .bool, v, a, nm, NA, K, hv, hn, hk => by
    cases v with
    | bool x => rw [bool_inv (hv.resolve_left (by simp))]; exact .same hk hn (.bool _)
    | _ => cases hk
  | .str, v, a, nm, NA, K, hv, hn, hk => by
    cases v with
    | str x => rw [str_inv (hv.resolve_left (by simp))]; exact .same hk hn (.str _)
    | _ => cases hk
  | .nil, v, a, nm, NA, K, hv, hn, hk => by
    cases v with
    | nil => rw [nil_inv (hv.resolve_left (by simp))]; exact .same hk hn .nil
    | _ => cases hk
  | .rd t, v, a, nm, NA, K, hv, hn, hk => by
    have gen : v ≠ .lk → Go.Proofs.Ytcngfjmfgeckmaa.asL cx st v (fun c t' xs => match castL t' t xs, nm with
        | some xs, ⟨n, cl, z⟩ => K [⟨.list t, xs⟩] ⟨n, cl, c :: z⟩
        | none, _ => none) = some y → PackOut cx st L y nm NA K fun z NA cl ds => PV ids (rootOf cx st) L h z NA cl (.rd t) a ds := fun hl hq => by
      obtain ⟨c, t', xs, q1, q2⟩ := H.asL (hv.resolve_left hl) hq
      obtain ⟨rows, cl, z⟩ := nm
      split at q1
      · rename_i xs' rows' cl' z' hc hnm
        cases hnm
        obtain ⟨rfl, rfl⟩ := castL_ok hc
        exact ⟨_, _, NA, q1, ⟨hn.rows, hn.no, fun r hr => by
          rcases List.mem_cons.1 hr with hr | hr
          · subst hr; exact q2.1
          · exact hn.src r hr⟩, ⟨fun _ h => List.mem_cons_of_mem _ h, fun _ _ h => h, fun _ _ h => h⟩, fun _ _ h => h, .rd _ _ _ (.inr ⟨c, by simp, q2⟩)⟩
      · cases q1
    cases v with
    | nil => rw [nil_inv (hv.resolve_left (by simp))]; exact .same hk hn (.rd _ _ _ (.inl (.rdn _ _)))
    | lk => cases hk
    | _ => exact gen (by simp) hk
  | .vw t, v, a, nm, NA, K, hv, hn, hk => by
    have gen : v ≠ .lk → Go.Proofs.Ytcngfjmfgeckmaa.asL cx st v (fun _ t' xs => match castL t' t xs with
        | some xs => K [⟨.list t, xs⟩] nm
        | none => none) = some y → PackOut cx st L y nm NA K fun z NA cl ds => PV ids (rootOf cx st) L h z NA cl (.vw t) a ds := fun hl hq => by
      obtain ⟨c, t', xs, q1, q2⟩ := H.asL (hv.resolve_left hl) hq
      split at q1
      · rename_i xs' hc
        obtain ⟨rfl, rfl⟩ := castL_ok hc
        exact .same q1 hn (.vw _ _ _ (H.readR q2))
      · cases q1
    cases v with
    | nil => rw [nil_inv (hv.resolve_left (by simp))]; exact .same hk hn (.vw _ _ _ (.rdn _ _))
    | lk => cases hk
    | _ => exact gen (by simp) hk
  | .rcd k, v, a, nm, NA, K, hv, hn, hk => by
    cases v with
    | agg cs =>
      obtain ⟨asl, rfl, hc⟩ := agg_inv (hv.resolve_left (by simp))
      obtain ⟨q, ws, q1, q2, q3, q4⟩ := plainK_ok H hc hk
      obtain ⟨rows, cl, z⟩ := nm
      dsimp only at q1
      split at q1
      · rename_i x rows' cl' z' hx hnm
        cases hnm
        have hle := implodeR_le hx
        refine ⟨_, _, NA, q1, ⟨hn.rows, hn.no, fun r hr => by
          rcases List.mem_append.1 hr with hr | hr
          · exact q4 r hr
          · exact hn.src r hr⟩, ⟨fun _ h => List.mem_append_right _ h, fun _ _ h => h, fun _ _ h => h⟩, fun _ _ h => h, .rcd _ _ _ (by rw [hc.len, ← q2, hle.len]) fun o w a h1 h2 => ?_⟩
        obtain ⟨w0, m1, m2⟩ := hle.get o w h1
        rcases q3 o w0 a m1 h2 with ⟨m3, _⟩ | ⟨c, m3, m4⟩
        · exact .inl (m3.le m2)
        · refine .inr ⟨c, List.mem_append_left _ m3, ?_⟩
          cases c with
          | fr => exact Fz.le m2 m4
          | live => exact Fz.le m2 m4
          | own r => exact ⟨m4.1, fun F' f1 f2 => (m4.2 F' f1 f2).le m2⟩
      · cases q1
    | _ => cases hk
  | .pr t, v, a, nm, NA, K, hv, hn, hk => by
    cases v with
    | pr cs off =>
      cases off with
      | succ => cases hk
      | zero =>
        simp only [SK.pack] at hk
        split at hk
        · rename_i x hx
          have hle := implode_le hx
          cases hv.resolve_left (by simp) with
          | pl _ _ hf => cases hf
          | pr _ _ _ hp =>
            obtain ⟨w, s, i, l, e, o0, rfl, h1, h2, h3, h4, h5⟩ := hp
            exact .same hk hn (.pr _ _ _ ⟨w, s, i, l, e, o0, rfl, h1, h2, h3, by rw [hle.len]; exact h4, by rw [hle.len]; exact FzC.le hle h5⟩)
        · cases hk
    | _ => cases hk
  | .row q, v, a, nm, NA, K, hv, hn, hk => by
    obtain ⟨rows, cl, z⟩ := nm
    have add : ∀ {x : NmR}, lkp rows q = none → a.one = true → EntOk st.roots L x a → K [] ⟨(q, x) :: rows, cl, z⟩ = some y → PackOut cx st L y ⟨rows, cl, z⟩ NA K fun z NA cl ds => PV ids (rootOf cx st) L h z NA cl (.row q) a ds := fun {x} h1 h2 h3 h4 => by
      have hno := hn.no q h1
      refine ⟨[], _, (q, a) :: NA, h4, ⟨fun q' x' hq => ?_, fun q' hq => ?_, hn.src⟩, ⟨fun _ h => h, fun q' a' hq => ?_, fun _ _ h => h⟩, fun q' x' hq => ?_, .row _ _ h2 (by rw [lkp_cons, if_pos rfl])⟩
      · simp only at hq
        rw [lkp_cons] at hq
        by_cases hqq : q' = q
        · rw [if_pos hqq] at hq; cases hq
          exact ⟨a, by rw [lkp_cons, if_pos hqq], h3⟩
        · rw [if_neg hqq] at hq
          obtain ⟨a', m1, m2⟩ := hn.rows q' x' hq
          exact ⟨a', by rw [lkp_cons, if_neg hqq]; exact m1, m2⟩
      · simp only at hq
        rw [lkp_cons] at hq ⊢
        by_cases hqq : q' = q
        · rw [if_pos hqq] at hq; cases hq
        · rw [if_neg hqq] at hq ⊢; exact hn.no q' hq
      · rw [lkp_cons]
        by_cases hqq : q' = q
        · subst hqq; rw [hno] at hq; cases hq
        · rw [if_neg hqq]; exact hq
      · simp only
        rw [lkp_cons]
        by_cases hqq : q' = q
        · subst hqq; simp only at hq; rw [h1] at hq; cases hq
        · rw [if_neg hqq]; exact hq
    cases v with
    | nil =>
      have ha := nil_inv (hv.resolve_left (by simp))
      subst ha
      simp only [SK.pack] at hk
      split at hk
      · rename_i hq
        obtain ⟨a', m1, m2⟩ := hn.rows q _ hq
        have m3 : a' = .nils := m2
        subst m3
        exact .same hk hn (.row _ _ rfl m1)
      · cases hk
      · rename_i hq
        exact add (x := ⟨none, false, true, ⟨.bool, false⟩⟩) hq rfl rfl hk
    | row r v =>
      have hT := hv.resolve_left (by simp)
      simp only [SK.pack] at hk
      split at hk
      case h_2 => cases hk
      rename_i v' w s md t xs hlk
      obtain ⟨q1, q2⟩ := bif_some hk
      simp only [Bool.and_eq_true] at q1
      obtain rfl := Nat.eq_of_beq_eq_true q1.1
      have hm : md.isFz = false := by simpa using q1.2
      obtain ⟨env, ρ, nx, mc⟩ := st
      have hr : rootOf cx ⟨env, ρ, nx, mc⟩ r = some (.row v w s md none t xs) := lkp_root hlk
      cases hT with
      | pl _ _ hf => cases hf
      | row _ _ _ hone hv' =>
        have hA := hv' _ _ _ _ _ _ hr
        split at q2
        · rename_i r' o' d' hq
          obtain ⟨q3, q4⟩ := bif_some q2
          obtain rfl := Nat.eq_of_beq_eq_true q3
          obtain ⟨a', m1, m2⟩ := hn.rows q _ hq
          have : a' = L.A r := by
            obtain ⟨t', ys⟩ := d'
            cases t' with
            | list t' =>
              obtain ⟨v2, w2, s2, md2, xs2, n1, n2, n3, n4⟩ := m2
              rcases n4 with ⟨_, _, n5⟩ | ⟨n5, _⟩
              · exact n5
              · cases n5
            | _ => exact m2.elim
          rw [this] at m1
          rw [hA]
          exact .same q4 hn (.row _ _ (hA ▸ hone) m1)
        · cases q2
        · rename_i hq
          exact add (x := ⟨some r, false, md.isOwn, ⟨.list t, xs⟩⟩) hq hone ⟨v, w, s, md, xs, hlk, hm, rfl, .inl ⟨rfl, rfl, hA⟩⟩ q2
    | sub r v s i j ex t ys =>
      have hT := hv.resolve_left (by simp)
      simp only [SK.pack] at hk
      split at hk
      case h_2 => cases hk
      rename_i v' w s' md t2 xs hlk
      obtain ⟨q1, q2⟩ := bif_some hk
      simp only [Bool.and_eq_true] at q1
      obtain rfl := Nat.eq_of_beq_eq_true q1.1.1
      have hss := Nat.eq_of_beq_eq_true q1.1.2
      have hm : md.isFz = false := by simpa using q1.2
      obtain ⟨env, ρ, nx, mc⟩ := st
      have hr : rootOf cx ⟨env, ρ, nx, mc⟩ r = some (.row v w s' md none t2 xs) := lkp_root hlk
      cases hT with
      | pl _ _ hf => cases hf
      | sub _ _ _ _ _ _ _ _ _ hone hv' =>
        obtain ⟨m1, hA, m3⟩ := hv' _ _ _ _ _ _ hr
        obtain ⟨zs, m4, m5⟩ := m3 hss
        cases m5
        split at q2
        · cases q2
        · rename_i hq
          exact add (x := ⟨some r, true, md.isOwn, ⟨.list t, ys⟩⟩) hq hone ⟨v, w, s', md, xs, hlk, hm, rfl, .inr ⟨rfl, i, j, ex, m4, hA⟩⟩ q2
    | _ => cases hk
  | .cpN q off, v, a, nm, NA, K, hv, hn, hk => by
    cases v with
    | cp c off' =>
      obtain ⟨q1, q2⟩ := bif_some hk
      obtain rfl := Nat.eq_of_beq_eq_true q1
      obtain ⟨rows, cl, z⟩ := nm
      cases hv.resolve_left (by simp) with
      | pl _ _ hf => cases hf
      | cp _ _ _ hone hv' =>
        simp only at q2
        split at q2
        · rename_i c' hq
          obtain ⟨q3, q4⟩ := bif_some q2
          obtain rfl := Nat.eq_of_beq_eq_true q3
          exact .same q4 hn (.cpN _ _ _ _ hone hq hv')
        · rename_i hq
          refine ⟨[], _, NA, q2, ⟨hn.rows, hn.no, hn.src⟩, ⟨fun _ h => h, fun _ _ h => h, fun q' c' hq' => ?_⟩, fun _ _ h => h, .cpN _ _ _ _ hone (by rw [lkp_cons, if_pos rfl]) hv'⟩
          rw [lkp_cons]
          by_cases hqq : q' = q
          · subst hqq; simp only at hq'; rw [hq] at hq'; cases hq'
          · rw [if_neg hqq]; exact hq'
    | _ => cases hk
  | .rowK j, v, a, nm, NA, K, hv, hn, hk => by
    cases v with
    | row r' v' =>
      simp only [SK.pack] at hk
      split at hk
      · rename_i i hi
        obtain ⟨q1, q2⟩ := bif_some hk
        simp only [Bool.and_eq_true] at q1
        obtain rfl := Nat.eq_of_beq_eq_true q1.1
        obtain rfl := Nat.eq_of_beq_eq_true q1.2
        cases hv.resolve_left (by simp) with
        | pl _ _ hf => cases hf
        | row _ _ _ hone hv' => exact .same q2 hn (.rowK _ _ _ hone hi hv')
      · cases hk
    | _ => cases hk
  | .ep j off, v, a, nm, NA, K, hv, hn, hk => by
    cases v with
    | ep r' v' u s i off' cs =>
      simp only [SK.pack] at hk
      split at hk
      · rename_i d hd
        obtain ⟨q1, q2⟩ := bif_some hk
        simp only [Bool.and_eq_true] at q1
        obtain rfl := Nat.eq_of_beq_eq_true q1.1.1
        obtain rfl := Nat.eq_of_beq_eq_true q1.1.2
        obtain rfl := Nat.eq_of_beq_eq_true q1.2
        cases hv.resolve_left (by simp) with
        | pl _ _ hf => cases hf
        | ep _ _ _ _ _ _ _ _ hone hv' => exact .same q2 hn (.ep _ _ _ _ _ hone hd fun w s md hl t xs hr => by
            obtain ⟨k1, k2, k3, k4, _⟩ := hv' _ _ _ _ _ _ hr
            exact ⟨k2, k3, k4⟩)
      · cases hk
    | _ => cases hk
  | .cp j off, v, a, nm, NA, K, hv, hn, hk => by
    cases v with
    | cp c' off' =>
      simp only [SK.pack] at hk
      split at hk
      · rename_i i hi
        obtain ⟨q1, q2⟩ := bif_some hk
        simp only [Bool.and_eq_true] at q1
        obtain rfl := Nat.eq_of_beq_eq_true q1.1
        obtain rfl := Nat.eq_of_beq_eq_true q1.2
        cases hv.resolve_left (by simp) with
        | pl _ _ hf => cases hf
        | cp _ _ _ hone hv' => exact .same q2 hn (.cp _ _ _ _ hone hi hv')
      · cases hk
    | _ => cases hk
  | .lk, v, a, nm, NA, K, hv, hn, hk => by
    cases v with
    | lk => exact .same hk hn (.lk a)
    | _ => cases hk
  | .agg l, v, a, nm, NA, K, hv, hn, hk => by
    cases v with
    | agg cs =>
      obtain ⟨asl, rfl, hc⟩ := agg_inv (hv.resolve_left (by simp))
      obtain ⟨ds, nm', NA', q1, q2, q3, q4, q5, q6, _⟩ := packs_ok H l (fun o v a h1 h2 => .inr (hc.getA o v a h1 h2)) hc.len hn hk
      exact ⟨ds, nm', NA', q1, q2, q3, q4, .agg _ _ _ q5 (q6 fun v hv => by
        obtain ⟨o, ho⟩ := List.mem_iff_getElem?.1 hv
        obtain ⟨a, h1, h2⟩ := hc.get o v ho
        rintro rfl
        exact tv_lk h2)⟩
    | _ => cases hk
  | .tup l, v, a, nm, NA, K, hv, hn, hk => by
    cases v with
    | tup cs =>
      obtain ⟨asl, rfl, hc⟩ := tup_inv (hv.resolve_left (by simp))
      obtain ⟨ds, nm', NA', q1, q2, q3, q4, q5, q6, _⟩ := packs_ok H l (fun o v a h1 h2 => .inr (hc.getA o v a h1 h2)) hc.len hn hk
      exact ⟨ds, nm', NA', q1, q2, q3, q4, .tup _ _ _ q5 (q6 fun v hv => by
        obtain ⟨o, ho⟩ := List.mem_iff_getElem?.1 hv
        obtain ⟨a, h1, h2⟩ := hc.get o v ho
        rintro rfl
        exact tv_lk h2)⟩
    | _ => cases hk
  | .fn f l, v, a, nm, NA, K, hv, hn, hk => by
    cases v with
    | fn f' cs =>
      obtain ⟨g1, g2⟩ := bif_some hk
      obtain rfl := Nat.eq_of_beq_eq_true g1
      obtain ⟨asl, rfl, hc⟩ := fn_inv (hv.resolve_left (by simp))
      obtain ⟨ds, nm', NA', q1, q2, q3, q4, q5, q6, _⟩ := packs_ok H l (fun o v a h1 h2 => .inr (hc.getA o v a h1 h2)) hc.len hn g2
      exact ⟨ds, nm', NA', q1, q2, q3, q4, .fn _ _ _ _ q5 (q6 fun v hv => by
        obtain ⟨o, ho⟩ := List.mem_iff_getElem?.1 hv
        obtain ⟨a, h1, h2⟩ := hc.get o v ho
        rintro rfl
        exact tv_lk h2)⟩
    | _ => cases hk
  | .nilp, v, a, nm, NA, K, hv, hn, hk => by
    cases v with
    | nilp =>
      have : a = .nilp := by cases hv.resolve_left (by simp) with | pl _ _ hf => cases hf | nilp => rfl
      subst this
      exact .same hk hn .nilp
    | _ => cases hk
  | .nilf, v, a, nm, NA, K, hv, hn, hk => by
    cases v with
    | nilf =>
      have : a = .nilf := by cases hv.resolve_left (by simp) with | pl _ _ hf => cases hf | nilf => rfl
      subst this
      exact .same hk hn .nilf
    | _ => cases hk
  | .und, v, a, nm, NA, K, hv, hn, hk => by
    have hk' : K [] nm = some y := by cases v <;> exact hk
    exact .same hk' hn (.und a)
theorem packs_ok (H : Gam B cx st L Es E h n) : ∀ (l : List SK) {vs : List SV} {asl : List AV} {nm : Nm} {NA : List (Nat × AV)} {K : List DV → Nm → Option α}, (∀ (o : Nat) (v : SV) (a : AV), vs[o]? = some v → asl[o]? = some a → v = .lk ∨ TV L (rootOf cx st) st.mc h v a) → asl.length = vs.length → NmOk st.roots (rootOf cx st) L nm NA → SK.packs ids cx st l vs nm K = some y →
    PackOut cx st L y nm NA K fun z NA cl ds => PVs ids (rootOf cx st) L h z NA cl l asl ds ∧ ((∀ v, v ∈ vs → v ≠ .lk) → ∀ s, s ∈ l → s ≠ .lk) ∧ l.length = vs.length ∧ ∀ (o : Nat) v, vs[o]? = some v → l[o]? = some .lk → v = .lk
  | [], vs, asl, nm, NA, K, hv, hl, hn, hk => by
    cases vs with
    | nil =>
      have : asl = [] := List.eq_nil_of_length_eq_zero hl
      subst this
      exact .same hk hn ⟨.nil, fun _ s hs => (by cases hs), rfl, fun o v hv => by simp at hv⟩
    | cons => cases hk
  | s :: l, vs, asl, nm, NA, K, hv, hl, hn, hk => by
    cases vs with
    | nil => cases hk
    | cons v vs =>
      cases asl with
      | nil => cases hl
      | cons a asl =>
        obtain ⟨ds, nm1, NA1, q1, q2, q3, q4, q5⟩ := pack_ok H s (hv 0 v a rfl rfl) hn hk
        obtain ⟨es, nm2, NA2, p1, p2, p3, p4, p5, p6, p7, p8⟩ := packs_ok H l (fun o v a h1 h2 => hv (o + 1) v a (by simpa using h1) (by simpa using h2)) (by simpa using hl) q2 q1
        refine ⟨_, nm2, NA2, p1, p2, ⟨fun c hc => p3.z c (q3.z c hc), fun q a hq => p3.NA q a (q3.NA q a hq), fun q c hq => p3.cl q c (q3.cl q c hq)⟩, fun q x hq => p4 q x (q4 q x hq), .cons _ _ _ _ _ _ (q5.mono p3) p5, fun hno t ht => ?_, by simp [p7], fun o w hw hs => ?_⟩
        · rcases List.mem_cons.1 ht with rfl | ht
          · rintro rfl
            have : v = .lk := by cases v <;> first | rfl | cases hk
            exact hno v (by simp) this
          · exact p6 (fun w hw => hno w (by simp [hw])) t ht
        · cases o with
          | zero =>
            simp at hw hs; subst hw; subst hs
            cases v <;> first | rfl | cases hk
          | succ o => exact p8 o w (by simpa using hw) (by simpa using hs)
end
end
end Go.Proofs.Ytcngfjmfgeckmaa
