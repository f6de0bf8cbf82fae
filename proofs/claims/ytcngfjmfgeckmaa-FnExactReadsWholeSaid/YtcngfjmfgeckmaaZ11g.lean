import Derived.Test.YtcngfjmfgeckmaaZ11f
set_option linter.unusedSimpArgs false
set_option linter.unusedVariables false
set_option linter.unusedSectionVars false
namespace Go.Proofs.Ytcngfjmfgeckmaa
open Go
def idxD (ds : List DV) (m : Nat) : Int := match ds[ds.length - 1 - m]? with
  | some ⟨.int _, i⟩ => i
  | _ => 0
structure Lnd (ids : Ids) (rt : Rt) (L : Lay) (h : Heap) (z : List Src) (NA : List (Nat × AV)) (cl : List (Nat × Nat)) (nx mc : Nat) (L3 : Lay) (ρ3 : Rt) (dsT : List DV) (nxF : Nat) : Prop where
  fz : ∀ v a, SrcZ L h rt z v a → Fz L3.F v a
  F : L.F.Sub L3.F
  R : L.R.Sub L3.R
  nm : ∀ q a, lkp NA q = some a → ∀ v w s md hl t xs, ρ3 (nx + 1 + q) = some (.row v w s md hl t xs) → a = L3.A (nx + 1 + q)
  cl : ∀ q c, lkp cl q = some c → ∀ cs3, ρ3 (nx + 1 + q) = some (.cell cs3) → ∃ cs, rt c = some (.cell cs) ∧ cs3.length = cs.length ∧ L3.C (nx + 1 + q) = L.C c
  row : ∀ j i, nthI ids j = some i → ∀ w s md hl t xs, ρ3 i.r = some (.row i.v w s md hl t xs) → ∃ w2 s2 md2 hl2 xs2, rt i.r = some (.row i.v w2 s2 md2 hl2 t xs2) ∧ L3.A i.r = L.A i.r ∧ xs.length = xs2.length ∧ s ≠ nx
  cell : ∀ j i, nthI ids j = some i → ∀ cs, ρ3 i.r = some (.cell cs) → ∃ cs2, rt i.r = some (.cell cs2) ∧ cs.length = cs2.length ∧ L3.C i.r = L.C i.r
  U : ∀ m, m < dsT.length → L3.U (nx + 1 + m) = idxD dsT m
  low : ∀ j i, nthI ids j = some i → i.r < nx ∧ i.v < nx
  mcF : mc < nxF
section
variable {ids : Ids} {rt : Rt} {L : Lay} {h : Heap} {z : List Src} {NA : List (Nat × AV)} {cl : List (Nat × Nat)} {nx mc : Nat} {L3 : Lay} {ρ3 : Rt} {dsT : List DV} {nxF : Nat} {α : Type} {y : α}
theorem idxD_at {pre rest : List DV} {i : Int} {k : IntKind} : idxD (pre ++ ⟨.int k, i⟩ :: rest) rest.length = i := by
  unfold idxD
  have : (pre ++ (⟨.int k, i⟩ : DV) :: rest)[(pre ++ (⟨.int k, i⟩ : DV) :: rest).length - 1 - rest.length]? = some ⟨.int k, i⟩ := by
    have e : (pre ++ (⟨.int k, i⟩ : DV) :: rest).length - 1 - rest.length = pre.length := by rw [List.length_append, List.length_cons]; omega
    rw [e, List.getElem?_append_right (Nat.le_refl _), Nat.sub_self]
    rfl
  rw [this]
mutual
theorem unpack_ok (D : Lnd ids rt L h z NA cl nx mc L3 ρ3 dsT nxF) : ∀ {s : SK} {a : AV} {ds : List DV}, PV ids rt L h z NA cl s a ds → ∀ {pre rest : List DV} {K : SV → List DV → Option α}, dsT = pre ++ (ds ++ rest) → nx + 1 + dsT.length + s.sm < nxF → SK.unpack ids nx mc s (ds ++ rest) K = some y →
    ∃ v3, K v3 rest = some y ∧ ((s = .lk ∧ v3 = .lk) ∨ TV L3 ρ3 mc h v3 a) ∧ v3.lowN nxF = true
  | _, _, _, .int k x, pre, rest, K, hd, hs, hk => ⟨_, hk, .inr (TV.int _ _), rfl⟩
  | _, _, _, .bool x, pre, rest, K, hd, hs, hk => ⟨_, hk, .inr (TV.bool _), rfl⟩
  | _, _, _, .str x, pre, rest, K, hd, hs, hk => ⟨_, hk, .inr (TV.str _), rfl⟩
  | _, _, _, .nil, pre, rest, K, hd, hs, hk => ⟨_, hk, .inr (.pl _ _ .nil), rfl⟩
  | _, _, _, .rd t xs a hv, pre, rest, K, hd, hs, hk => ⟨_, hk, .inr (.pl _ _ (D.fz _ _ hv)), rfl⟩
  | _, _, _, .vw t xs a hv, pre, rest, K, hd, hs, hk => ⟨_, hk, .inr (.vw _ _ _ _ _ hv.one fun _ => hv.mono D.R), by simp only [SV.lowN, Nat.blt_eq]; exact D.mcF⟩
  | _, _, _, .rcd k x asl hl hc, pre, rest, K, hd, hs, hk => ⟨_, hk, .inr (.agg _ _ (TVs.of hl fun o w a h1 h2 => .pl _ _ (D.fz _ _ (hc o w a h1 h2)))), by
      show SV.lowNs nxF (explodeR k x) = true
      exact explode_low (.rcd k) x nxF⟩
  | _, _, _, .pr t x a hv, pre, rest, K, hd, hs, hk => ⟨_, hk, .inr (.pr _ _ _ (hv.mono D.F)), explode_low t x nxF⟩
  | _, _, _, .row q a ho hq, pre, rest, K, hd, hs, hk => ⟨_, hk, .inr (.row _ _ _ ho fun w s md hl t xs hr => D.nm q a hq _ _ _ _ _ _ _ hr), by
      simp only [SK.sm] at hs
      simp only [SV.lowN, Bool.and_eq_true, Nat.blt_eq]
      omega⟩
  | _, _, _, .cpN q off c a ho hq hv, pre, rest, K, hd, hs, hk => ⟨_, hk, .inr (.cp _ _ _ ho fun cs3 hr => by
      obtain ⟨cs, k1, k2, k3⟩ := D.cl q c hq cs3 hr
      rw [k2, k3]; exact hv cs k1), by
      simp only [SK.sm] at hs
      simp only [SV.lowN, Nat.blt_eq]
      omega⟩
  | _, _, _, .rowK j i a ho hi hv, pre, rest, K, hd, hs, hk => by
    simp only [List.nil_append, SK.unpack, hi] at hk
    refine ⟨_, hk, .inr (.row _ _ _ ho fun w s md hl t xs hr => ?_), ?_⟩
    · obtain ⟨w2, s2, md2, hl2, xs2, k1, k2, _⟩ := D.row j i hi _ _ _ _ _ _ hr
      rw [k2]; exact hv _ _ _ _ _ _ k1
    · have := D.low j i hi
      simp only [SV.lowN, Bool.and_eq_true, Nat.blt_eq]; omega
  | _, _, _, .ep j off d i a ho hi hv, pre, rest, K, hd, hs, hk => by
    simp only [List.cons_append, List.nil_append, SK.unpack, hi] at hk
    have hlen : rest.length < dsT.length := by rw [hd]; simp; omega
    refine ⟨_, hk, .inr (.ep _ _ _ _ _ _ _ _ ho fun w s md hl t xs hr => ?_), ?_⟩
    · obtain ⟨w2, s2, md2, hl2, xs2, k1, k2, k3, k4⟩ := D.row j d hi _ _ _ _ _ _ hr
      obtain ⟨m1, m2, m3⟩ := hv _ _ _ _ _ _ k1
      refine ⟨?_, m1, by rw [k3]; exact m2, by rw [k2]; exact m3, fun hq => absurd hq.symm k4⟩
      rw [D.U _ hlen, hd]
      exact idxD_at
    · have := D.low j d hi
      simp only [SV.lowN, SV.lowNs, Bool.and_eq_true, Nat.blt_eq]
      exact ⟨by omega, trivial⟩
  | _, _, _, .cp j off i a ho hi hv, pre, rest, K, hd, hs, hk => by
    simp only [List.nil_append, SK.unpack, hi] at hk
    refine ⟨_, hk, .inr (.cp _ _ _ ho fun cs hr => ?_), ?_⟩
    · obtain ⟨cs2, k1, k2, k3⟩ := D.cell j i hi cs hr
      rw [k2, k3]; exact hv _ k1
    · have := D.low j i hi
      simp only [SV.lowN, Nat.blt_eq]; omega
  | _, _, _, .lk a, pre, rest, K, hd, hs, hk => ⟨_, hk, .inl ⟨rfl, rfl⟩, rfl⟩
  | _, _, _, .agg l asl ds hc hn, pre, rest, K, hd, hs, hk => by
    obtain ⟨vs, q1, q2, q3, q4⟩ := unpacks_ok D hc hd (by simpa [SK.sm] using hs) hk
    refine ⟨_, q1, .inr (.agg _ _ (TVs.of q2.1 fun o v a h1 h2 => ?_)), q4⟩
    have ho : o < l.length := by rw [← q2.2]; exact (List.getElem?_eq_some_iff.1 h2).1
    exact (q3 o l[o] v a (List.getElem?_eq_getElem ho) h1 h2).resolve_left fun hq => hn _ (List.getElem_mem ho) hq.1
  | _, _, _, .tup l asl ds hc hn, pre, rest, K, hd, hs, hk => by
    obtain ⟨vs, q1, q2, q3, q4⟩ := unpacks_ok D hc hd (by simpa [SK.sm] using hs) hk
    refine ⟨_, q1, .inr (.tup _ _ (TVs.of q2.1 fun o v a h1 h2 => ?_)), q4⟩
    have ho : o < l.length := by rw [← q2.2]; exact (List.getElem?_eq_some_iff.1 h2).1
    exact (q3 o l[o] v a (List.getElem?_eq_getElem ho) h1 h2).resolve_left fun hq => hn _ (List.getElem_mem ho) hq.1
  | _, _, _, .fn f l asl ds hc hn, pre, rest, K, hd, hs, hk => by
    obtain ⟨vs, q1, q2, q3, q4⟩ := unpacks_ok D hc hd (by simpa [SK.sm] using hs) hk
    refine ⟨_, q1, .inr (.fn _ _ _ (TVs.of q2.1 fun o v a h1 h2 => ?_)), q4⟩
    have ho : o < l.length := by rw [← q2.2]; exact (List.getElem?_eq_some_iff.1 h2).1
    exact (q3 o l[o] v a (List.getElem?_eq_getElem ho) h1 h2).resolve_left fun hq => hn _ (List.getElem_mem ho) hq.1
  | _, _, _, .nilp, pre, rest, K, hd, hs, hk => ⟨_, hk, .inr .nilp, rfl⟩
  | _, _, _, .nilf, pre, rest, K, hd, hs, hk => ⟨_, hk, .inr .nilf, rfl⟩
  | _, _, _, .und a, pre, rest, K, hd, hs, hk => ⟨_, hk, .inr (.undef a), rfl⟩
theorem unpacks_ok (D : Lnd ids rt L h z NA cl nx mc L3 ρ3 dsT nxF) : ∀ {l : List SK} {asl : List AV} {ds : List DV}, PVs ids rt L h z NA cl l asl ds → ∀ {pre rest : List DV} {K : List SV → List DV → Option α}, dsT = pre ++ (ds ++ rest) → nx + 1 + dsT.length + SK.sms l < nxF → SK.unpacks ids nx mc l (ds ++ rest) K = some y →
    ∃ vs, K vs rest = some y ∧ (asl.length = vs.length ∧ asl.length = l.length) ∧ (∀ (o : Nat) (s : SK) (v : SV) (a : AV), l[o]? = some s → vs[o]? = some v → asl[o]? = some a → (s = .lk ∧ v = .lk) ∨ TV L3 ρ3 mc h v a) ∧ SV.lowNs nxF vs = true
  | _, _, _, .nil, pre, rest, K, hd, hs, hk => ⟨[], hk, ⟨rfl, rfl⟩, fun o s v a h1 => by simp at h1, rfl⟩
  | _, _, _, .cons s l a asl d ds hv hl, pre, rest, K, hd, hs, hk => by
    simp only [SK.sms] at hs
    have hk' : SK.unpack ids nx mc s (d ++ (ds ++ rest)) (fun v ds => SK.unpacks ids nx mc l ds fun vs ds => K (v :: vs) ds) = some y := by rw [← List.append_assoc]; exact hk
    obtain ⟨v, q1, q2, q3⟩ := unpack_ok D hv (pre := pre) (rest := ds ++ rest) (by rw [hd, List.append_assoc]) (by omega) hk'
    obtain ⟨vs, p1, p2, p3, p4⟩ := unpacks_ok D hl (pre := pre ++ d) (rest := rest) (by rw [hd]; simp) (by omega) q1
    refine ⟨v :: vs, p1, ⟨by simp [p2.1], by simp [p2.2]⟩, fun o s' v' a' h1 h2 h3 => ?_, by simp [SV.lowNs, q3, p4]⟩
    cases o with
    | zero => simp at h1 h2 h3; subst h1; subst h2; subst h3; exact q2
    | succ o => exact p3 o s' v' a' (by simpa using h1) (by simpa using h2) (by simpa using h3)
end
mutual
theorem unpack_nat {ids : Ids} {nx mc : Nat} {α : Type} {y : α} : ∀ (s : SK) {ds : List DV} {K : SV → List DV → Option α}, SK.unpack ids nx mc s ds K = some y → ∃ v r, SK.unpack ids nx mc s ds (fun a b => some (a, b)) = some (v, r) ∧ K v r = some y
  | .int k, ds, K, hk => by
    cases ds with
    | nil => cases hk
    | cons d ds => obtain ⟨t, x⟩ := d; cases t <;> first | exact ⟨_, _, rfl, hk⟩ | cases hk
  | .bool, ds, K, hk => by
    cases ds with
    | nil => cases hk
    | cons d ds => obtain ⟨t, x⟩ := d; cases t <;> first | exact ⟨_, _, rfl, hk⟩ | cases hk
  | .str, ds, K, hk => by
    cases ds with
    | nil => cases hk
    | cons d ds => obtain ⟨t, x⟩ := d; cases t <;> first | exact ⟨_, _, rfl, hk⟩ | cases hk
  | .nil, ds, K, hk => ⟨_, _, rfl, hk⟩
  | .rd t, ds, K, hk => by
    cases ds with
    | nil => cases hk
    | cons d ds => obtain ⟨t, x⟩ := d; cases t <;> first | exact ⟨_, _, rfl, hk⟩ | cases hk
  | .vw t, ds, K, hk => by
    cases ds with
    | nil => cases hk
    | cons d ds => obtain ⟨t, x⟩ := d; cases t <;> first | exact ⟨_, _, rfl, hk⟩ | cases hk
  | .rcd k, ds, K, hk => by
    cases ds with
    | nil => cases hk
    | cons d ds => obtain ⟨t, x⟩ := d; cases t <;> first | exact ⟨_, _, rfl, hk⟩ | cases hk
  | .pr t, ds, K, hk => by
    cases ds with
    | nil => cases hk
    | cons d ds => obtain ⟨t, x⟩ := d; exact ⟨_, _, rfl, hk⟩
  | .row q, ds, K, hk => ⟨_, _, rfl, hk⟩
  | .cpN q off, ds, K, hk => ⟨_, _, rfl, hk⟩
  | .rowK j, ds, K, hk => by
    simp only [SK.unpack] at hk ⊢
    split at hk
    · exact ⟨_, _, rfl, hk⟩
    · cases hk
  | .ep j off, ds, K, hk => by
    cases ds with
    | nil => cases hk
    | cons d ds =>
      obtain ⟨t, x⟩ := d
      cases t with
      | int k =>
        simp only [SK.unpack] at hk ⊢
        split at hk
        · exact ⟨_, _, rfl, hk⟩
        · cases hk
      | _ => cases hk
  | .cp j off, ds, K, hk => by
    simp only [SK.unpack] at hk ⊢
    split at hk
    · exact ⟨_, _, rfl, hk⟩
    · cases hk
  | .lk, ds, K, hk => ⟨_, _, rfl, hk⟩
  | .agg l, ds, K, hk => by
    obtain ⟨v, r, h1, h2⟩ := unpacks_nat l hk
    exact ⟨_, _, by have := unpacks_K l h1 (fun cs ds => some (SV.agg cs, ds)); exact this, h2⟩
  | .tup l, ds, K, hk => by
    obtain ⟨v, r, h1, h2⟩ := unpacks_nat l hk
    exact ⟨_, _, by have := unpacks_K l h1 (fun cs ds => some (SV.tup cs, ds)); exact this, h2⟩
  | .fn f l, ds, K, hk => by
    obtain ⟨v, r, h1, h2⟩ := unpacks_nat l hk
    exact ⟨_, _, by have := unpacks_K l h1 (fun cs ds => some (SV.fn f cs, ds)); exact this, h2⟩
  | .nilp, ds, K, hk => ⟨_, _, rfl, hk⟩
  | .nilf, ds, K, hk => ⟨_, _, rfl, hk⟩
  | .und, ds, K, hk => ⟨_, _, rfl, hk⟩
theorem unpacks_nat {ids : Ids} {nx mc : Nat} {α : Type} {y : α} : ∀ (l : List SK) {ds : List DV} {K : List SV → List DV → Option α}, SK.unpacks ids nx mc l ds K = some y → ∃ v r, SK.unpacks ids nx mc l ds (fun a b => some (a, b)) = some (v, r) ∧ K v r = some y
  | [], ds, K, hk => ⟨_, _, rfl, hk⟩
  | s :: l, ds, K, hk => by
    obtain ⟨v, r, h1, h2⟩ := unpack_nat s hk
    obtain ⟨vs, r2, h3, h4⟩ := unpacks_nat l h2
    refine ⟨v :: vs, r2, ?_, h4⟩
    show SK.unpack ids nx mc s ds (fun v ds => SK.unpacks ids nx mc l ds fun vs ds => some (v :: vs, ds)) = _
    rw [unpack_K s h1]
    exact unpacks_K l h3 _
theorem unpack_K {ids : Ids} {nx mc : Nat} {α : Type} : ∀ (s : SK) {ds r : List DV} {v : SV}, SK.unpack ids nx mc s ds (fun a b => some (a, b)) = some (v, r) → ∀ (K : SV → List DV → Option α), SK.unpack ids nx mc s ds K = K v r
  | .int k, ds, r, v, hk, K => by
    cases ds with
    | nil => cases hk
    | cons d ds => obtain ⟨t, x⟩ := d; cases t <;> cases hk <;> rfl
  | .bool, ds, r, v, hk, K => by
    cases ds with
    | nil => cases hk
    | cons d ds => obtain ⟨t, x⟩ := d; cases t <;> cases hk <;> rfl
  | .str, ds, r, v, hk, K => by
    cases ds with
    | nil => cases hk
    | cons d ds => obtain ⟨t, x⟩ := d; cases t <;> cases hk <;> rfl
  | .nil, ds, r, v, hk, K => by cases hk; rfl
  | .rd t, ds, r, v, hk, K => by
    cases ds with
    | nil => cases hk
    | cons d ds => obtain ⟨t, x⟩ := d; cases t <;> cases hk <;> rfl
  | .vw t, ds, r, v, hk, K => by
    cases ds with
    | nil => cases hk
    | cons d ds => obtain ⟨t, x⟩ := d; cases t <;> cases hk <;> rfl
  | .rcd k, ds, r, v, hk, K => by
    cases ds with
    | nil => cases hk
    | cons d ds => obtain ⟨t, x⟩ := d; cases t <;> cases hk <;> rfl
  | .pr t, ds, r, v, hk, K => by
    cases ds with
    | nil => cases hk
    | cons d ds => obtain ⟨t, x⟩ := d; cases hk; rfl
  | .row q, ds, r, v, hk, K => by cases hk; rfl
  | .cpN q off, ds, r, v, hk, K => by cases hk; rfl
  | .rowK j, ds, r, v, hk, K => by
    simp only [SK.unpack] at hk ⊢
    split at hk
    · cases hk; rfl
    · cases hk
  | .ep j off, ds, r, v, hk, K => by
    cases ds with
    | nil => cases hk
    | cons d ds =>
      obtain ⟨t, x⟩ := d
      cases t with
      | int k =>
        simp only [SK.unpack] at hk ⊢
        split at hk
        · cases hk; rfl
        · cases hk
      | _ => cases hk
  | .cp j off, ds, r, v, hk, K => by
    simp only [SK.unpack] at hk ⊢
    split at hk
    · cases hk; rfl
    · cases hk
  | .lk, ds, r, v, hk, K => by cases hk; rfl
  | .agg l, ds, r, v, hk, K => by
    obtain ⟨vs, r', h1, h2⟩ := unpacks_nat l hk
    cases h2
    exact unpacks_K l h1 _
  | .tup l, ds, r, v, hk, K => by
    obtain ⟨vs, r', h1, h2⟩ := unpacks_nat l hk
    cases h2
    exact unpacks_K l h1 _
  | .fn f l, ds, r, v, hk, K => by
    obtain ⟨vs, r', h1, h2⟩ := unpacks_nat l hk
    cases h2
    exact unpacks_K l h1 _
  | .nilp, ds, r, v, hk, K => by cases hk; rfl
  | .nilf, ds, r, v, hk, K => by cases hk; rfl
  | .und, ds, r, v, hk, K => by cases hk; rfl
theorem unpacks_K {ids : Ids} {nx mc : Nat} {α : Type} : ∀ (l : List SK) {ds r : List DV} {v : List SV}, SK.unpacks ids nx mc l ds (fun a b => some (a, b)) = some (v, r) → ∀ (K : List SV → List DV → Option α), SK.unpacks ids nx mc l ds K = K v r
  | [], ds, r, v, hk, K => by cases hk; rfl
  | s :: l, ds, r, v, hk, K => by
    obtain ⟨v1, r1, h1, h2⟩ := unpack_nat s hk
    obtain ⟨vs, r2, h3, h4⟩ := unpacks_nat l h2
    cases h4
    show SK.unpack ids nx mc s ds (fun v ds => SK.unpacks ids nx mc l ds fun vs ds => K (v :: vs) ds) = _
    rw [unpack_K s h1]
    exact unpacks_K l h3 _
end
end
end Go.Proofs.Ytcngfjmfgeckmaa
namespace Go.Proofs.Ytcngfjmfgeckmaa
open Go
section
variable {B : Bas} {cx : Cx} {st : St} {L : Lay} {Es : List Env} {E : Env} {h : Heap} {n : Nat} {α : Type} {y : α} {ids : Ids}
theorem packE_ok (H : Gam B cx st L Es E h n) : ∀ (l : List (Nat × SK)) {nm : Nm} {NA : List (Nat × AV)} {K : List DV → Nm → Option α}, NmOk st.roots (rootOf cx st) L nm NA → packE ids cx st l nm K = some y →
    PackOut cx st L y nm NA K fun z NA cl ds => PVs ids (rootOf cx st) L h z NA cl (l.map Prod.snd) (l.map fun p => E p.1) ds ∧ ∀ p, p ∈ l → p.2 ≠ .lk
  | [], nm, NA, K, hn, hk => .same hk hn ⟨.nil, fun p hp => by cases hp⟩
  | (t, s) :: l, nm, NA, K, hn, hk => by
    have hT := (H.getT t).1
    have hl : s ≠ .lk := fun hs => by
      subst hs
      have hk' : SK.pack ids cx st .lk (getT cx st t) nm (fun ds nm => packE ids cx st l nm fun es nm => K (ds ++ es) nm) = some y := hk
      generalize getT cx st t = v at hk' hT
      cases v with
      | lk => exact tv_lk hT
      | _ => cases hk'
    obtain ⟨ds, nm1, NA1, q1, q2, q3, q4, q5⟩ := pack_ok (ids := ids) H s (.inr hT) hn hk
    obtain ⟨es, nm2, NA2, p1, p2, p3, p4, p5, p6⟩ := packE_ok H l q2 q1
    refine ⟨_, nm2, NA2, p1, p2, ⟨fun c hc => p3.z c (q3.z c hc), fun q a hq => p3.NA q a (q3.NA q a hq), fun q c hq => p3.cl q c (q3.cl q c hq)⟩, fun q x hq => p4 q x (q4 q x hq), .cons _ _ _ _ _ _ (q5.mono p3) p5, fun p hp => ?_⟩
    rcases List.mem_cons.1 hp with rfl | hp
    · exact hl
    · exact p6 p hp
def RowNm (rows : List (Nat × NmR)) (q : Nat) (own : Bool) (t : PT) (xs : List t.den) : Prop :=
  (∃ pc o d, lkp rows q = some ⟨none, pc, o, d⟩ ∧ xs = []) ∨ ∃ r pc own', lkp rows q = some ⟨some r, pc, own', ⟨.list t, xs⟩⟩ ∧ (own = true → own' = true)
inductive PR (ids : Ids) (rt : Rt) (L : Lay) (h : Heap) (ρ : Roots) (z : List Src) (NA : List (Nat × AV)) (cl : List (Nat × Nat)) (rows : List (Nat × NmR)) : List RS → List DV → Prop
  | nil : PR ids rt L h ρ z NA cl rows [] []
  | cell (j : Nat) (l : List SK) (r : List RS) (i : Idn) (cs : List SV) (e : AV) (ds es : List DV) (hi : nthI ids j = some i) (hk : lkp ρ i.r = some (.cell cs)) (hro : (modeOf ids i.r).isRo = false) (he : h (L.C i.r) = some [e]) (hc : PVs ids rt L h z NA cl l e.cells ds) (hl : l.length = cs.length)
      (hlk : ∀ (o : Nat) v, cs[o]? = some v → l[o]? = some .lk → v = .lk) (hr : PR ids rt L h ρ z NA cl rows r es) : PR ids rt L h ρ z NA cl rows (.cell j l :: r) (ds ++ es)
  | cellN (q : Nat) (l : List SK) (r : List RS) (c : Nat) (cs : List SV) (e : AV) (ds es : List DV) (hq : lkp cl q = some c) (hk : lkp ρ c = some (.cell cs)) (he : h (L.C c) = some [e]) (hc : PVs ids rt L h z NA cl l e.cells ds) (hl : l.length = cs.length)
      (hlk : ∀ (o : Nat), l[o]? ≠ some .lk) (hr : PR ids rt L h ρ z NA cl rows r es) : PR ids rt L h ρ z NA cl rows (.cellN q l :: r) (ds ++ es)
  | row (q : Nat) (own : Bool) (t : PT) (xs : List t.den) (r : List RS) (es : List DV) (hx : RowNm rows q own t xs) (hr : PR ids rt L h ρ z NA cl rows r es) : PR ids rt L h ρ z NA cl rows (.row q own t :: r) (⟨.list t, xs⟩ :: es)
  | rowK (j : Nat) (kw : Bool) (i : Idn) (w s : Nat) (md : Md) (xs : List i.t.den) (r : List RS) (es : List DV) (hi : nthI ids j = some i) (hk : lkp ρ i.r = some (.row i.v w s md none i.t xs)) (hm : mdLe i.md md = true) (hw : kw = true → i.w = w) (hro : (modeOf ids i.r).isRo = false)
      (hr : PR ids rt L h ρ z NA cl rows r es) : PR ids rt L h ρ z NA cl rows (.rowK j kw :: r) (⟨.list i.t, xs⟩ :: es)
theorem PR.mono {rt : Rt} {ρ : Roots} {z z' : List Src} {NA NA' : List (Nat × AV)} {cl cl' : List (Nat × Nat)} {rows rows' : List (Nat × NmR)} (hm : NLe z z' NA NA' cl cl') (hr : ∀ q x, lkp rows q = some x → lkp rows' q = some x) {rs : List RS} {ds : List DV} (hp : PR ids rt L h ρ z NA cl rows rs ds) : PR ids rt L h ρ z' NA' cl' rows' rs ds := by
  induction hp with
  | nil => exact .nil
  | cell j l r i cs e ds es hi hk hro he hc hl hlk _ ih => exact .cell j l r i cs e ds es hi hk hro he (hc.mono hm) hl hlk ih
  | cellN q l r c cs e ds es hq hk he hc hl hlk _ ih => exact .cellN q l r c cs e ds es (hm.cl q c hq) hk he (hc.mono hm) hl hlk ih
  | row q own t xs r es hx _ ih => exact .row q own t xs r es (hx.imp (fun ⟨pc, o, d, h1, h2⟩ => ⟨pc, o, d, hr _ _ h1, h2⟩) fun ⟨r, pc, o, h1, h2⟩ => ⟨r, pc, o, hr _ _ h1, h2⟩) ih
  | rowK j kw i w s md xs r es hi hk hmd hw hro _ ih => exact .rowK j kw i w s md xs r es hi hk hmd hw hro ih
theorem cells_raw {cx : Cx} {c : Nat} {cs : List SV} {o : Nat} {v : SV} (hl : ∀ cs0, lkp cx.roots0 c = some (.cell cs0) → cs.length = cs0.length) (hv : cs[o]? = some v) : v = .lk ∨ (cellsOf cx c cs)[o]? = some v := by
  unfold cellsOf
  cases hz : lkp cx.roots0 c with
  | none => exact .inr hv
  | some ρ0 =>
    cases ρ0 with
    | row => exact .inr hv
    | cell cs0 =>
      show _ ∨ (ovl cs cs0)[o]? = _
      rw [ovl_get _ _ (hl cs0 hz), hv]
      cases v <;> first | exact .inl rfl | exact .inr rfl
theorem noLk_get : ∀ {l : List SK}, noLk l = true → ∀ o : Nat, l[o]? ≠ some .lk
  | [], _, o, h => by simp at h
  | s :: l, hn, 0, h => by simp at h; subst h; cases hn
  | s :: l, hn, o + 1, h => noLk_get (l := l) (by cases s <;> first | exact hn | cases hn) o (by simpa using h)
theorem packR_ok (H : Gam B cx st L Es E h n) : ∀ (rs : List RS) {nm : Nm} {NA : List (Nat × AV)} {K : List DV → Nm → Option α}, NmOk st.roots (rootOf cx st) L nm NA → packR ids cx st rs nm K = some y →
    ∃ ds nm' NA', K ds nm' = some y ∧ NmOk st.roots (rootOf cx st) L nm' NA' ∧ NLe nm.fz nm'.fz NA NA' nm.cells nm'.cells ∧ (∀ q x, lkp nm.rows q = some x → lkp nm'.rows q = some x) ∧ PR ids (rootOf cx st) L h st.roots nm'.fz NA' nm'.cells nm'.rows rs ds
  | [], nm, NA, K, hn, hk => ⟨[], nm, NA, hk, hn, ⟨fun _ h => h, fun _ _ h => h, fun _ _ h => h⟩, fun _ _ h => h, .nil⟩
  | .cell j l :: r, nm, NA, K, hn, hk => by
    simp only [packR] at hk
    split at hk
    case h_2 => cases hk
    rename_i i hi
    split at hk
    case h_2 => cases hk
    rename_i cs hcs
    cases hro : (modeOf ids i.r).isRo with
    | true => rw [hro] at hk; cases hk
    | false =>
      rw [hro] at hk
      obtain ⟨e, e1, e2, e3, e4, e5, e6⟩ := H.th _ _ (rootOf_cell (cx := cx) hcs)
      have hl0 : ∀ cs0, lkp cx.roots0 i.r = some (.cell cs0) → cs.length = cs0.length := fun cs0 hz => by
        obtain ⟨c1, c2, k1, k2, k3⟩ := H.lkc _ _ _ hcs hz
        cases k1; cases k2; exact k3
      obtain ⟨ds, nm1, NA1, q1, q2, q3, q4, q5, _, q7, q8⟩ := packs_ok (ids := ids) H l (vs := cs) (asl := e.cells) (fun o v a h1 h2 => (cells_raw (cx := cx) hl0 h1).imp id fun h3 => e5.getA o v a h3 h2) (by rw [e5.len, cells_len H hcs rfl]) hn hk
      obtain ⟨es, nm2, NA2, p1, p2, p3, p4, p5⟩ := packR_ok H r q2 q1
      exact ⟨_, nm2, NA2, p1, p2, ⟨fun c hc => p3.z c (q3.z c hc), fun q a hq => p3.NA q a (q3.NA q a hq), fun q c hq => p3.cl q c (q3.cl q c hq)⟩, fun q x hq => p4 q x (q4 q x hq), .cell j l r i cs e ds es hi hcs hro e1 (q5.mono p3) q7 q8 p5⟩
  | .cellN q l :: r, nm, NA, K, hn, hk => by
    simp only [packR] at hk
    split at hk
    case h_2 => cases hk
    rename_i c hc
    split at hk
    case h_2 => cases hk
    rename_i cs hcs
    cases hnl : noLk l with
    | false => rw [hnl] at hk; cases hk
    | true =>
    rw [hnl] at hk
    obtain ⟨e, e1, e2, e3, e4, e5, e6⟩ := H.th _ _ (rootOf_cell (cx := cx) hcs)
    have hl0 : ∀ cs0, lkp cx.roots0 c = some (.cell cs0) → cs.length = cs0.length := fun cs0 hz => by
      obtain ⟨c1, c2, k1, k2, k3⟩ := H.lkc _ _ _ hcs hz
      cases k1; cases k2; exact k3
    obtain ⟨ds, nm1, NA1, q1, q2, q3, q4, q5, _, q7, q8⟩ := packs_ok (ids := ids) H l (vs := cs) (asl := e.cells) (fun o v a h1 h2 => (cells_raw (cx := cx) hl0 h1).imp id fun h3 => e5.getA o v a h3 h2) (by rw [e5.len, cells_len H hcs rfl]) hn hk
    obtain ⟨es, nm2, NA2, p1, p2, p3, p4, p5⟩ := packR_ok H r q2 q1
    exact ⟨_, nm2, NA2, p1, p2, ⟨fun c hc => p3.z c (q3.z c hc), fun q a hq => p3.NA q a (q3.NA q a hq), fun q c hq => p3.cl q c (q3.cl q c hq)⟩, fun q x hq => p4 q x (q4 q x hq), .cellN q l r c cs e ds es (p3.cl q c (q3.cl q c hc)) hcs e1 (q5.mono p3) q7 (noLk_get hnl) p5⟩
  | .row q own t :: r, nm, NA, K, hn, hk => by
    simp only [packR] at hk
    split at hk
    · cases hk
    · rename_i pc o d hq
      obtain ⟨es, nm2, NA2, p1, p2, p3, p4, p5⟩ := packR_ok H r hn hk
      exact ⟨_, nm2, NA2, p1, p2, p3, p4, .row q own t [] r es (.inl ⟨pc, o, d, p4 _ _ hq, rfl⟩) p5⟩
    · rename_i r' pc own' t' xs hq
      split at hk
      · rename_i xs' hc
        obtain ⟨rfl, rfl⟩ := castL_ok hc
        obtain ⟨g1, g2⟩ := bif_some hk
        obtain ⟨es, nm2, NA2, p1, p2, p3, p4, p5⟩ := packR_ok H r hn g2
        exact ⟨_, nm2, NA2, p1, p2, p3, p4, .row q own _ _ r es (.inr ⟨r', pc, own', p4 _ _ hq, fun ho => by subst ho; exact g1⟩) p5⟩
      · cases hk
    · cases hk
  | .rowK j kw :: r, nm, NA, K, hn, hk => by
    simp only [packR] at hk
    split at hk
    case h_2 => cases hk
    rename_i i hi
    split at hk
    case h_2 => cases hk
    rename_i v' w' s' md' t' xs hlk
    split at hk
    case h_2 => cases hk
    rename_i xs' hc
    have hc' := castL_den hc
    obtain ⟨g1, g2⟩ := bif_some hk
    simp only [Bool.and_eq_true] at g1
    obtain rfl := Nat.eq_of_beq_eq_true g1.1.1.1
    obtain ⟨es, nm2, NA2, p1, p2, p3, p4, p5⟩ := packR_ok H r hn g2
    have hlk' : lkp st.roots i.r = some (.row i.v w' s' md' none i.t xs') := by
      rw [hlk]
      have : ∀ {t1 t2 : PT} {x1 : List t1.den} {x2 : List t2.den}, (⟨t1, x1⟩ : LV) = ⟨t2, x2⟩ → (Root.row i.v w' s' md' none t1 x1) = .row i.v w' s' md' none t2 x2 := by
        intro t1 t2 x1 x2 hq; cases hq; rfl
      rw [this hc']
    exact ⟨_, nm2, NA2, p1, p2, p3, p4, .rowK j kw i w' s' md' xs' r es hi hlk' g1.1.1.2 (fun hw => by
      have := g1.1.2
      rw [hw] at this
      exact Nat.eq_of_beq_eq_true this) (by simpa using g1.2) p5⟩
inductive UE (ids : Ids) (nx mc : Nat) : List (Nat × SK) → List DV → List DV → SEnv → Prop
  | nil (ds : List DV) : UE ids nx mc [] ds ds []
  | cons (t : Nat) (s : SK) (l : List (Nat × SK)) (ds ds1 ds2 : List DV) (v : SV) (e : SEnv) (hu : SK.unpack ids nx mc s ds (fun a b => some (a, b)) = some (v, ds1)) (hr : UE ids nx mc l ds1 ds2 e) : UE ids nx mc ((t, s) :: l) ds ds2 (e ++ [(t, v)])
theorem unpackE_syn {nx mc : Nat} : ∀ (l : List (Nat × SK)) {env : SEnv} {ds : List DV} {K : SEnv → List DV → Option α}, unpackE ids nx mc l env ds K = some y → ∃ e ds2, UE ids nx mc l ds ds2 e ∧ ∃ env2, K env2 ds2 = some y ∧ ∀ t v, lkp env2 t = some v → (t, v) ∈ e ∨ lkp env t = some v
  | [], env, ds, K, hk => ⟨[], ds, .nil ds, env, hk, fun t v hv => .inr hv⟩
  | (t, s) :: l, env, ds, K, hk => by
    obtain ⟨v, ds1, h1, h2⟩ := unpack_nat s hk
    obtain ⟨e, ds2, q1, env2, q2, q3⟩ := unpackE_syn l h2
    refine ⟨_, ds2, .cons t s l ds ds1 ds2 v e h1 q1, _, q2, fun t' v' hv => ?_⟩
    rw [lkp_cons] at hv
    split at hv
    · rename_i hq; cases hv; subst hq; exact .inl (by simp)
    · exact (q3 t' v' hv).imp (fun hm => by simp [hm]) id
inductive UR (ids : Ids) (nx mc : Nat) (raw : Option Roots) : List RS → List DV → Roots → Prop
  | nil : UR ids nx mc raw [] [] []
  | cell (j : Nat) (l : List SK) (r : List RS) (i : Idn) (ds ds1 : List DV) (cs : List SV) (l3 : Roots) (hi : nthI ids j = some i) (hu : SK.unpacks ids nx mc l ds (fun a b => some (a, b)) = some (cs, ds1)) (hr : UR ids nx mc raw r ds1 l3) : UR ids nx mc raw (.cell j l :: r) ds ((i.r, .cell (rawC cs (rawOf raw i.r))) :: l3)
  | cellN (q : Nat) (l : List SK) (r : List RS) (ds ds1 : List DV) (cs : List SV) (l3 : Roots) (hu : SK.unpacks ids nx mc l ds (fun a b => some (a, b)) = some (cs, ds1)) (hr : UR ids nx mc raw r ds1 l3) : UR ids nx mc raw (.cellN q l :: r) ds ((nx + 1 + q, .cell cs) :: l3)
  | row (q : Nat) (own : Bool) (t0 t : PT) (xs : List t.den) (r : List RS) (ds : List DV) (l3 : Roots) (hr : UR ids nx mc raw r ds l3) : UR ids nx mc raw (.row q own t0 :: r) (⟨.list t, xs⟩ :: ds) ((nx + 1 + q, .row (nx + 1 + q) (nx + 1 + q) (nx + 1 + q) (Md.of own) none t xs) :: l3)
  | rowK (j : Nat) (kw : Bool) (i : Idn) (t : PT) (xs : List t.den) (r : List RS) (ds : List DV) (l3 : Roots) (hi : nthI ids j = some i) (hr : UR ids nx mc raw r ds l3) : UR ids nx mc raw (.rowK j kw :: r) (⟨.list t, xs⟩ :: ds) ((i.r, .row i.v (match kw with | true => i.w | false => nx + 1) (nx + 1) i.md none t xs) :: l3)
theorem unpackR_syn {nx mc : Nat} {raw : Option Roots} : ∀ (rs : List RS) {ρ : Roots} {ds : List DV} {K : Roots → Option α}, unpackR ids nx mc raw rs ρ ds K = some y → ∃ l3, UR ids nx mc raw rs ds l3 ∧ K (l3 ++ ρ) = some y
  | [], ρ, ds, K, hk => by cases ds with | nil => exact ⟨[], .nil, hk⟩ | cons => cases hk
  | .cell j l :: r, ρ, ds, K, hk => by
    simp only [unpackR] at hk
    split at hk
    · rename_i i hi
      obtain ⟨cs, ds1, h1, h2⟩ := unpacks_nat l hk
      obtain ⟨l3, q1, q2⟩ := unpackR_syn r h2
      exact ⟨_, .cell j l r i ds ds1 cs l3 hi h1 q1, q2⟩
    · cases hk
  | .cellN q l :: r, ρ, ds, K, hk => by
    simp only [unpackR] at hk
    obtain ⟨cs, ds1, h1, h2⟩ := unpacks_nat l hk
    obtain ⟨l3, q1, q2⟩ := unpackR_syn r h2
    exact ⟨_, .cellN q l r ds ds1 cs l3 h1 q1, q2⟩
  | .row q own t0 :: r, ρ, ds, K, hk => by
    cases ds with
    | nil => cases hk
    | cons d ds =>
      obtain ⟨t, xs⟩ := d
      cases t with
      | list t =>
        obtain ⟨l3, q1, q2⟩ := unpackR_syn r hk
        exact ⟨_, .row q own t0 t xs r ds l3 q1, q2⟩
      | _ => cases hk
  | .rowK j kw :: r, ρ, ds, K, hk => by
    cases ds with
    | nil => cases hk
    | cons d ds =>
      obtain ⟨t, xs⟩ := d
      cases t with
      | list t =>
        simp only [unpackR] at hk
        split at hk
        · rename_i i hi
          obtain ⟨l3, q1, q2⟩ := unpackR_syn r hk
          exact ⟨_, .rowK j kw i t xs r ds l3 hi q1, q2⟩
        · cases hk
      | _ => cases hk
end
end Go.Proofs.Ytcngfjmfgeckmaa
namespace Go.Proofs.Ytcngfjmfgeckmaa
open Go
theorem nodupN_iff : ∀ {l : List Nat}, nodupN l = true ↔ l.Nodup
  | [] => by simp [nodupN]
  | a :: l => by
    simp only [nodupN, List.nodup_cons]
    cases hb : hasN l a with
    | true => simp [hasN_iff.1 hb]
    | false =>
      have : a ∉ l := fun hm => by rw [hasN_iff.2 hm] at hb; cases hb
      simp [this, nodupN_iff (l := l)]
theorem nmIds_mem : ∀ {l : List (Nat × NmR)} {q r : Nat} {pc o : Bool} {d : DV}, lkp l q = some ⟨some r, pc, o, d⟩ → r ∈ nmIds l
  | (a, x) :: l, q, r, pc, o, d, h => by
    rw [lkp_cons] at h
    obtain ⟨xr, xp, xo, xd⟩ := x
    split at h
    · cases h; simp [nmIds]
    · have := nmIds_mem h
      cases xr <;> simp [nmIds, this]
theorem nmIds_inj : ∀ {l : List (Nat × NmR)} {q q' r : Nat} {pc o pc' o' : Bool} {d d' : DV}, (nmIds l).Nodup → lkp l q = some ⟨some r, pc, o, d⟩ → lkp l q' = some ⟨some r, pc', o', d'⟩ → q = q'
  | (a, x) :: l, q, q', r, pc, o, pc', o', d, d', hn, h1, h2 => by
    rw [lkp_cons] at h1 h2
    obtain ⟨xr, xp, xo, xd⟩ := x
    have tl : (nmIds l).Nodup := by cases xr <;> simp [nmIds] at hn <;> first | exact hn | exact hn.2
    by_cases e1 : q = a
    · by_cases e2 : q' = a
      · exact e1.trans e2.symm
      · rw [if_pos e1] at h1
        rw [if_neg e2] at h2
        cases h1
        simp only [nmIds, List.nodup_cons] at hn
        exact absurd (nmIds_mem h2) hn.1
    · rw [if_neg e1] at h1
      by_cases e2 : q' = a
      · rw [if_pos e2] at h2
        cases h2
        simp only [nmIds, List.nodup_cons] at hn
        exact absurd (nmIds_mem h1) hn.1
      · rw [if_neg e2] at h2
        exact nmIds_inj tl h1 h2
theorem nmCs_mem : ∀ {l : List (Nat × Nat)} {q c : Nat}, lkp l q = some c → c ∈ nmCs l
  | (a, x) :: l, q, c, h => by
    rw [lkp_cons] at h
    split at h
    · cases h; simp [nmCs]
    · simp [nmCs, nmCs_mem h]
theorem nmCs_inj : ∀ {l : List (Nat × Nat)} {q q' c : Nat}, (nmCs l).Nodup → lkp l q = some c → lkp l q' = some c → q = q'
  | (a, x) :: l, q, q', c, hn, h1, h2 => by
    rw [lkp_cons] at h1 h2
    simp only [nmCs, List.nodup_cons] at hn
    by_cases e1 : q = a
    · by_cases e2 : q' = a
      · exact e1.trans e2.symm
      · rw [if_pos e1] at h1
        rw [if_neg e2] at h2
        cases h1
        exact absurd (nmCs_mem h2) hn.1
    · rw [if_neg e1] at h1
      by_cases e2 : q' = a
      · rw [if_pos e2] at h2
        cases h2
        exact absurd (nmCs_mem h1) hn.1
      · rw [if_neg e2] at h2
        exact nmCs_inj hn.2 h1 h2
theorem fzOk_own : ∀ {ρ : Roots} {rs : List Nat} {z : List Src}, fzOk ρ rs z = true → (∀ r, Src.own r ∈ z → (∃ x, lkp ρ r = some x) ∧ r ∉ rs) ∧ Src.live ∉ z
  | ρ, rs, [], h => ⟨fun r hr => (by cases hr), fun hq => by cases hq⟩
  | ρ, rs, .fr :: l, h => by
    obtain ⟨h1, h2⟩ := fzOk_own (z := l) h
    exact ⟨fun r hr => h1 r (by simpa using hr), fun hq => h2 (by simpa using hq)⟩
  | ρ, rs, .live :: l, h => by cases h
  | ρ, rs, .own r :: l, h => by
    simp only [fzOk] at h
    split at h
    · rename_i x hx
      cases hb : hasN rs r with
      | true => rw [hb] at h; cases h
      | false =>
        rw [hb] at h
        obtain ⟨h1, h2⟩ := fzOk_own (z := l) h
        refine ⟨fun r' hr => ?_, fun hq => h2 (by simpa using hq)⟩
        rcases List.mem_cons.1 hr with hr | hr
        · cases hr
          exact ⟨⟨x, hx⟩, fun hm => by rw [hasN_iff.2 hm] at hb; cases hb⟩
        · exact h1 r' hr
    · cases h
section
variable {ids : Ids} {rt : Rt} {L : Lay} {h : Heap} {z : List Src} {NA : List (Nat × AV)} {cl : List (Nat × Nat)} {nx mc : Nat} {α : Type} {y : α}
mutual
theorem unpack_rest : ∀ {s : SK} {a : AV} {ds : List DV}, PV ids rt L h z NA cl s a ds → ∀ {rest : List DV} {K : SV → List DV → Option α}, SK.unpack ids nx mc s (ds ++ rest) K = some y → ∃ v, K v rest = some y ∧ (v = .lk → s = .lk)
  | _, _, _, .int k x, rest, K, hk => ⟨_, hk, fun hq => by cases hq⟩
  | _, _, _, .bool x, rest, K, hk => ⟨_, hk, fun hq => by cases hq⟩
  | _, _, _, .str x, rest, K, hk => ⟨_, hk, fun hq => by cases hq⟩
  | _, _, _, .nil, rest, K, hk => ⟨_, hk, fun hq => by cases hq⟩
  | _, _, _, .rd t xs a hv, rest, K, hk => ⟨_, hk, fun hq => by cases hq⟩
  | _, _, _, .vw t xs a hv, rest, K, hk => ⟨_, hk, fun hq => by cases hq⟩
  | _, _, _, .rcd k x asl hl hc, rest, K, hk => ⟨_, hk, fun hq => by cases hq⟩
  | _, _, _, .pr t x a hv, rest, K, hk => ⟨_, hk, fun hq => by cases hq⟩
  | _, _, _, .row q a ho hq, rest, K, hk => ⟨_, hk, fun hq => by cases hq⟩
  | _, _, _, .cpN q off c a ho hq hv, rest, K, hk => ⟨_, hk, fun hq => by cases hq⟩
  | _, _, _, .rowK j i a ho hi hv, rest, K, hk => by
    simp only [List.nil_append, SK.unpack, hi] at hk
    exact ⟨_, hk, fun hq => by cases hq⟩
  | _, _, _, .ep j off d i a ho hi hv, rest, K, hk => by
    simp only [List.cons_append, List.nil_append, SK.unpack, hi] at hk
    exact ⟨_, hk, fun hq => by cases hq⟩
  | _, _, _, .cp j off i a ho hi hv, rest, K, hk => by
    simp only [List.nil_append, SK.unpack, hi] at hk
    exact ⟨_, hk, fun hq => by cases hq⟩
  | _, _, _, .lk a, rest, K, hk => ⟨_, hk, fun _ => rfl⟩
  | _, _, _, .agg l asl ds hc hn, rest, K, hk => by
    obtain ⟨vs, q1, _⟩ := unpacks_rest hc hk
    exact ⟨_, q1, fun hq => by cases hq⟩
  | _, _, _, .tup l asl ds hc hn, rest, K, hk => by
    obtain ⟨vs, q1, _⟩ := unpacks_rest hc hk
    exact ⟨_, q1, fun hq => by cases hq⟩
  | _, _, _, .fn f l asl ds hc hn, rest, K, hk => by
    obtain ⟨vs, q1, _⟩ := unpacks_rest hc hk
    exact ⟨_, q1, fun hq => by cases hq⟩
  | _, _, _, .nilp, rest, K, hk => ⟨_, hk, fun hq => by cases hq⟩
  | _, _, _, .nilf, rest, K, hk => ⟨_, hk, fun hq => by cases hq⟩
  | _, _, _, .und a, rest, K, hk => ⟨_, hk, fun hq => by cases hq⟩
theorem unpacks_rest : ∀ {l : List SK} {asl : List AV} {ds : List DV}, PVs ids rt L h z NA cl l asl ds → ∀ {rest : List DV} {K : List SV → List DV → Option α}, SK.unpacks ids nx mc l (ds ++ rest) K = some y → ∃ vs, K vs rest = some y ∧ vs.length = l.length ∧ ∀ o : Nat, vs[o]? = some .lk → l[o]? = some .lk
  | _, _, _, .nil, rest, K, hk => ⟨[], hk, rfl, fun o ho => by simp at ho⟩
  | _, _, _, .cons s l a asl d ds hv hl, rest, K, hk => by
    have hk' : SK.unpack ids nx mc s (d ++ (ds ++ rest)) (fun v ds => SK.unpacks ids nx mc l ds fun vs ds => K (v :: vs) ds) = some y := by rw [← List.append_assoc]; exact hk
    obtain ⟨v, q1, q2⟩ := unpack_rest hv hk'
    obtain ⟨vs, p1, p2, p3⟩ := unpacks_rest hl q1
    refine ⟨v :: vs, p1, by simp [p2], fun o ho => ?_⟩
    cases o with
    | zero => simp at ho ⊢; exact q2 ho
    | succ o => simpa using p3 o (by simpa using ho)
end
theorem UE.mem {dsT : List DV} {E : Env} : ∀ {l : List (Nat × SK)} {ds ds2 : List DV} {e : SEnv} {rest pre : List DV}, PVs ids rt L h z NA cl (l.map Prod.snd) (l.map fun p => E p.1) ds → dsT = pre ++ (ds ++ rest) → UE ids nx mc l (ds ++ rest) ds2 e → ds2 = rest ∧
    ∀ t v, (t, v) ∈ e → ∃ s d pre' rest', (t, s) ∈ l ∧ PV ids rt L h z NA cl s (E t) d ∧ dsT = pre' ++ (d ++ rest') ∧ SK.unpack ids nx mc s (d ++ rest') (fun a b => some (a, b)) = some (v, rest')
  | [], ds, ds2, e, rest, pre, hp, hd, hu => by
    cases hp
    cases hu
    exact ⟨rfl, fun t v hm => by cases hm⟩
  | (t0, s0) :: l, ds, ds2, e, rest, pre, hp, hd, hu => by
    cases hp with
    | cons _ _ _ _ d ds' hv hl =>
      cases hu with
      | cons _ _ _ _ ds1 _ v0 e' hu hr =>
        have hu' : SK.unpack ids nx mc s0 (d ++ (ds' ++ rest)) (fun a b => some (a, b)) = some (v0, ds1) := by rw [← List.append_assoc]; exact hu
        obtain ⟨v1, q1, _⟩ := unpack_rest hv hu'
        cases q1
        obtain ⟨r1, r2⟩ := UE.mem (dsT := dsT) (pre := pre ++ d) hl (by rw [hd]; simp) hr
        refine ⟨r1, fun t v hm => ?_⟩
        rcases List.mem_append.1 hm with hm | hm
        · obtain ⟨s, d', pre', rest', k1, k2⟩ := r2 t v hm
          exact ⟨s, d', pre', rest', by simp [k1], k2⟩
        · simp only [List.mem_singleton, Prod.mk.injEq] at hm
          obtain ⟨rfl, rfl⟩ := hm
          exact ⟨s0, d, pre, ds' ++ rest, by simp, hv, by rw [hd, List.append_assoc], hu'⟩
inductive Info (ids : Ids) (rt : Rt) (L : Lay) (h : Heap) (ρ : Roots) (z : List Src) (NA : List (Nat × AV)) (cl : List (Nat × Nat)) (rows : List (Nat × NmR)) (nx mc : Nat) (raw : Option Roots) (dsT : List DV) (rs0 : List RS) : Nat → Root → Prop
  | cell (j : Nat) (l : List SK) (i : Idn) (cs cs3 : List SV) (e : AV) (ds pre rest : List DV) (hm : RS.cell j l ∈ rs0) (hi : nthI ids j = some i) (hk : lkp ρ i.r = some (.cell cs)) (hro : (modeOf ids i.r).isRo = false) (he : h (L.C i.r) = some [e]) (hc : PVs ids rt L h z NA cl l e.cells ds) (hl : cs3.length = cs.length)
      (hlk : ∀ (o : Nat), cs3[o]? = some .lk → cs[o]? = some .lk) (hd : dsT = pre ++ (ds ++ rest)) (hu : SK.unpacks ids nx mc l (ds ++ rest) (fun a b => some (a, b)) = some (cs3, rest)) : Info ids rt L h ρ z NA cl rows nx mc raw dsT rs0 i.r (.cell (rawC cs3 (rawOf raw i.r)))
  | cellN (q : Nat) (l : List SK) (c : Nat) (cs cs3 : List SV) (e : AV) (ds pre rest : List DV) (hm : RS.cellN q l ∈ rs0) (hq : lkp cl q = some c) (hk : lkp ρ c = some (.cell cs)) (he : h (L.C c) = some [e]) (hc : PVs ids rt L h z NA cl l e.cells ds) (hl : cs3.length = cs.length)
      (hlk : ∀ (o : Nat), cs3[o]? ≠ some .lk) (hd : dsT = pre ++ (ds ++ rest)) (hu : SK.unpacks ids nx mc l (ds ++ rest) (fun a b => some (a, b)) = some (cs3, rest)) : Info ids rt L h ρ z NA cl rows nx mc raw dsT rs0 (nx + 1 + q) (.cell cs3)
  | row (q : Nat) (own : Bool) (t : PT) (xs : List t.den) (hm : RS.row q own t ∈ rs0) (hx : RowNm rows q own t xs) : Info ids rt L h ρ z NA cl rows nx mc raw dsT rs0 (nx + 1 + q) (.row (nx + 1 + q) (nx + 1 + q) (nx + 1 + q) (Md.of own) none t xs)
  | rowK (j : Nat) (kw : Bool) (i : Idn) (w s w3 : Nat) (md : Md) (xs : List i.t.den) (hm : RS.rowK j kw ∈ rs0) (hi : nthI ids j = some i) (hk : lkp ρ i.r = some (.row i.v w s md none i.t xs)) (hmd : mdLe i.md md = true) (hw : w3 = i.w ∧ i.w = w ∨ w3 = nx + 1) (hro : (modeOf ids i.r).isRo = false) :
      Info ids rt L h ρ z NA cl rows nx mc raw dsT rs0 i.r (.row i.v w3 (nx + 1) i.md none i.t xs)
theorem UR.mem {ρ : Roots} {rows : List (Nat × NmR)} {raw : Option Roots} {dsT : List DV} {rs0 : List RS} : ∀ {rs : List RS} {ds : List DV} {l3 : Roots} {pre : List DV}, PR ids rt L h ρ z NA cl rows rs ds → dsT = pre ++ ds → (∀ x, x ∈ rs → x ∈ rs0) → UR ids nx mc raw rs ds l3 →
    ∀ r x, (r, x) ∈ l3 → Info ids rt L h ρ z NA cl rows nx mc raw dsT rs0 r x
  | [], ds, l3, pre, hp, hd, hs, hu, r, x, hm => by cases hu; cases hm
  | c :: rs, ds, l3, pre, hp, hd, hs, hu, r, x, hm => by
    have hs' : ∀ x, x ∈ rs → x ∈ rs0 := fun x hx => hs x (List.mem_cons_of_mem _ hx)
    cases hp with
    | cell j l _ i cs e ds' es hi hk hro he hc hl hlk hr =>
      cases hu with
      | cell _ _ _ i' _ ds1 cs3 l3' hi' hu hr' =>
        rw [hi] at hi'
        cases hi'
        obtain ⟨vs, q1, q2, q3⟩ := unpacks_rest hc hu
        cases q1
        rcases List.mem_cons.1 hm with hm | hm
        · cases hm
          refine .cell j l i cs cs3 e ds' pre _ (hs _ (by simp)) hi hk hro he hc (by rw [q2, hl]) (fun o ho => ?_) hd hu
          have := q3 o ho
          have hol : o < cs.length := by rw [← hl]; exact (List.getElem?_eq_some_iff.1 this).1
          rw [List.getElem?_eq_getElem hol, hlk o _ (List.getElem?_eq_getElem hol) this]
        · exact UR.mem (pre := pre ++ ds') hr (by rw [hd]; simp) hs' hr' r x hm
    | cellN q l _ c cs e ds' es hq hk he hc hl hlk hr =>
      cases hu with
      | cellN _ _ _ _ ds1 cs3 l3' hu hr' =>
        obtain ⟨vs, q1, q2, q3⟩ := unpacks_rest hc hu
        cases q1
        rcases List.mem_cons.1 hm with hm | hm
        · cases hm
          exact .cellN q l c cs cs3 e ds' pre _ (hs _ (by simp)) hq hk he hc (by rw [q2, hl]) (fun o ho => hlk o (q3 o ho)) hd hu
        · exact UR.mem (pre := pre ++ ds') hr (by rw [hd]; simp) hs' hr' r x hm
    | row q own t xs _ es hx hr =>
      cases hu with
      | row _ _ _ _ _ _ _ l3' hr' =>
        rcases List.mem_cons.1 hm with hm | hm
        · cases hm
          exact .row q own t xs (hs _ (by simp)) hx
        · exact UR.mem (pre := pre ++ [⟨.list t, xs⟩]) hr (by rw [hd]; simp) hs' hr' r x hm
    | rowK j kw i w s md xs _ es hi hk hmd hw hro hr =>
      cases hu with
      | rowK _ _ i' _ _ _ _ l3' hi' hr' =>
        rw [hi] at hi'
        cases hi'
        rcases List.mem_cons.1 hm with hm | hm
        · cases hm
          exact .rowK j kw i w s _ md xs (hs _ (by simp)) hi hk hmd (by cases kw with | true => exact .inl ⟨rfl, hw rfl⟩ | false => exact .inr rfl) hro
        · exact UR.mem (pre := pre ++ [⟨.list i.t, xs⟩]) hr (by rw [hd]; simp) hs' hr' r x hm
def rsKeys (ids : Ids) (nx : Nat) : List RS → List Nat
  | [] => []
  | .rowK j _ :: l => (match nthI ids j with | some i => i.r | none => 0) :: rsKeys ids nx l
  | .cell j _ :: l => (match nthI ids j with | some i => i.r | none => 0) :: rsKeys ids nx l
  | .row q _ _ :: l => (nx + 1 + q) :: rsKeys ids nx l
  | .cellN q _ :: l => (nx + 1 + q) :: rsKeys ids nx l
theorem UR.keys {raw : Option Roots} {rs : List RS} {ds : List DV} {l3 : Roots} (hu : UR ids nx mc raw rs ds l3) : l3.map Prod.fst = rsKeys ids nx rs ∧ ∀ j, (∃ l, RS.cell j l ∈ rs) ∨ (∃ kw, RS.rowK j kw ∈ rs) → ∃ i, nthI ids j = some i := by
  induction hu with
  | nil => exact ⟨rfl, fun j hj => by rcases hj with ⟨l, hl⟩ | ⟨k, hk⟩; cases hl; cases hk⟩
  | cell j l r i ds ds1 cs l3 hi hu hr ih =>
    refine ⟨by simp [rsKeys, hi, ih.1], fun j' hj => ?_⟩
    rcases hj with ⟨l', hl⟩ | ⟨k, hk⟩
    · rcases List.mem_cons.1 hl with hq | hq
      · cases hq; exact ⟨i, hi⟩
      · exact ih.2 j' (.inl ⟨l', hq⟩)
    · exact ih.2 j' (.inr ⟨k, by simpa using hk⟩)
  | cellN q l r ds ds1 cs l3 hu hr ih =>
    refine ⟨by simp [rsKeys, ih.1], fun j' hj => ih.2 j' (hj.imp (fun ⟨l', hl⟩ => ⟨l', by simpa using hl⟩) fun ⟨k, hk⟩ => ⟨k, by simpa using hk⟩)⟩
  | row q own t0 t xs r ds l3 hr ih =>
    refine ⟨by simp [rsKeys, ih.1], fun j' hj => ih.2 j' (hj.imp (fun ⟨l', hl⟩ => ⟨l', by simpa using hl⟩) fun ⟨k, hk⟩ => ⟨k, by simpa using hk⟩)⟩
  | rowK j kw i t xs r ds l3 hi hr ih =>
    refine ⟨by simp [rsKeys, hi, ih.1], fun j' hj => ?_⟩
    rcases hj with ⟨l', hl⟩ | ⟨k, hk⟩
    · exact ih.2 j' (.inl ⟨l', by simpa using hl⟩)
    · rcases List.mem_cons.1 hk with hq | hq
      · cases hq; exact ⟨i, hi⟩
      · exact ih.2 j' (.inr ⟨k, hq⟩)
theorem rsKeys_mem : ∀ {rs : List RS} {r : Nat}, r ∈ rsKeys ids nx rs → r ∈ keepIds ids rs ∨ ∃ q, r = nx + 1 + q ∧ q ∈ rsNames rs
  | [], r, hm => by cases hm
  | .rowK j kw :: l, r, hm => by
    simp only [rsKeys, keepIds, List.mem_cons] at hm ⊢
    rcases hm with hm | hm
    · exact .inl (.inl hm)
    · exact (rsKeys_mem hm).imp .inr id
  | .cell j c :: l, r, hm => by
    simp only [rsKeys, keepIds, List.mem_cons] at hm ⊢
    rcases hm with hm | hm
    · exact .inl (.inl hm)
    · exact (rsKeys_mem hm).imp .inr id
  | .row q o t :: l, r, hm => by
    simp only [rsKeys, keepIds, rsNames, List.mem_cons] at hm ⊢
    rcases hm with hm | hm
    · exact .inr ⟨q, hm, .inl rfl⟩
    · exact (rsKeys_mem hm).imp id fun ⟨q', h1, h2⟩ => ⟨q', h1, .inr h2⟩
  | .cellN q c :: l, r, hm => by
    simp only [rsKeys, keepIds, rsNames, List.mem_cons] at hm ⊢
    rcases hm with hm | hm
    · exact .inr ⟨q, hm, .inl rfl⟩
    · exact (rsKeys_mem hm).imp id fun ⟨q', h1, h2⟩ => ⟨q', h1, .inr h2⟩
theorem rsKeys_nodup : ∀ {rs : List RS}, (keepIds ids rs).Nodup → (rsNames rs).Nodup → (∀ r, r ∈ keepIds ids rs → r < nx) → (rsKeys ids nx rs).Nodup
  | [], _, _, _ => .nil
  | .rowK j kw :: l, h1, h2, h3 => by
    simp only [keepIds, List.nodup_cons] at h1
    simp only [rsKeys, List.nodup_cons]
    refine ⟨fun hm => ?_, rsKeys_nodup h1.2 h2 fun r hr => h3 r (by simp [keepIds, hr])⟩
    rcases rsKeys_mem hm with hm | ⟨q, hq, _⟩
    · exact h1.1 hm
    · have := h3 _ (by simp only [keepIds]; exact List.mem_cons_self ..)
      have h5 : nx + 1 + q < nx := by rw [← hq]; exact this
      omega
  | .cell j c :: l, h1, h2, h3 => by
    simp only [keepIds, List.nodup_cons] at h1
    simp only [rsKeys, List.nodup_cons]
    refine ⟨fun hm => ?_, rsKeys_nodup h1.2 h2 fun r hr => h3 r (by simp [keepIds, hr])⟩
    rcases rsKeys_mem hm with hm | ⟨q, hq, _⟩
    · exact h1.1 hm
    · have := h3 _ (by simp only [keepIds]; exact List.mem_cons_self ..)
      have h5 : nx + 1 + q < nx := by rw [← hq]; exact this
      omega
  | .row q o t :: l, h1, h2, h3 => by
    simp only [rsNames, List.nodup_cons] at h2
    simp only [rsKeys, List.nodup_cons]
    refine ⟨fun hm => ?_, rsKeys_nodup h1 h2.2 h3⟩
    rcases rsKeys_mem hm with hm | ⟨q', hq, hq'⟩
    · have := h3 _ hm; omega
    · have : q = q' := by omega
      subst this; exact h2.1 hq'
  | .cellN q c :: l, h1, h2, h3 => by
    simp only [rsNames, List.nodup_cons] at h2
    simp only [rsKeys, List.nodup_cons]
    refine ⟨fun hm => ?_, rsKeys_nodup h1 h2.2 h3⟩
    rcases rsKeys_mem hm with hm | ⟨q', hq, hq'⟩
    · have := h3 _ hm; omega
    · have : q = q' := by omega
      subst this; exact h2.1 hq'
theorem sm_mem : ∀ {l : List (Nat × SK)} {p : Nat × SK}, p ∈ l → p.2.sm ≤ smE l
  | (t, s) :: l, p, hm => by
    rcases List.mem_cons.1 hm with rfl | hm
    · simp [smE]
    · have := sm_mem hm; simp only [smE]; omega
theorem smR_cell : ∀ {rs : List RS} {j : Nat} {l : List SK}, RS.cell j l ∈ rs → SK.sms l ≤ smR rs
  | c :: rs, j, l, hm => by
    rcases List.mem_cons.1 hm with rfl | hm
    · simp [smR]
    · have := smR_cell hm; cases c <;> simp only [smR] <;> omega
theorem smR_cellN : ∀ {rs : List RS} {q : Nat} {l : List SK}, RS.cellN q l ∈ rs → SK.sms l ≤ smR rs ∧ q + 1 ≤ smR rs
  | c :: rs, j, l, hm => by
    rcases List.mem_cons.1 hm with rfl | hm
    · simp only [smR]; omega
    · have := smR_cellN hm; cases c <;> simp only [smR] <;> omega
theorem smR_row : ∀ {rs : List RS} {q : Nat} {o : Bool} {t : PT}, RS.row q o t ∈ rs → q + 1 ≤ smR rs
  | c :: rs, j, o, t, hm => by
    rcases List.mem_cons.1 hm with rfl | hm
    · simp only [smR]; omega
    · have := smR_row hm; cases c <;> simp only [smR] <;> omega
theorem rsRow_uniq : ∀ {rs : List RS} {q : Nat} {o o' : Bool} {t t' : PT}, (rsNames rs).Nodup → RS.row q o t ∈ rs → RS.row q o' t' ∈ rs → o = o' ∧ t = t'
  | c :: rs, q, o, o', t, t', hn, h1, h2 => by
    have name : ∀ {rs : List RS} {o : Bool} {t : PT}, RS.row q o t ∈ rs → q ∈ rsNames rs := by
      intro rs o t
      induction rs with
      | nil => intro h; cases h
      | cons c rs ih =>
        intro h
        rcases List.mem_cons.1 h with rfl | h
        · simp [rsNames]
        · have := ih h
          cases c <;> simp [rsNames, this]
    have tl : (rsNames rs).Nodup := by cases c <;> simp [rsNames] at hn <;> first | exact hn | exact hn.2
    rcases List.mem_cons.1 h1 with e1 | m1
    · rcases List.mem_cons.1 h2 with e2 | m2
      · rw [← e1] at e2; cases e2; exact ⟨rfl, rfl⟩
      · subst e1
        simp only [rsNames, List.nodup_cons] at hn
        exact absurd (name m2) hn.1
    · rcases List.mem_cons.1 h2 with e2 | m2
      · subst e2
        simp only [rsNames, List.nodup_cons] at hn
        exact absurd (name m1) hn.1
      · exact rsRow_uniq tl m1 m2
theorem rsCell_row : ∀ {rs : List RS} {q : Nat} {o : Bool} {t : PT} {l : List SK}, (rsNames rs).Nodup → RS.row q o t ∈ rs → RS.cellN q l ∈ rs → False
  | c :: rs, q, o, t, l, hn, h1, h2 => by
    have name1 : ∀ {rs : List RS} {o : Bool} {t : PT}, RS.row q o t ∈ rs → q ∈ rsNames rs := by
      intro rs o t
      induction rs with
      | nil => intro h; cases h
      | cons c rs ih =>
        intro h
        rcases List.mem_cons.1 h with rfl | h
        · simp [rsNames]
        · have := ih h
          cases c <;> simp [rsNames, this]
    have name2 : ∀ {rs : List RS} {l : List SK}, RS.cellN q l ∈ rs → q ∈ rsNames rs := by
      intro rs l
      induction rs with
      | nil => intro h; cases h
      | cons c rs ih =>
        intro h
        rcases List.mem_cons.1 h with rfl | h
        · simp [rsNames]
        · have := ih h
          cases c <;> simp [rsNames, this]
    have tl : (rsNames rs).Nodup := by cases c <;> simp [rsNames] at hn <;> first | exact hn | exact hn.2
    rcases List.mem_cons.1 h1 with e1 | m1
    · rcases List.mem_cons.1 h2 with e2 | m2
      · rw [← e1] at e2; cases e2
      · subst e1
        simp only [rsNames, List.nodup_cons] at hn
        exact hn.1 (name2 m2)
    · rcases List.mem_cons.1 h2 with e2 | m2
      · subst e2
        simp only [rsNames, List.nodup_cons] at hn
        exact hn.1 (name1 m1)
      · exact rsCell_row tl m1 m2
theorem keep_uniq : ∀ {rs : List RS} {j j' : Nat} {kw kw' : Bool} {i i' : Idn}, (keepIds ids rs).Nodup → RS.rowK j kw ∈ rs → RS.rowK j' kw' ∈ rs → nthI ids j = some i → nthI ids j' = some i' → i.r = i'.r → j = j'
  | c :: rs, j, j', kw, kw', i, i', hn, h1, h2, hi, hi', hr => by
    have name : ∀ {rs : List RS} {j : Nat} {kw : Bool} {i : Idn}, RS.rowK j kw ∈ rs → nthI ids j = some i → i.r ∈ keepIds ids rs := by
      intro rs j kw i h hi
      induction rs with
      | nil => cases h
      | cons c rs ih =>
        rcases List.mem_cons.1 h with rfl | h
        · simp [keepIds, hi]
        · have := ih h
          cases c <;> simp [keepIds, this]
    have tl : (keepIds ids rs).Nodup := by cases c <;> simp [keepIds] at hn <;> first | exact hn | exact hn.2
    rcases List.mem_cons.1 h1 with e1 | m1
    · rcases List.mem_cons.1 h2 with e2 | m2
      · rw [← e1] at e2; cases e2; rfl
      · subst e1
        simp only [keepIds, hi, List.nodup_cons] at hn
        exact absurd (hr ▸ name m2 hi') hn.1
    · rcases List.mem_cons.1 h2 with e2 | m2
      · subst e2
        simp only [keepIds, hi', List.nodup_cons] at hn
        exact absurd (hr ▸ name m1 hi) hn.1
      · exact keep_uniq tl m1 m2 hi hi' hr
end
end Go.Proofs.Ytcngfjmfgeckmaa
namespace Go.Proofs.Ytcngfjmfgeckmaa
open Go
section
variable {B : Bas} {cx1 cxB : Cx} {st2 : St} {L2 : Lay} {Es : List Env} {E : Env} {h : Heap} {n : Nat} {α : Type} {j : α} {ids : Ids} {Γ : Shape} {nx mcB : Nat} {envB : SEnv} {ρB : Roots} {raw : Option Roots}
theorem PR.keepRo {rt : Rt} {ρ : Roots} {z : List Src} {NA : List (Nat × AV)} {cl : List (Nat × Nat)} {rows : List (Nat × NmR)} {rs : List RS} {ds : List DV} (hp : PR ids rt L2 h ρ z NA cl rows rs ds) : ∀ r, r ∈ keepIds ids rs → (modeOf ids r).isRo = false := by
  induction hp with
  | nil => intro r hr; cases hr
  | cell j l r i cs e ds es hi hk hro he hc hl hlk _ ih =>
    intro q hq
    simp only [keepIds, hi, List.mem_cons] at hq
    rcases hq with rfl | hq
    · exact hro
    · exact ih q hq
  | cellN q l r c cs e ds es hq hk he hc hl hlk _ ih => exact ih
  | row q own t xs r es hx _ ih => exact ih
  | rowK j kw i w s md xs r es hi hk hmd hw hro _ ih =>
    intro q hq
    simp only [keepIds, hi, List.mem_cons] at hq
    rcases hq with rfl | hq
    · exact hro
    · exact ih q hq
structure LandOk (B : Bas) (cx1 cxB : Cx) (st2 : St) (ids : Ids) (Γ : Shape) (nx mcB : Nat) (envB : SEnv) (ρB : Roots) (raw : Option Roots) : Prop where
  h_ids : ∀ j i, nthI ids j = some i → i.r < nx ∧ i.v < nx ∧ i.w < nx
  h_fr : cxB.frames = cx1.frames
  h_frl : ∀ (i : Nat) (fr : SEnv), cx1.frames[i]? = some fr → ∀ t v, lkp fr t = some v → v.lowN nx = true
  h_env0 : ∀ t v, lkp cxB.env0 t = some v → lkp cx1.env0 t = some v ∧ v.lowN nx = true
  h_envB : ∀ t v, lkp envB t = some v → lkp cx1.env0 t = some v ∧ v.lowN nx = true
  h_roots : ∀ r x, r ∉ rsKeys ids nx Γ.roots → rootOf cxB ⟨[], ρB, 0, 0⟩ r = some x → rootOf cx1 st2 r = some x ∧ r < nx ∧ x.lowN nx ∧ lkp st2.roots r = none
  h_hi : ∀ r, nx ≤ r → lkp ρB r = none ∧ lkp cxB.roots0 r = none
  h_row0 : ∀ r v w s md hl t xs, lkp st2.roots r = some (.row v w s md hl t xs) → lkp cxB.roots0 r = none
  h_cell0 : ∀ j i cs cs3, nthI ids j = some i → lkp st2.roots i.r = some (.cell cs) → (modeOf ids i.r).isRo = false → cs3.length = cs.length → (∀ o : Nat, cs3[o]? = some SV.lk → cs[o]? = some SV.lk) →
    (rawC cs3 (rawOf raw i.r)).length = cs.length ∧ (∀ ρ0, lkp cxB.roots0 i.r = some ρ0 → ∃ cs0, ρ0 = .cell cs0 ∧ cs.length = cs0.length) ∧
    ∃ F, jnR (some (.cell (rawC cs3 (rawOf raw i.r)))) (lkp cxB.roots0 i.r) = some (.cell F) ∧ F.length = cs.length ∧ (∀ (o : Nat) v, cs3[o]? = some v → v ≠ .lk → F[o]? = some v) ∧ (∀ (o : Nat) v, cs3[o]? = some SV.lk → F[o]? = some v → (cellsOf cx1 i.r cs)[o]? = some v ∧ v.lowN nx = true)
  h_nd : (ρB.map Prod.fst).Nodup ∧ ∀ r, r ∈ ρB.map Prod.fst → (modeOf ids r).isRo = true
  h_lkc : ∀ r ρ ρ0, lkp ρB r = some ρ → lkp cxB.roots0 r = some ρ0 → ∃ cs cs0, ρ = .cell cs ∧ ρ0 = .cell cs0 ∧ cs.length = cs0.length
  h_mc : mcB < nx ∧ mcB = st2.mc ∨ mcB = nx
  h_lkd : ∀ r, (∃ x, lkp ρB r = some x) ∨ nx ≤ r → ¬ B.lk r
  h_dj : ∀ t s, (t, s) ∈ Γ.env → lkp cxB.env0 t = none
  h_djB : ∀ t v, lkp cxB.env0 t = some v → lkp envB t = none
open Classical in
theorem Gam.land (H : Gam B cx1 st2 L2 Es E h n) (D : LandOk B cx1 cxB st2 ids Γ nx mcB envB ρB raw) {K1 : List DV → Option α} (hk : Shape.pack ids cx1 st2 Γ K1 = some j) :
    ∃ ds, K1 ds = some j ∧ ∀ {β : Type} {y : β} {K2 : St → Option β}, Shape.unpack ids Γ envB ρB raw nx mcB ds K2 = some y → ∃ st3 L3, K2 st3 = some y ∧ Gam B cxB st3 L3 Es E h n := by
  unfold Shape.pack at hk
  obtain ⟨dsE, nm1, NA1, q1, q2, q3, q4, pE, pEl⟩ := packE_ok (ids := ids) H Γ.env (nm := ⟨[], [], []⟩) (NA := []) ⟨fun q x hq => (by cases hq), fun q _ => rfl, fun r hr => by cases hr⟩ hk
  obtain ⟨dsR, nm, NA, r1, r2, r3, r4, pR⟩ := packR_ok (ids := ids) H Γ.roots q2 q1
  have pE := pE.mono r3
  obtain ⟨g1, g2⟩ := bif_some r1
  simp only [Bool.and_eq_true] at g1
  obtain ⟨⟨gnd, gfz⟩, gnm⟩ := g1
  have gnd := nodupN_iff.1 gnd
  have gnm := nodupN_iff.1 gnm
  obtain ⟨gfz, glive⟩ := fzOk_own gfz
  have ndK : (keepIds ids Γ.roots).Nodup := (List.nodup_append.1 (List.nodup_append.1 gnd).1).1
  have ndN : (nmIds nm.rows).Nodup := (List.nodup_append.1 (List.nodup_append.1 gnd).1).2.1
  have ndC : (nmCs nm.cells).Nodup := (List.nodup_append.1 gnd).2.1
  have djKN : ∀ a, a ∈ keepIds ids Γ.roots → a ∈ nmIds nm.rows → False := fun a h1 h2 => (List.nodup_append.1 (List.nodup_append.1 gnd).1).2.2 a h1 a h2 rfl
  have djKC : ∀ a, a ∈ keepIds ids Γ.roots → a ∈ nmCs nm.cells → False := fun a h1 h2 => (List.nodup_append.1 gnd).2.2 a (List.mem_append_left _ h1) a h2 rfl
  refine ⟨dsE ++ dsR, g2, fun {β y K2} hu => ?_⟩
  unfold Shape.unpack at hu
  obtain ⟨e3, ds2, ue, env3, u1, ueM2⟩ := unpackE_syn Γ.env hu
  obtain ⟨rfl, ueM⟩ := UE.mem (dsT := dsE ++ dsR) (pre := []) pE rfl ue
  obtain ⟨l3, ur, u3⟩ := unpackR_syn Γ.roots u1
  obtain ⟨keys3, kept⟩ := ur.keys
  have info := UR.mem (rs0 := Γ.roots) (dsT := dsE ++ ds2) (pre := dsE) pR rfl (fun _ h => h) ur
  have keepMem : ∀ {j i}, nthI ids j = some i → ((∃ l, RS.cell j l ∈ Γ.roots) ∨ ∃ kw, RS.rowK j kw ∈ Γ.roots) → i.r ∈ keepIds ids Γ.roots := fun {j i} hi hq => by
    have : ∀ {rs : List RS}, ((∃ l, RS.cell j l ∈ rs) ∨ ∃ kw, RS.rowK j kw ∈ rs) → i.r ∈ keepIds ids rs := by
      intro rs
      induction rs with
      | nil => intro hq; rcases hq with ⟨l, hl⟩ | ⟨k, hk⟩; cases hl; cases hk
      | cons c rs ih =>
        intro hq
        rcases hq with ⟨l, hl⟩ | ⟨k, hk⟩
        · rcases List.mem_cons.1 hl with rfl | hl
          · simp [keepIds, hi]
          · have := ih (.inl ⟨l, hl⟩)
            cases c <;> simp [keepIds, this]
        · rcases List.mem_cons.1 hk with rfl | hk
          · simp [keepIds, hi]
          · have := ih (.inr ⟨k, hk⟩)
            cases c <;> simp [keepIds, this]
    exact this hq
  have keepLt : ∀ r, r ∈ keepIds ids Γ.roots → r < nx := fun r hr => by
    have : ∀ {rs : List RS}, (∀ j, (∃ l, RS.cell j l ∈ rs) ∨ (∃ kw, RS.rowK j kw ∈ rs) → ∃ i, nthI ids j = some i) → r ∈ keepIds ids rs → r < nx := by
      intro rs
      induction rs with
      | nil => intro _ hq; cases hq
      | cons c rs ih =>
        intro hall hq
        have ih' := ih fun j hj => hall j (hj.imp (fun ⟨l, hl⟩ => ⟨l, List.mem_cons_of_mem _ hl⟩) fun ⟨k, hk⟩ => ⟨k, List.mem_cons_of_mem _ hk⟩)
        cases c with
        | cell j l =>
          obtain ⟨i, hi⟩ := hall j (.inl ⟨l, by simp⟩)
          simp only [keepIds, hi, List.mem_cons] at hq
          rcases hq with rfl | hq
          · exact (D.h_ids j i hi).1
          · exact ih' hq
        | rowK j kw =>
          obtain ⟨i, hi⟩ := hall j (.inr ⟨kw, by simp⟩)
          simp only [keepIds, hi, List.mem_cons] at hq
          rcases hq with rfl | hq
          · exact (D.h_ids j i hi).1
          · exact ih' hq
        | cellN q l => exact ih' hq
        | row q o t => exact ih' hq
    exact this kept hr
  have nd3 : (rsKeys ids nx Γ.roots).Nodup := rsKeys_nodup ndK gnm keepLt
  let Xz : Nat → Prop := fun r => Src.own r ∈ nm.fz
  let Xf : Nat → Prop := fun r => (∃ q t pc d, RS.row q false t ∈ Γ.roots ∧ lkp nm.rows q = some ⟨some r, pc, true, d⟩) ∨ ∃ j kw i v w s t, ∃ xs : List t.den, RS.rowK j kw ∈ Γ.roots ∧ nthI ids j = some i ∧ i.r = r ∧ i.md = .flat ∧ lkp st2.roots r = some (.row v w s .own none t xs)
  have entRow : ∀ {q r pc o d}, lkp nm.rows q = some ⟨some r, pc, o, d⟩ → ∃ t, ∃ ys : List t.den, ∃ a v w s md, ∃ xs : List t.den, d = ⟨.list t, ys⟩ ∧ lkp NA q = some a ∧ lkp st2.roots r = some (.row v w s md none t xs) ∧ md.isFz = false ∧ o = md.isOwn ∧ ((pc = false ∧ ys = xs ∧ a = L2.A r) ∨ pc = true ∧ ∃ i j ex, slcI xs i j = some ys ∧ a = pieceA (L2.A r) i.toNat j.toNat ex) := fun {q r pc o d} hq => by
    obtain ⟨a, m1, m2⟩ := r2.rows q _ hq
    obtain ⟨t', ys⟩ := d
    cases t' with
    | list t =>
      obtain ⟨v, w, s, md, xs, n1, n2, n3, n4⟩ := m2
      exact ⟨t, ys, a, v, w, s, md, xs, rfl, m1, n1, n2, n3, n4⟩
    | _ => exact m2.elim
  have hXf : ∀ r, Xf r → ∃ v w s t xs, lkp st2.roots r = some (.row v w s .own none t xs) := fun r hr => by
    rcases hr with ⟨q, t, pc, d, _, h2⟩ | ⟨j, kw, i, v, w, s, t, xs, _, _, _, _, h5⟩
    · obtain ⟨t, ys, a, v, w, s, md, xs, _, _, n1, n2, n3, _⟩ := entRow h2
      have : md = .own := by cases md <;> first | rfl | cases n3
      subst this
      exact ⟨v, w, s, t, xs, n1⟩
    · exact ⟨v, w, s, t, xs, h5⟩
  have srcRow : ∀ r, Xz r → ∃ v w s md t xs, lkp st2.roots r = some (.row v w s md none t xs) := fun r hr => by
    obtain ⟨⟨x, hx⟩, _⟩ := gfz r hr
    have hsrc := r2.src r hr
    obtain ⟨v, w, s, md, t, xs, hq⟩ := hsrc
    cases x with
    | row v' w' s' md' hl' t' xs' =>
      have h0 : lkp cx1.roots0 r = none := by
        cases hz : lkp cx1.roots0 r with
        | none => rfl
        | some ρ => obtain ⟨_, _, h1, _⟩ := H.lkc r _ _ hx hz; cases h1
      rw [rootOf_jn, hx, h0] at hq
      cases hq
      exact ⟨_, _, _, _, _, _, hx⟩
    | cell cs =>
      rw [rootOf_cell hx] at hq; cases hq
  have hnmSt : ∀ {q r pc o d}, lkp nm.rows q = some ⟨some r, pc, o, d⟩ → r ∈ nmIds nm.rows := fun hq => nmIds_mem hq
  have XfIn : ∀ r, Xf r → r ∈ keepIds ids Γ.roots ++ nmIds nm.rows ++ nmCs nm.cells := fun r hr => by
    rcases hr with ⟨q, t, pc, d, _, h2⟩ | ⟨j, kw, i, v, w, s, t, xs, h1, h2, rfl, _⟩
    · exact List.mem_append_left _ (List.mem_append_right _ (nmIds_mem h2))
    · exact List.mem_append_left _ (List.mem_append_left _ (keepMem h2 (.inr ⟨kw, h1⟩)))
  have hd : ∀ r, Xf r → ¬ Xz r := fun r h1 h2 => (gfz r h2).2 (XfIn r h1)
  obtain ⟨ρ', L', hl, hfst, G, eA, eC, eU, eF, eZ, eR, eft, etv⟩ := H.reMd Xf Xz hXf srcRow hd
  have c0 : ∀ {r x}, lkp st2.roots r = some x → x.isC = false → lkp cx1.roots0 r = none := fun {r x} h1 h2 => by
    cases hz : lkp cx1.roots0 r with
    | none => rfl
    | some ρ => obtain ⟨_, _, h3, _⟩ := H.lkc r _ _ h1 hz; subst h3; cases h2
  have rtRow : ∀ {r v w s md t} {xs : List t.den}, lkp st2.roots r = some (.row v w s md none t xs) → rootOf cx1 st2 r = some (.row v w s md none t xs) := fun h1 => by rw [rootOf_jn, h1, c0 h1 rfl]; rfl
  have rtRow' : ∀ {r v w s md t} {xs : List t.den}, lkp st2.roots r = some (.row v w s md none t xs) → ¬ Xz r → rootOf cx1 ⟨st2.env, ρ', st2.nx, st2.mc⟩ r = some (.row v w s (if Xf r then .flat else md) none t xs) := fun {r v w s md t xs} h1 h2 => by
    rw [rootOf_jn]
    simp only [hl, h1, c0 h1 rfl, Option.map_some, Go.Proofs.Ytcngfjmfgeckmaa.reMd, if_neg h2]
    by_cases hx : Xf r
    · simp only [if_pos hx]; rfl
    · simp only [if_neg hx]; rfl
  have noX : ∀ r, (∀ v w s md t, ∀ xs : List t.den, lkp st2.roots r ≠ some (.row v w s md none t xs)) → ¬ Xf r ∧ ¬ Xz r := fun r hr => ⟨fun h1 => by
      obtain ⟨v, w, s, t, xs, k⟩ := hXf r h1
      exact hr _ _ _ _ _ _ k, fun h1 => by
      obtain ⟨v, w, s, md, t, xs, k⟩ := srcRow r h1
      exact hr _ _ _ _ _ _ k⟩
  have rtNo : ∀ r, lkp st2.roots r = none → rootOf cx1 ⟨st2.env, ρ', st2.nx, st2.mc⟩ r = rootOf cx1 st2 r := fun r h1 => by rw [rootOf_jn, rootOf_jn]; simp only [hl, h1]; rfl
  have rtCell : ∀ {r cs}, lkp st2.roots r = some (.cell cs) → rootOf cx1 ⟨st2.env, ρ', st2.nx, st2.mc⟩ r = some (.cell (cellsOf cx1 r cs)) := fun {r cs} h1 => rootOf_cell (by simp only [hl, h1]; rfl)
  have hQ : ∀ q, ∃ I : Ids0, ∀ own t, ∀ xs : List t.den, ∀ a, RS.row q own t ∈ Γ.roots → RowNm nm.rows q own t xs → lkp NA q = some a → RowB (Md.of own) L'.F h t xs a I ∧ ∀ z, I z → ∃ r pc o d, lkp nm.rows q = some ⟨some r, pc, o, d⟩ ∧ L'.ft r z := fun q => by
    cases hq : lkp nm.rows q with
    | none => exact ⟨fun _ => False, fun own t xs a _ hx _ => by rcases hx with ⟨_, _, _, k, _⟩ | ⟨_, _, _, k, _⟩ <;> (rw [hq] at k; cases k)⟩
    | some x =>
      obtain ⟨xr, pc, o, d⟩ := x
      cases xr with
      | none =>
        refine ⟨fun _ => False, fun own t xs a _ hx ha => ?_⟩
        rcases hx with ⟨_, _, _, k, rfl⟩ | ⟨_, _, _, k, _⟩
        · obtain ⟨a', m1, m2⟩ := r2.rows q _ hq
          have m3 : a' = .nils := m2
          rw [ha] at m1
          cases m1
          exact ⟨.inl ⟨m3, rfl, fun _ hq => hq⟩, fun _ hq => hq.elim⟩
        · rw [hq] at k; cases k
      | some r =>
        obtain ⟨t0, ys, a0, v, w, s, md, xs0, rfl, n1, n2, n3, n4, n5⟩ := entRow hq
        by_cases hex : ∃ own t, RS.row q own t ∈ Γ.roots
        · obtain ⟨own, t, hm⟩ := hex
          have hin : r ∈ nmIds nm.rows := nmIds_mem hq
          have hnz : ¬ Xz r := fun hz => (gfz r hz).2 (List.mem_append_left _ (List.mem_append_right _ hin))
          have rt1 := rtRow' n2 hnz
          have hro : RowOk L' h r (if Xf r then .flat else md) none t0 xs0 := G.th r _ rt1
          have kind : ∀ o2, RS.row q o2 t ∈ Γ.roots → (o2 = true → o = true) → (if Xf r then Md.flat else md) = Md.of o2 := fun o2 hm2 hle => by
            cases o2 with
            | true =>
              have ho := hle rfl
              have hmd : md = .own := by cases md <;> first | rfl | (rw [n4] at ho; cases ho)
              rw [if_neg, hmd]
              · rfl
              · rintro (⟨q', t', pc', d', h1, h2⟩ | ⟨j, kw, i, v', w', s', t', xs', h1, h2, h3, _⟩)
                · obtain rfl := nmIds_inj ndN h2 hq
                  have := (rsRow_uniq gnm h1 hm2).1
                  cases this
                · exact djKN r (h3 ▸ keepMem h2 (.inr ⟨kw, h1⟩)) hin
            | false =>
              cases o with
              | true => rw [if_pos]; rfl; exact .inl ⟨q, t, pc, _, hm2, hq⟩
              | false =>
                have hmd : md = .flat := by cases md <;> first | rfl | (cases n4; done) | (cases n3; done)
                rw [hmd]; split <;> rfl
          have key : ∀ {md' : Md}, md'.isFz = false → RowOk L' h r md' none t0 xs0 → ∃ I, RowB md' L'.F h t0 ys a0 I ∧ ∀ z, I z → L'.ft r z := fun {md'} hf hok => by
            rcases n5 with ⟨_, rfl, rfl⟩ | ⟨_, i, j, ex, m1, rfl⟩
            · exact ⟨_, by rw [← eA]; exact hok.rowB hf, fun _ hz => hz⟩
            · obtain ⟨I, k1, k2⟩ := (hok.rowB hf).pieceE m1 ex
              exact ⟨I, by rw [← eA]; exact k1, k2⟩
          have isfz : (if Xf r then Md.flat else md).isFz = false := by split; rfl; exact n3
          obtain ⟨I, k1, k2⟩ := key isfz hro
          refine ⟨I, fun own' t' xs a hm' hx ha => ?_⟩
          obtain ⟨rfl, rfl⟩ := rsRow_uniq gnm hm hm'
          rw [n1] at ha
          cases ha
          rcases hx with ⟨_, _, _, k, _⟩ | ⟨r', pc', o', k, hle⟩
          · rw [hq] at k; cases k
          · rw [hq] at k
            cases k
            have := kind own hm hle
            rw [this] at k1
            exact ⟨k1, fun z hz => ⟨r, _, _, _, rfl, k2 z hz⟩⟩
        · exact ⟨fun _ => False, fun own t xs a hm _ _ => absurd ⟨own, t, hm⟩ hex⟩
  obtain ⟨fI, hfI⟩ := Classical.axiomOfChoice hQ
  generalize hdsT : dsE ++ ds2 = dsT at *
  let L3 : Lay := { F := L'.F, R := L'.R, A := fun r => if nx < r then (lkp NA (r - (nx + 1))).getD .nils else L'.A r, C := fun r => if nx < r then (match lkp nm.cells (r - (nx + 1)) with | some c => L'.C c | none => 0) else L'.C r, U := fun u => if nx < u then idxD dsT (u - (nx + 1)) else L'.U u, ft := fun r => if nx < r then (if ∃ l, RS.cellN (r - (nx + 1)) l ∈ Γ.roots then (match lkp nm.cells (r - (nx + 1)) with | some c => L'.ft c | none => fun _ => False) else fI (r - (nx + 1))) else L'.ft r }
  have A3 : ∀ r, r < nx → L3.A r = L2.A r := fun r hr => by show (if nx < r then _ else L'.A r) = _; rw [if_neg (by omega), eA]
  have C3 : ∀ r, r < nx → L3.C r = L2.C r := fun r hr => by show (if nx < r then _ else L'.C r) = _; rw [if_neg (by omega), eC]
  have F3 : ∀ r, r < nx → L3.ft r = L'.ft r := fun r hr => by show (if nx < r then _ else L'.ft r) = _; rw [if_neg (by omega)]
  have sub1 : ∀ q, nx + 1 + q - (nx + 1) = q := fun q => by omega
  have A3n : ∀ q, L3.A (nx + 1 + q) = (lkp NA q).getD .nils := fun q => by show (if nx < nx + 1 + q then _ else _) = _; rw [if_pos (by omega), sub1]
  have C3n : ∀ q c, lkp nm.cells q = some c → L3.C (nx + 1 + q) = L2.C c := fun q c hq => by show (if nx < nx + 1 + q then _ else _) = _; rw [if_pos (by omega), sub1, hq, eC]
  have F3c : ∀ q l c, RS.cellN q l ∈ Γ.roots → lkp nm.cells q = some c → L3.ft (nx + 1 + q) = L'.ft c := fun q l c hm hq => by show (if nx < nx + 1 + q then _ else _) = _; rw [if_pos (by omega), sub1, if_pos ⟨l, hm⟩, hq]
  have F3r : ∀ q o t, RS.row q o t ∈ Γ.roots → L3.ft (nx + 1 + q) = fI q := fun q o t hm => by show (if nx < nx + 1 + q then _ else _) = _; rw [if_pos (by omega), sub1, if_neg (fun ⟨l, hl⟩ => rsCell_row gnm hm hl)]
  obtain ⟨st3, hst3⟩ : ∃ st3 : St, st3 = ⟨env3, l3 ++ ρB, nx + 2 + dsT.length + (smE Γ.env + smR Γ.roots), mcB⟩ := ⟨_, rfl⟩
  have e3r : st3.roots = l3 ++ ρB := by rw [hst3]
  have e3n : st3.nx = nx + 2 + dsT.length + (smE Γ.env + smR Γ.roots) := by rw [hst3]
  have e3m : st3.mc = mcB := by rw [hst3]
  have e3e : st3.env = env3 := by rw [hst3]
  have l3nd : (l3.map Prod.fst).Nodup := by rw [keys3]; exact nd3
  have rB : ∀ r, r ∉ rsKeys ids nx Γ.roots → rootOf cxB st3 r = rootOf cxB ⟨[], ρB, 0, 0⟩ r := fun r hr => by
    rw [rootOf_jn, rootOf_jn, e3r, lkp_app, lkp_none (by rw [keys3]; exact hr)]
  have in3 : ∀ r, r ∈ rsKeys ids nx Γ.roots → ∃ x, (r, x) ∈ l3 ∧ lkp st3.roots r = some x := fun r hr => by
    rw [← keys3] at hr
    obtain ⟨b, hb⟩ := mem_lkp hr
    exact ⟨b, lkp_mem hb, by rw [e3r, lkp_app, hb]⟩
  have cls : ∀ r x, rootOf cxB st3 r = some x → (r ∉ rsKeys ids nx Γ.roots ∧ rootOf cx1 st2 r = some x ∧ r < nx ∧ x.lowN nx ∧ lkp st2.roots r = none) ∨ (∃ x0, Info ids (rootOf cx1 st2) L2 h st2.roots nm.fz NA nm.cells nm.rows nx mcB raw dsT Γ.roots r x0 ∧ jnR (some x0) (lkp cxB.roots0 r) = some x) := fun r x hx => by
    by_cases hr : r ∈ rsKeys ids nx Γ.roots
    · obtain ⟨x0, m1, m2⟩ := in3 r hr
      rw [rootOf_jn, m2] at hx
      exact .inr ⟨x0, info r x0 m1, hx⟩
    · rw [rB r hr] at hx
      exact .inl ⟨hr, D.h_roots r x hr hx⟩
  have hi0 : ∀ q, lkp cxB.roots0 (nx + 1 + q) = none := fun q => (D.h_hi _ (by omega)).2
  have T : Tr nx L2 L3 (rootOf cx1 st2) (rootOf cxB st3) st2.mc mcB h h := {
    F := eF
    R := fun hm => by
      rcases D.h_mc with ⟨_, h2⟩ | h2
      · exact ⟨h2, eR⟩
      · omega
    U := fun u hu => by show (if nx < u then _ else L'.U u) = _; rw [if_neg (by omega), eU]
    row := fun r v w s md hl' t xs hx h1 h2 => by
      rcases cls r _ hx with ⟨_, k1, _⟩ | ⟨x0, k1, k2⟩
      · exact ⟨w, s, md, hl', xs, k1, A3 r h1, rfl, fun _ => ⟨rfl, rfl⟩, fun _ => ⟨rfl, fun _ _ _ _ _ hc => hc⟩⟩
      · cases k1 with
        | cell j l i cs cs3 => cases hz : lkp cxB.roots0 i.r with
          | none => rw [hz] at k2; cases k2
          | some y => rw [hz] at k2; cases y <;> cases k2
        | cellN q l c cs cs3 => rw [hi0] at k2; cases k2
        | row q => omega
        | rowK j kw i w0 s0 w3 md0 xs0 hm hi hk hmd hw hro =>
          rw [D.h_row0 _ _ _ _ _ _ _ _ hk] at k2
          cases k2
          refine ⟨w0, s0, md0, none, _, rtRow hk, A3 _ h1, rfl, fun hq => by omega, fun hq => ?_⟩
          rcases hw with ⟨hw1, hw2⟩ | hw1
          · exact ⟨by rw [hw1, hw2], fun _ _ _ _ _ hc => hc⟩
          · omega
    cell := fun r cs hx h1 => by
      rcases cls r _ hx with ⟨_, k1, _⟩ | ⟨x0, k1, k2⟩
      · exact ⟨cs, k1, rfl, C3 r h1⟩
      · cases k1 with
        | cell j l i cs0 cs3 e ds pre rest hm hi hk hro he hc hll hlk =>
          obtain ⟨_, _, F, f1, f2, _⟩ := D.h_cell0 j i cs0 cs3 hi hk hro hll hlk
          rw [f1] at k2
          cases k2
          exact ⟨_, rootOf_cell hk, by rw [f2, cells_len H hk rfl], C3 _ h1⟩
        | cellN q => omega
        | row q => omega
        | rowK j kw i w0 s0 w3 md0 xs0 hm hi hk => rw [D.h_row0 _ _ _ _ _ _ _ _ hk] at k2; cases k2 }
  have lnd : Lnd ids (rootOf cx1 st2) L2 h nm.fz NA nm.cells nx mcB L3 (rootOf cxB st3) dsT st3.nx := {
    fz := fun v a hv => by
      rcases hv with hv | ⟨c, hc, hv⟩
      · exact hv.mono eF
      · cases c with
        | fr => exact Fz.mono eF hv
        | live => exact absurd hc glive
        | own r => exact hv.2 L'.F eF (eZ r · · hc)
    F := eF
    R := eR
    nm := fun q a ha v w s md hl' t xs _ => by rw [A3n, ha]; rfl
    cl := fun q c hq cs3 hx => by
      rcases cls _ _ hx with ⟨_, _, k1, _⟩ | ⟨x0, k1, k2⟩
      · omega
      · generalize hr : nx + 1 + q = r at k1 k2
        cases k1 with
        | cell j l i cs0 cs3' e ds pre rest hm hi hk => have := (D.h_ids j i hi).1; omega
        | rowK j kw i w0 s0 w3 md0 xs0 hm hi hk => have := (D.h_ids j i hi).1; omega
        | row q' => rw [hi0] at k2; cases k2
        | cellN q' l c' cs cs3' e ds pre rest hm hq' hk he hc hll hlk =>
          obtain rfl : q = q' := by omega
          rw [hi0] at k2
          cases k2
          rw [hq] at hq'
          cases hq'
          exact ⟨_, rootOf_cell hk, by rw [hll, cells_len H hk rfl], C3n q c hq⟩
    row := fun j i hi w s md hl' t xs hx => by
      obtain ⟨i1, i2, _⟩ := D.h_ids j i hi
      obtain ⟨w0, s0, md0, hl0, xs0, k1, k2, k3, k4, k5⟩ := T.row _ _ _ _ _ _ _ _ hx i1 i2
      refine ⟨w0, s0, md0, hl0, xs0, k1, k2, k3, ?_⟩
      rcases cls _ _ hx with ⟨_, _, _, k6, _⟩ | ⟨x0, k6, k7⟩
      · have := k6.2.2.1; omega
      · generalize hr : i.r = r at k6 k7
        cases k6 with
        | cell j' l i' cs cs3 => cases hz : lkp cxB.roots0 i'.r with
          | none => rw [hz] at k7; cases k7
          | some y => rw [hz] at k7; cases y <;> cases k7
        | cellN q => omega
        | row q => omega
        | rowK j' kw i' w1 s1 w3 md1 xs1 hm hi' hk =>
          rw [D.h_row0 _ _ _ _ _ _ _ _ hk] at k7
          have hs : nx + 1 = s := congrArg (fun x : Option Root => match x with | some (.row _ _ s _ _ _ _) => s | _ => 0) k7
          omega
    cell := fun j i hi cs hx => T.cell _ _ hx (D.h_ids j i hi).1
    U := fun m hm => by show (if nx < nx + 1 + m then _ else _) = _; rw [if_pos (by omega), sub1]
    low := fun j i hi => ⟨(D.h_ids j i hi).1, (D.h_ids j i hi).2.1⟩
    mcF := by rw [e3n]; rcases D.h_mc with ⟨h1, _⟩ | h1 <;> omega }
  have old : ∀ v a, TV L2 (rootOf cx1 st2) st2.mc h v a → v.lowN nx = true → TV L3 (rootOf cxB st3) mcB h v a ∧ v.lowN st3.nx = true := fun v a hv hl => ⟨hv.tr T hl, lowN_mono (by rw [e3n]; omega) v hl⟩
  have cellV : ∀ {l : List SK} {asl : List AV} {ds rest pre : List DV} {cs3 : List SV}, PVs ids (rootOf cx1 st2) L2 h nm.fz NA nm.cells l asl ds → dsT = pre ++ (ds ++ rest) → SK.sms l ≤ smR Γ.roots → SK.unpacks ids nx mcB l (ds ++ rest) (fun a b => some (a, b)) = some (cs3, rest) →
      asl.length = cs3.length ∧ SV.lowNs st3.nx cs3 = true ∧ ∀ (o : Nat) v a, cs3[o]? = some v → asl[o]? = some a → v = .lk ∨ TV L3 (rootOf cxB st3) mcB h v a := fun {l asl ds rest pre cs3} p1 p2 p3 p4 => by
    obtain ⟨vs, m1, m2, m3, m4⟩ := unpacks_ok lnd p1 (pre := pre) p2 (by rw [e3n]; omega) p4
    cases m1
    refine ⟨m2.1, m4, fun o v a h1 h2 => ?_⟩
    have ho : o < l.length := by rw [← m2.2]; exact (List.getElem?_eq_some_iff.1 h2).1
    exact (m3 o l[o] v a (List.getElem?_eq_getElem ho) h1 h2).imp (·.2) id
  have low0 : nx < st3.nx := by rw [e3n]; omega
  have whence : ∀ r x z, rootOf cxB st3 r = some x → L3.ft r z → ∃ s y, rootOf cx1 ⟨st2.env, ρ', st2.nx, st2.mc⟩ s = some y ∧ L'.ft s z ∧ x.isC = y.isC ∧
      ((r < nx ∧ r = s ∧ (lkp st2.roots s = none ∨ s ∈ keepIds ids Γ.roots)) ∨ (∃ q pc o d v w s0 md t, ∃ xs : List t.den, r = nx + 1 + q ∧ lkp nm.rows q = some ⟨some s, pc, o, d⟩ ∧ lkp st2.roots s = some (.row v w s0 md none t xs)) ∨ ∃ q cs, r = nx + 1 + q ∧ lkp nm.cells q = some s ∧ lkp st2.roots s = some (.cell cs)) := fun r x z hx hz => by
    rcases cls r x hx with ⟨_, k1, k2, _, k3⟩ | ⟨x0, k1, k2⟩
    · rw [F3 r k2] at hz
      exact ⟨r, x, by rw [rtNo r k3]; exact k1, hz, rfl, .inl ⟨k2, rfl, .inl k3⟩⟩
    · cases k1 with
      | cell j l i cs cs3 e ds pre rest hm hi hk hro he hc hll hlk =>
        obtain ⟨_, _, F, f1, f2, _⟩ := D.h_cell0 j i cs cs3 hi hk hro hll hlk
        rw [f1] at k2
        cases k2
        rw [F3 _ (D.h_ids j i hi).1] at hz
        exact ⟨_, _, rtCell hk, hz, rfl, .inl ⟨(D.h_ids j i hi).1, rfl, .inr (keepMem hi (.inl ⟨l, hm⟩))⟩⟩
      | cellN q l c cs cs3 e ds pre rest hm hq hk he hc hll hlk =>
        rw [hi0] at k2
        cases k2
        rw [F3c q l c hm hq] at hz
        exact ⟨c, _, rtCell hk, hz, rfl, .inr (.inr ⟨q, cs, rfl, hq, hk⟩)⟩
      | row q o t xs hm hxx =>
        rw [hi0] at k2
        cases k2
        rw [F3r q o t hm] at hz
        have hNA : ∃ a, lkp NA q = some a := by
          rcases hxx with ⟨_, _, _, k, _⟩ | ⟨_, _, _, k, _⟩
          · obtain ⟨a, m, _⟩ := r2.rows q _ k; exact ⟨a, m⟩
          · obtain ⟨a, m, _⟩ := r2.rows q _ k; exact ⟨a, m⟩
        obtain ⟨a, ha⟩ := hNA
        obtain ⟨r0, pc, o', d, m1, m2⟩ := (hfI q o t xs a hm hxx ha).2 z hz
        obtain ⟨t0, ys, a0, v, w, s0, md, xs0, _, _, n2, n3, _⟩ := entRow m1
        have hnz : ¬ Xz r0 := fun hz => (gfz r0 hz).2 (List.mem_append_left _ (List.mem_append_right _ (nmIds_mem m1)))
        exact ⟨r0, _, rtRow' n2 hnz, m2, rfl, .inr (.inl ⟨q, pc, o', d, v, w, s0, md, t0, xs0, rfl, m1, n2⟩)⟩
      | rowK j kw i w0 s0 w3 md0 xs0 hm hi hk hmd hw hro =>
        rw [D.h_row0 _ _ _ _ _ _ _ _ hk] at k2
        cases k2
        rw [F3 _ (D.h_ids j i hi).1] at hz
        have hin := keepMem hi (.inr ⟨kw, hm⟩)
        have hnz : ¬ Xz i.r := fun hz => (gfz i.r hz).2 (List.mem_append_left _ (List.mem_append_left _ hin))
        exact ⟨_, _, rtRow' hk hnz, hz, rfl, .inl ⟨(D.h_ids j i hi).1, rfl, .inr hin⟩⟩
  have aps : ∀ r r' x x' z, rootOf cxB st3 r = some x → rootOf cxB st3 r' = some x' → L3.ft r z → L3.ft r' z → r = r' := fun r r' x x' z h1 h2 h3 h4 => by
    obtain ⟨s, y, k1, k2, _, k3⟩ := whence r x z h1 h3
    obtain ⟨s', y', m1, m2, _, m3⟩ := whence r' x' z h2 h4
    obtain rfl := G.ap s s' y y' z k1 m1 k2 m2
    rcases k3 with ⟨_, a2, a3⟩ | ⟨q, pc, o, d, v, w, s0, md, t, xs, b1, b2, b3⟩ | ⟨q, cs, c1, c2, c3⟩
    · rcases m3 with ⟨_, a2', _⟩ | ⟨q, pc, o, d, v, w, s0, md, t, xs, b1, b2, b3⟩ | ⟨q, cs, c1, c2, c3⟩
      · exact a2.trans a2'.symm
      · rcases a3 with a3 | a3
        · rw [b3] at a3; cases a3
        · exact (djKN s a3 (nmIds_mem b2)).elim
      · rcases a3 with a3 | a3
        · rw [c3] at a3; cases a3
        · exact (djKC s a3 (nmCs_mem c2)).elim
    · rcases m3 with ⟨_, a2', a3⟩ | ⟨q', pc', o', d', v', w', s0', md', t', xs', b1', b2', b3'⟩ | ⟨q', cs, c1, c2, c3⟩
      · rcases a3 with a3 | a3
        · rw [b3] at a3; cases a3
        · exact (djKN s a3 (nmIds_mem b2)).elim
      · obtain rfl := nmIds_inj ndN b2 b2'
        rw [b1, b1']
      · rw [b3] at c3; cases c3
    · rcases m3 with ⟨_, a2', a3⟩ | ⟨q', pc', o', d', v', w', s0', md', t', xs', b1', b2', b3'⟩ | ⟨q', cs', c1', c2', c3'⟩
      · rcases a3 with a3 | a3
        · rw [c3] at a3; cases a3
        · exact (djKC s a3 (nmCs_mem c2)).elim
      · rw [c3] at b3'; cases b3'
      · obtain rfl := nmCs_inj ndC c2 c2'
        rw [c1, c1']
  have keepTV : ∀ {c : Nat} {cs : List SV} {e : AV}, lkp st2.roots c = some (.cell cs) → h (L2.C c) = some [e] → e.good = true ∧ (∀ u, u ∈ e.cells → u.one = true) ∧ 0 < cs.length ∧ TVs L2 (rootOf cx1 st2) st2.mc h (cellsOf cx1 c cs) e.cells ∧ ∀ i, L2.ft c i ↔ i = L2.C c := fun {c cs e} hc he => by
    obtain ⟨e', k1, k2, k3, k4, k5, k6⟩ := H.th _ _ (rootOf_cell (cx := cx1) hc)
    rw [he] at k1
    cases k1
    exact ⟨k2, k3, by rw [← cells_len H hc rfl]; exact k4, k5, k6⟩
  have cellNoX : ∀ {c : Nat} {cs : List SV}, lkp st2.roots c = some (.cell cs) → L'.ft c = L2.ft c := fun {c cs} hc => by
    obtain ⟨n1, n2⟩ := noX c fun v w s md t xs hq => by rw [hc] at hq; cases hq
    exact eft c n1 n2
  refine ⟨st3, L3, by rw [hst3]; exact u3, ?_⟩
  have G3 : Gam B cxB st3 L3 Es E h n := by
    refine ⟨G.f0, G.fh, G.gh, G.fr, G.rh, G.fnew, G.hlt, G.nn, fun r x hx => ?_, fun r x hx => ?_, aps, fun r x z hx hz => ?_, fun r v w s md hl' t xs z hx hz => ?_, fun r cs z hx hz => ?_, fun t v hv => ?_, fun t v hv => ?_, fun i fr E' h1 h2 t v hv => ?_, fun t v hv => ?_, by rw [D.h_fr]; exact H.frl, by rw [e3m, e3n]; rcases D.h_mc with ⟨h1, _⟩ | h1 <;> omega, ?_, fun r hr => ?_, fun r x x0 h1 h2 => ?_⟩
    · rw [e3m]
      rcases cls r x hx with ⟨_, k1, k2, k4, k3⟩ | ⟨x0, k1, k2⟩
      · obtain ⟨n1, n2⟩ := noX r fun v w s md t xs hq => by rw [k3] at hq; cases hq
        exact ThOk.keep T (A3 r k2) (C3 r k2) ((F3 r k2).trans (eft r n1 n2)) (fun _ _ => rfl) k4 (H.th r x k1)
      · cases k1 with
        | cell j l i cs cs3 e ds pre rest hm hi hk hro he hc hll hlk hdd huu =>
          obtain ⟨_, _, F, f1, f2, f3, f4⟩ := D.h_cell0 j i cs cs3 hi hk hro hll hlk
          rw [f1] at k2
          cases k2
          obtain ⟨g1, g2, g3, g4, g5⟩ := keepTV hk he
          obtain ⟨v1, v2, v3⟩ := cellV hc hdd (smR_cell hm) huu
          have hir := (D.h_ids j i hi).1
          refine ⟨e, by rw [C3 _ hir]; exact he, g1, g2, by rw [f2]; exact g3, TVs.of (by rw [f2, v1, hll]) fun o v a h1 h2 => ?_, by rw [F3 _ hir, C3 _ hir, cellNoX hk]; exact g5⟩
          have ho : o < cs3.length := by rw [← v1]; exact (List.getElem?_eq_some_iff.1 h2).1
          have hco := List.getElem?_eq_getElem ho
          by_cases hq : cs3[o] = .lk
          · rw [hq] at hco
            obtain ⟨m1, m2⟩ := f4 o v hco h1
            exact (old v a (g4.getA o v a m1 h2) m2).1
          · have := f3 o _ hco hq
            rw [h1] at this
            cases this
            exact (v3 o _ a hco h2).resolve_left hq
        | cellN q l c cs cs3 e ds pre rest hm hq hk he hc hll hlk hdd huu =>
          rw [hi0] at k2
          cases k2
          obtain ⟨g1, g2, g3, g4, g5⟩ := keepTV hk he
          obtain ⟨v1, v2, v3⟩ := cellV hc hdd (smR_cellN hm).1 huu
          refine ⟨e, by rw [C3n q c hq]; exact he, g1, g2, by rw [hll]; exact g3, TVs.of v1 fun o v a h1 h2 => (v3 o v a h1 h2).resolve_left fun hq' => hlk o (by rw [h1, hq']), by rw [F3c q l c hm hq, C3n q c hq, cellNoX hk]; exact g5⟩
        | row q o t xs hm hxx =>
          rw [hi0] at k2
          cases k2
          have hNA : ∃ a, lkp NA q = some a := by
            rcases hxx with ⟨_, _, _, k, _⟩ | ⟨_, _, _, k, _⟩
            · obtain ⟨a, m, _⟩ := r2.rows q _ k; exact ⟨a, m⟩
            · obtain ⟨a, m, _⟩ := r2.rows q _ k; exact ⟨a, m⟩
          obtain ⟨a, ha⟩ := hNA
          have hb := (hfI q o t xs a hm hxx ha).1
          refine RowB.rowOk (L := L3) ?_ (by cases o <;> rfl)
          rw [F3r q o t hm, A3n, ha]
          exact hb
        | rowK j kw i w0 s0 w3 md0 xs0 hm hi hk hmd hw hro =>
          rw [D.h_row0 _ _ _ _ _ _ _ _ hk] at k2
          cases k2
          have hir := (D.h_ids j i hi).1
          have hin := keepMem hi (.inr ⟨kw, hm⟩)
          have hnz : ¬ Xz i.r := fun hz => (gfz i.r hz).2 (List.mem_append_left _ (List.mem_append_left _ hin))
          have hok : RowOk L' h i.r (if Xf i.r then .flat else md0) none i.t xs0 := G.th _ _ (rtRow' hk hnz)
          have hkind : (if Xf i.r then Md.flat else md0) = i.md := by
            by_cases hx : Xf i.r
            · rw [if_pos hx]
              rcases hx with ⟨q, t, pc, d, _, h2⟩ | ⟨j', kw', i', v, w, s, t, xs, h1, h2, h3, h4, h5⟩
              · exact (djKN i.r hin (nmIds_mem h2)).elim
              · obtain rfl := keep_uniq ndK hm h1 hi h2 h3.symm
                rw [hi] at h2
                cases h2
                exact h4.symm
            · rw [if_neg hx]
              generalize hm1 : i.md = m1 at hmd
              cases m1 <;> cases md0 <;> first | rfl | cases hmd | skip
              exact absurd (.inr ⟨j, kw, i, _, _, _, _, xs0, hm, hi, rfl, hm1, hk⟩) hx
          rw [hkind] at hok
          show RowOk L3 h i.r i.md none i.t xs0
          have hA := A3 _ hir
          have hF := F3 _ hir
          generalize i.md = m1 at hok
          cases m1 with
          | own => show OS L'.F h _ (L3.A i.r) (L3.ft i.r); rw [hA, hF, ← eA]; exact hok
          | flat => show FlatOk L'.F h _ _ (L3.A i.r) (L3.ft i.r); rw [hA, hF, ← eA]; exact hok
          | fz => exact ⟨by rw [hA, ← eA]; exact hok.1, by rw [hF]; exact hok.2⟩
    · rcases cls r x hx with ⟨_, k1, k2, k4, k3⟩ | ⟨x0, k1, k2⟩
      · exact ⟨by omega, Root.low_mono (by omega) k4⟩
      · cases k1 with
        | cell j l i cs cs3 e ds pre rest hm hi hk hro he hc hll hlk hdd huu =>
          obtain ⟨_, _, F, f1, f2, f3, f4⟩ := D.h_cell0 j i cs cs3 hi hk hro hll hlk
          rw [f1] at k2
          cases k2
          obtain ⟨v1, v2, v3⟩ := cellV hc hdd (smR_cell hm) huu
          have hir := (D.h_ids j i hi).1
          refine ⟨by omega, ?_⟩
          have key : ∀ (l : List SV), (∀ (o : Nat) v, l[o]? = some v → v.lowN st3.nx = true) → SV.lowNs st3.nx l = true := by
            intro l hl
            induction l with
            | nil => rfl
            | cons v l ih => simp only [SV.lowNs, Bool.and_eq_true]; exact ⟨hl 0 v rfl, ih fun o w hw => hl (o + 1) w (by simpa using hw)⟩
          refine key F fun o v h1 => ?_
          have ho : o < cs3.length := by rw [hll, ← f2]; exact (List.getElem?_eq_some_iff.1 h1).1
          have hco := List.getElem?_eq_getElem ho
          by_cases hq : cs3[o] = .lk
          · rw [hq] at hco
            exact lowN_mono (Nat.le_of_lt low0) v (f4 o v hco h1).2
          · have := f3 o _ hco hq
            rw [h1] at this
            cases this
            exact lowNs_get v2 hco
        | cellN q l c cs cs3 e ds pre rest hm hq hk he hc hll hlk hdd huu =>
          rw [hi0] at k2
          cases k2
          obtain ⟨v1, v2, v3⟩ := cellV hc hdd (smR_cellN hm).1 huu
          have := (smR_cellN hm).2
          exact ⟨by rw [e3n]; omega, v2⟩
        | row q o t xs hm hxx =>
          rw [hi0] at k2
          cases k2
          have := smR_row hm
          have h9 : nx + 1 + q < st3.nx := by rw [e3n]; omega
          exact ⟨h9, h9, h9, h9, fun u o hq => by cases hq⟩
        | rowK j kw i w0 s0 w3 md0 xs0 hm hi hk hmd hw hro =>
          rw [D.h_row0 _ _ _ _ _ _ _ _ hk] at k2
          cases k2
          obtain ⟨i1, i2, i3⟩ := D.h_ids j i hi
          have h9 : nx + 1 < st3.nx := by rw [e3n]; omega
          refine ⟨by omega, by omega, ?_, h9, fun u o hq => by cases hq⟩
          rcases hw with ⟨hw1, _⟩ | hw1 <;> omega
    · obtain ⟨s, y, k1, k2, _, k4⟩ := whence r x z hx hz
      have hG := G.ftF s y z k1 k2
      have new : (∃ x, lkp st2.roots s = some x) → nx ≤ r → L3.F z = none ∧ B.n0 ≤ z ∧ z < n ∧ (¬ B.lk r → B.G z = none) ∧ (B.lk r → ¬ B.X r z ∧ B.G z = h z) := fun h1 h2 => ⟨hG.1, hG.2.1, hG.2.2.1, fun _ => hG.2.2.2.1 (H.lkd s (.inl h1)), fun hq => absurd hq (D.h_lkd r (.inr h2))⟩
      rcases k4 with ⟨_, k4, _⟩ | ⟨q, _, _, _, _, _, _, _, _, _, k4, _, k5⟩ | ⟨q, _, k4, _, k5⟩
      · rw [k4]; exact hG
      · exact new ⟨_, k5⟩ (by omega)
      · exact new ⟨_, k5⟩ (by omega)
    · obtain ⟨s, y, k1, k2, k3, _⟩ := whence r _ z hx hz
      cases y with
      | cell => cases k3
      | row => exact G.ftR s _ _ _ _ _ _ _ z k1 k2
    · obtain ⟨s, y, k1, k2, k3, _⟩ := whence r _ z hx hz
      cases y with
      | cell => exact G.ftC s _ z k1 k2
      | row => cases k3
    · rw [e3m]
      rw [e3e] at hv
      rcases ueM2 t v hv with hq | hq
      · obtain ⟨s, d, pre', rest', m1, m2, m3, m4⟩ := ueM t v hq
        have := sm_mem m1
        obtain ⟨v3, w1, w2, w3⟩ := unpack_ok lnd m2 (pre := pre') m3 (by rw [e3n]; simp only at this; omega) m4
        cases w1
        exact ⟨w2.resolve_left fun hq => pEl _ m1 hq.1, w3⟩
      · obtain ⟨m1, m2⟩ := D.h_envB t v hq
        exact old v _ (H.env0 t v m1).1 m2
    · rw [e3m]
      obtain ⟨m1, m2⟩ := D.h_env0 t v hv
      exact old v _ (H.env0 t v m1).1 m2
    · rw [e3m]
      rw [D.h_fr] at h1
      exact old v _ (H.frs i fr E' h1 h2 t v hv).1 (D.h_frl i fr h1 t v hv)
    · cases hq : lkp st3.env t with
      | none => rfl
      | some w =>
        exfalso
        rw [e3e] at hq
        rcases ueM2 t w hq with hm | hm
        · obtain ⟨s, d, pre', rest', m1, _⟩ := ueM t w hm
          rw [D.h_dj t s m1] at hv; cases hv
        · rw [D.h_djB t v hv] at hm; cases hm
    · rw [e3r, List.map_append, List.nodup_append]
      refine ⟨l3nd, D.h_nd.1, fun a h1 b h2 hab => ?_⟩
      subst hab
      rw [keys3] at h1
      rcases rsKeys_mem h1 with h3 | ⟨q, rfl, _⟩
      · have := pR.keepRo a h3
        rw [D.h_nd.2 a h2] at this
        cases this
      · obtain ⟨b, hb⟩ := mem_lkp h2
        rw [(D.h_hi _ (by omega)).1] at hb; cases hb
    · rcases hr with ⟨x, hx⟩ | hr
      · rw [e3r, lkp_app] at hx
        cases hq : lkp l3 r with
        | none => rw [hq] at hx; exact D.h_lkd r (.inl ⟨x, hx⟩)
        | some y =>
          cases info r y (lkp_mem hq) with
          | cell j l i cs cs3 e ds pre rest hm hi hk => exact H.lkd _ (.inl ⟨_, hk⟩)
          | cellN q => exact D.h_lkd _ (.inr (by omega))
          | row q => exact D.h_lkd _ (.inr (by omega))
          | rowK j kw i w0 s0 w3 md0 xs0 hm hi hk => exact H.lkd _ (.inl ⟨_, hk⟩)
      · exact D.h_lkd r (.inr (by rw [e3n] at hr; omega))
    · rw [e3r, lkp_app] at h1
      cases hq : lkp l3 r with
      | none => rw [hq] at h1; exact D.h_lkc r x x0 h1 h2
      | some y =>
        rw [hq] at h1
        cases h1
        have hI := info r x (lkp_mem hq)
        cases hI with
        | cell j l i cs cs3 e ds pre rest hm hi hk hro he hc hll hlk =>
          obtain ⟨f0, f1, _⟩ := D.h_cell0 j i cs cs3 hi hk hro hll hlk
          obtain ⟨cs0, k1, k2⟩ := f1 x0 h2
          exact ⟨_, cs0, rfl, k1, f0.trans k2⟩
        | cellN q => rw [hi0] at h2; cases h2
        | row q => rw [hi0] at h2; cases h2
        | rowK j kw i w0 s0 w3 md0 xs0 hm hi hk => rw [D.h_row0 _ _ _ _ _ _ _ _ hk] at h2; cases h2
  exact G3
end
end Go.Proofs.Ytcngfjmfgeckmaa
namespace Go.Proofs.Ytcngfjmfgeckmaa
open Go
section
variable {B : Bas} {L L2 : Lay} {Es : List Env} {E E2 : Env} {h h2 : Heap} {n n2 : Nat} {α : Type} {y : α} {ids : Ids} {Γ : Shape}
variable {env0 env : SEnv} {roots0 ρ : Roots} {frames : List SEnv} {nx mc : Nat} {st2 : St} {ds : List Nat} {keep : Bool}
theorem nthI_mem : ∀ {l : Ids} {j : Nat} {i : Idn}, nthI l j = some i → i ∈ l
  | a :: l, 0, i, h => by cases h; simp
  | a :: l, j + 1, i, h => List.mem_cons_of_mem _ (nthI_mem h)
structure IdsOk (cx : Cx) (st : St) (ids : Ids) : Prop where
  low : ∀ i, i ∈ ids → i.r < st.nx ∧ i.v < st.nx ∧ i.w < st.nx
  cell : ∀ i cs, i ∈ ids → rootOf cx st i.r = some (.cell cs) → i.m ≠ .row
theorem resK_ok {cx : Cx} {st : St} (H : Gam B cx st L Es E h n) : ∀ {l : List (RM × RP)} {k : Ids → Option α}, resK cx st l k = some y → ∃ ids, k ids = some y ∧ IdsOk cx st ids
  | [], k, hk => ⟨[], hk, ⟨fun i hi => (by cases hi), fun i cs hi => by cases hi⟩⟩
  | (m, p) :: l, k, hk => by
    simp only [resK] at hk
    split at hk
    case h_2 => cases hk
    rename_i sv hsv
    split at hk
    case h_2 => cases hk
    rename_i r hr
    have add : ∀ {i : Idn} {x : Root}, rootOf cx st i.r = some x → i.v < st.nx → i.w < st.nx → (∀ cs, x = .cell cs → i.m ≠ .row) → resK cx st l (fun ids => k (i :: ids)) = some y → ∃ ids, k ids = some y ∧ IdsOk cx st ids := fun {i x} h1 h2 h3 h4 h5 => by
      obtain ⟨ids, q1, q2⟩ := resK_ok H h5
      refine ⟨i :: ids, q1, ⟨fun j hj => ?_, fun j cs hj hc => ?_⟩⟩
      · rcases List.mem_cons.1 hj with rfl | hj
        · exact ⟨(H.lowT _ _ h1).1, h2, h3⟩
        · exact q2.low j hj
      · rcases List.mem_cons.1 hj with rfl | hj
        · rw [h1] at hc
          exact h4 cs (Option.some.inj hc)
        · exact q2.cell j cs hj hc
    have hpos : 0 < st.nx := Nat.lt_of_le_of_lt (Nat.zero_le _) H.mcl
    split at hk
    · cases hk
    · rename_i hx _
      have := (H.lowT _ _ hx).2
      exact add hx this.1 this.2.1 (fun cs hq => by cases hq) hk
    · cases hk
    · rename_i hx hm
      exact add hx hpos hpos (fun cs _ hq => hm hq) hk
    · cases hk
theorem modeOf_row : ∀ {l : Ids} {r : Nat}, modeOf l r = .row → ∃ i, i ∈ l ∧ i.r = r ∧ i.m = .row
  | [], r, h => by cases h
  | i :: l, r, h => by
    simp only [modeOf] at h
    cases hb : i.r.beq r with
    | true =>
      rw [hb] at h
      have hr := Nat.eq_of_beq_eq_true hb
      cases hm : i.m with
      | ro =>
        rw [hm] at h
        obtain ⟨j, h1, h2⟩ := modeOf_row h
        exact ⟨j, by simp [h1], h2⟩
      | row => exact ⟨i, by simp, hr, hm⟩
      | cell o => rw [hm] at h; cases h
    | false =>
      rw [hb] at h
      obtain ⟨j, h1, h2⟩ := modeOf_row h
      exact ⟨j, by simp [h1], h2⟩
theorem keysOk_get : ∀ {l : Roots} {r : Nat} {x : Root}, keysOk ids ρ nx l = true → lkp l r = some x → (∃ y, lkp ρ r = some y ∧ (modeOf ids r).isRo = false) ∨ (lkp ρ r = none ∧ nx ≤ r)
  | (a, b) :: l, r, x, hk, hx => by
    simp only [keysOk, Bool.and_eq_true] at hk
    rw [lkp_cons] at hx
    split at hx
    · rename_i hq
      subst hq
      have := hk.1
      split at this
      · rename_i y hy; exact .inl ⟨y, hy, by simpa using this⟩
      · rename_i hy; exact .inr ⟨hy, Nat.le_of_ble_eq_true this⟩
    · exact keysOk_get hk.2 hx
theorem heldOk_get {kp : List Nat} : ∀ {l : Roots} {r : Nat} {x y : Root}, heldOk ids roots0 kp l = true → lkp l r = some x → lkp roots0 r = some y → (modeOf ids r).isRo = true ∨ r ∈ kp
  | (a, b) :: l, r, x, y, hk, hx, hy => by
    simp only [heldOk, Bool.and_eq_true] at hk
    rw [lkp_cons] at hx
    split at hx
    · rename_i hq
      subst hq
      have := hk.1
      rw [hy] at this
      simp only [Bool.or_eq_true] at this
      exact this.imp id hasN_iff.1
    · exact heldOk_get hk.2 hx hy
theorem envFree_get : ∀ {l : List (Nat × SK)} {t : Nat} {s : SK}, envFree env0 l = true → (t, s) ∈ l → lkp env0 t = none
  | (a, b) :: l, t, s, hk, hm => by
    simp only [envFree, Bool.and_eq_true] at hk
    rcases List.mem_cons.1 hm with hq | hq
    · cases hq
      have := hk.1
      split at this
      · cases this
      · assumption
    · exact envFree_get hk.2 hq
theorem keepIds_keys : ∀ {rs : List RS} {r : Nat}, r ∈ keepIds ids rs → r ∈ rsKeys ids nx rs
  | .rowK j kw :: l, r, hm => by
    simp only [rsKeys, keepIds, List.mem_cons] at hm ⊢
    exact hm.imp id keepIds_keys
  | .cell j c :: l, r, hm => by
    simp only [rsKeys, keepIds, List.mem_cons] at hm ⊢
    exact hm.imp id keepIds_keys
  | .row q o t :: l, r, hm => by
    simp only [rsKeys, keepIds, List.mem_cons] at hm ⊢
    exact .inr (keepIds_keys hm)
  | .cellN q c :: l, r, hm => by
    simp only [rsKeys, keepIds, List.mem_cons] at hm ⊢
    exact .inr (keepIds_keys hm)
theorem restR_keys (ids : Ids) : ∀ (ρ : Roots), (∀ a, a ∈ (restR ids ρ).map Prod.fst → a ∈ ρ.map Prod.fst ∧ (modeOf ids a).isRo = true) ∧ ((ρ.map Prod.fst).Nodup → ((restR ids ρ).map Prod.fst).Nodup)
  | [] => by simp [restR]
  | (r, x) :: l => by
    obtain ⟨i1, i2⟩ := restR_keys ids l
    simp only [restR]
    split
    · rename_i hm
      refine ⟨fun a ha => ?_, fun hn => ?_⟩
      · simp only [List.map_cons, List.mem_cons] at ha ⊢
        rcases ha with rfl | ha
        · exact ⟨.inl rfl, by rw [hm]; rfl⟩
        · exact ⟨.inr (i1 a ha).1, (i1 a ha).2⟩
      · simp only [List.map_cons, List.nodup_cons] at hn ⊢
        exact ⟨fun hm => hn.1 (i1 r hm).1, i2 hn.2⟩
    · refine ⟨fun a ha => ?_, fun hn => ?_⟩
      · simp only [List.map_cons, List.mem_cons]; exact ⟨.inr (i1 a ha).1, (i1 a ha).2⟩
      · simp only [List.map_cons, List.nodup_cons] at hn; exact i2 hn.2
theorem lkp_restR (ids : Ids) : ∀ (ρ : Roots) (r : Nat), lkp (restR ids ρ) r = if (modeOf ids r).isRo = true then lkp ρ r else none
  | [], r => by simp [restR, lkp]
  | (a, x) :: l, r => by
    have ih := lkp_restR ids l r
    simp only [restR]
    split
    · rename_i hm
      rw [lkp_cons, lkp_cons, ih]
      by_cases hq : r = a
      · subst hq; rw [if_pos rfl, if_pos rfl, hm]; simp [RM.isRo]
      · rw [if_neg hq, if_neg hq]
    · rename_i m hm
      rw [ih, lkp_cons]
      by_cases hq : r = a
      · subst hq
        have : (modeOf ids r).isRo = false := by cases hz : modeOf ids r <;> first | rfl | exact absurd hz hm
        rw [this]
        rfl
      · rw [if_neg hq]
theorem rawC_len : ∀ (cs raw : List SV), (rawC cs raw).length = cs.length
  | [], raw => by cases raw <;> rfl
  | c :: cs, [] => by cases c <;> rfl
  | c :: cs, v :: raw => by cases c <;> simp [rawC, rawC_len cs raw]
theorem rawC_get : ∀ (cs raw : List SV) (o : Nat) (v : SV), cs[o]? = some v → (rawC cs raw)[o]? = match v, raw[o]? with | .lk, some w => some w | v, _ => some v
  | [], raw, o, v, h => by simp at h
  | c :: cs, [], 0, v, h => by simp at h; subst h; cases c <;> simp [rawC]
  | c :: cs, [], o + 1, v, h => by
    have : (rawC (c :: cs) [])[o + 1]? = some v := by cases c <;> simpa [rawC] using h
    rw [this]; cases v <;> simp
  | c :: cs, w :: raw, 0, v, h => by simp at h; subst h; cases c <;> simp [rawC]
  | c :: cs, w :: raw, o + 1, v, h => by
    have := rawC_get cs raw o v (by simpa using h)
    cases c <;> simpa [rawC] using this
theorem fixedOf_jn {r : Nat} {m : RM} {x : Root} (hm : m ≠ .row) : fixedOf roots0 r m x = jnR (some x) (lkp roots0 r) := by
  unfold fixedOf
  cases m with
  | row => exact absurd rfl hm
  | ro =>
    cases x with
    | row => cases lkp roots0 r <;> rfl
    | cell cs => cases hz : lkp roots0 r with
      | none => rfl
      | some y => cases y <;> rfl
  | cell offs =>
    cases x with
    | row => cases lkp roots0 r <;> rfl
    | cell cs => cases hz : lkp roots0 r with
      | none => rfl
      | some y => cases y <;> rfl
theorem scope_fixed (H0 : Gam B ⟨env0, roots0, frames⟩ ⟨env, ρ, nx, mc⟩ L Es E h n) (I : IdsOk ⟨env0, roots0, frames⟩ ⟨env, ρ, nx, mc⟩ ids) {r : Nat} {cs : List SV} (hc : lkp (fixedR ids roots0 ρ ++ roots0) r = some (.cell cs)) : rootOf ⟨env0, roots0, frames⟩ ⟨env, ρ, nx, mc⟩ r = some (.cell cs) := by
  rw [lkp_app, lkp_fixedR ids _ _ H0.nd] at hc
  rw [rootOf_jn]
  simp only
  cases hx : lkp ρ r with
  | none =>
    rw [hx] at hc
    exact hc
  | some x =>
    rw [hx] at hc
    simp only [Option.bind_some] at hc
    by_cases hm : modeOf ids r = .row
    · exfalso
      rw [hm] at hc
      have hf : fixedOf roots0 r .row x = none := by cases x <;> rfl
      rw [hf] at hc
      obtain ⟨cs1, cs0, h1, h2, _⟩ := H0.lkc r x _ hx hc
      subst h1
      obtain ⟨i, i1, rfl, i3⟩ := modeOf_row hm
      exact I.cell i _ i1 (rootOf_cell hx) i3
    · rw [fixedOf_jn hm] at hc
      cases hj : jnR (some x) (lkp roots0 r) with
      | none => cases x <;> cases hz : lkp roots0 r <;> rw [hz] at hj <;> first | cases hj | (rename_i y0; cases y0 <;> cases hj)
      | some z => rw [hj] at hc; exact hc
theorem cellLk (H2 : Gam B ⟨outDs ds env ++ env0, fixedR ids roots0 ρ ++ roots0, frames⟩ st2 L2 Es E2 h2 n2) {r : Nat} {cs : List SV} (hc : lkp st2.roots r = some (.cell cs)) (h0 : lkp (fixedR ids roots0 ρ ++ roots0) r = none) {o : Nat} (ho : cs[o]? = some SV.lk) : False := by
  obtain ⟨e, _, _, _, _, e5, _⟩ := H2.th _ _ (rootOf_cell hc)
  have : cellsOf ⟨outDs ds env ++ env0, fixedR ids roots0 ρ ++ roots0, frames⟩ r cs = cs := by unfold cellsOf; simp only [h0]
  rw [this] at e5
  obtain ⟨a, _, ha⟩ := e5.get o _ ho
  exact tv_lk ha
theorem land_exit (H0 : Gam B ⟨env0, roots0, frames⟩ ⟨env, ρ, nx, mc⟩ L Es E h n) (I : IdsOk ⟨env0, roots0, frames⟩ ⟨env, ρ, nx, mc⟩ ids) (H2 : Gam B ⟨outDs ds env ++ env0, fixedR ids roots0 ρ ++ roots0, frames⟩ st2 L2 Es E2 h2 n2)
    (hkp : keepOk keep mc st2.mc = true) (hky : keysOk ids ρ nx st2.roots = true) (hhd : heldOk ids roots0 (keepIds ids Γ.roots) ρ = true) (hef : envFree env0 Γ.env = true) :
    LandOk B ⟨outDs ds env ++ env0, fixedR ids roots0 ρ ++ roots0, frames⟩ ⟨env0, roots0, frames⟩ st2 ids Γ nx (mcOf keep mc nx) (outDs ds env) (restR ids ρ) (some ρ) := by
  have lk1 : ∀ r, lkp (fixedR ids roots0 ρ ++ roots0) r = match (lkp ρ r).bind (fixedOf roots0 r (modeOf ids r)) with | some v => some v | none => lkp roots0 r := fun r => by rw [lkp_app, lkp_fixedR ids _ _ H0.nd]; dsimp only; cases (lkp ρ r).bind (fixedOf roots0 r (modeOf ids r)) <;> rfl
  refine ⟨fun j i hi => I.low i (nthI_mem hi), rfl, fun i fr hfr t v hv => ?_, fun t v hv => ?_, fun t v hv => ?_, fun r x hr hx => ?_, fun r hr => ?_, fun r v w s md hl t xs hx => ?_, fun j i cs cs3 hi hk hro hl hlk => ?_, ⟨(restR_keys ids ρ).2 H0.nd, fun r hr => ((restR_keys ids ρ).1 r hr).2⟩, fun r x x0 h1 h2 => ?_, ?_, fun r hr => H0.lkd r (hr.imp (fun ⟨x, hx⟩ => fst_lkp ((restR_keys ids ρ).1 r (lkp_fst hx)).1) id), fun t s hm => envFree_get hef hm, fun t v hv => ?_⟩
  · have hlen : i < Es.length := by rw [H0.frl]; exact (List.getElem?_eq_some_iff.1 hfr).1
    exact (H0.frs i fr _ hfr (List.getElem?_eq_getElem hlen) t v hv).2
  · have := H0.dj t v hv
    simp only at this hv
    refine ⟨?_, (H0.env0 t v hv).2⟩
    simp only
    rw [lkp_app, lkp_outDs, this]
    simp [hv]
  · refine ⟨by simp only; rw [lkp_app, hv], ?_⟩
    rw [lkp_outDs] at hv
    split at hv
    · cases hv
    · exact (H0.env t v hv).2
  · rw [rootOf_jn] at hx
    simp only at hx
    rw [lkp_restR] at hx
    have none2 : (∃ y, lkp ρ r = some y) → (modeOf ids r).isRo = true → lkp st2.roots r = none := fun ⟨y, hy⟩ hm => by
      cases hq : lkp st2.roots r with
      | none => rfl
      | some z =>
        rcases keysOk_get hky hq with ⟨_, _, k⟩ | ⟨k, _⟩
        · rw [hm] at k; cases k
        · rw [hy] at k; cases k
    cases hy : lkp ρ r with
    | none =>
      have hx' : lkp roots0 r = some x := by
        rw [hy] at hx
        split at hx <;> exact hx
      have hroot : rootOf ⟨env0, roots0, frames⟩ ⟨env, ρ, nx, mc⟩ r = some x := by rw [rootOf_jn]; simp only [hy]; exact hx'
      have low := H0.lowT r x hroot
      have hno : lkp st2.roots r = none := by
        cases hq : lkp st2.roots r with
        | none => rfl
        | some z =>
          rcases keysOk_get hky hq with ⟨_, k, _⟩ | ⟨_, k⟩
          · rw [hy] at k; cases k
          · exact absurd low.1 (by simp only; omega)
      refine ⟨?_, low.1, low.2, hno⟩
      rw [rootOf_jn, hno]
      simp only
      rw [lk1, hy]
      exact hx'
    | some y0 =>
      rw [hy] at hx
      cases hm : (modeOf ids r).isRo with
      | true =>
        rw [hm, if_pos rfl] at hx
        have hroot : rootOf ⟨env0, roots0, frames⟩ ⟨env, ρ, nx, mc⟩ r = some x := by rw [rootOf_jn]; simp only [hy]; exact hx
        have low := H0.lowT r x hroot
        have hno := none2 ⟨y0, hy⟩ hm
        refine ⟨?_, low.1, low.2, hno⟩
        rw [rootOf_jn, hno]
        simp only
        rw [lk1, hy]
        simp only [Option.bind_some]
        rw [fixedOf_jn (by intro hq; rw [hq] at hm; cases hm), hx]
        rfl
      | false =>
        rw [hm, if_neg (by simp)] at hx
        have hx' : lkp roots0 r = some x := hx
        rcases heldOk_get hhd hy hx' with k | k
        · rw [hm] at k; cases k
        · exact absurd (keepIds_keys k) hr
  · have := H0.rootHi (r := r) hr
    simp only at this
    refine ⟨?_, this.2⟩
    rw [lkp_restR, this.1]
    split <;> rfl
  · simp only
    cases hq : lkp roots0 r with
    | none => rfl
    | some y0 =>
      exfalso
      have : ∃ z, lkp (fixedR ids roots0 ρ ++ roots0) r = some z := by
        rw [lk1, hq]
        cases (lkp ρ r).bind (fixedOf roots0 r (modeOf ids r)) with
        | none => exact ⟨_, rfl⟩
        | some z => exact ⟨_, rfl⟩
      obtain ⟨z, hz⟩ := this
      obtain ⟨_, _, k, _⟩ := H2.lkc r _ _ hx hz
      cases k
  · have hir := (I.low i (nthI_mem hi)).1
    have hlen3 : (rawC cs3 (rawOf (some ρ) i.r)).length = cs.length := by rw [rawC_len, hl]
    rcases keysOk_get hky hk with ⟨y0, hy, _⟩ | ⟨_, k⟩
    case inr => exact absurd hir (by simp only; omega)
    have hmode : ∀ cs', y0 = .cell cs' → modeOf ids i.r ≠ .row := fun cs' hq hm => by
      subst hq
      obtain ⟨i2, m1, m2, m3⟩ := modeOf_row hm
      have hrt : rootOf ⟨env0, roots0, frames⟩ ⟨env, ρ, nx, mc⟩ i2.r = _ := rootOf_cell (by rw [m2]; exact hy)
      exact I.cell i2 _ m1 hrt m3
    have sec : ∀ ρ0, lkp roots0 i.r = some ρ0 → ∃ cs0, ρ0 = .cell cs0 ∧ cs.length = cs0.length := fun ρ0 hz => by
      obtain ⟨c1, c0, k1, k2, k3⟩ := H0.lkc i.r y0 ρ0 hy hz
      subst k1
      have hfx : lkp (fixedR ids roots0 ρ ++ roots0) i.r = some (.cell (ovl c1 c0)) := by
        rw [lk1, hy]
        simp only [Option.bind_some]
        rw [fixedOf_jn (hmode c1 rfl), hz, k2]
        rfl
      obtain ⟨_, _, m1, m2, m3⟩ := H2.lkc i.r _ _ hk hfx
      cases m1; cases m2
      exact ⟨c0, k2, by rw [m3, ovl_len _ _ k3, k3]⟩
    refine ⟨hlen3, sec, ?_⟩
    cases hz : lkp (fixedR ids roots0 ρ ++ roots0) i.r with
    | none =>
      have hr0 : lkp roots0 i.r = none := by
        rw [lk1] at hz
        cases hq : (lkp ρ i.r).bind (fixedOf roots0 i.r (modeOf ids i.r)) with
        | none => rw [hq] at hz; exact hz
        | some z => rw [hq] at hz; cases hz
      refine ⟨_, by simp only [hr0]; rfl, hlen3, fun o v hv hne => ?_, fun o v hv _ => (cellLk H2 hk hz (hlk o hv)).elim⟩
      rw [rawC_get _ _ _ _ hv]
      cases v <;> first | rfl | exact absurd rfl hne
    | some X =>
      obtain ⟨c1, c2, m1, m2, m3⟩ := H2.lkc i.r _ _ hk hz
      cases m1
      subst m2
      have hent := scope_fixed H0 I hz
      have hlow := (H0.lowT _ _ hent).2
      cases y0 with
      | row v w s md hl' t xs =>
        exfalso
        rw [rootOf_jn] at hent
        simp only [hy] at hent
        cases hq : lkp roots0 i.r <;> rw [hq] at hent <;> cases hent
      | cell csρ =>
        have hraw : rawOf (some ρ) i.r = csρ := by simp only [rawOf, hy]
        rw [rootOf_jn] at hent
        simp only [hy] at hent
        have cells : ∀ o, cs[o]? = some SV.lk → (cellsOf ⟨outDs ds env ++ env0, fixedR ids roots0 ρ ++ roots0, frames⟩ i.r cs)[o]? = c2[o]? := fun o ho => by
          unfold cellsOf
          simp only [hz]
          rw [ovl_get _ _ m3, ho]
        cases hq : lkp roots0 i.r with
        | none =>
          rw [hq] at hent
          cases hent
          refine ⟨_, rfl, hlen3, fun o v hv hne => ?_, fun o v hv hF => ?_⟩
          · rw [rawC_get _ _ _ _ hv]
            cases v <;> first | rfl | exact absurd rfl hne
          · rw [rawC_get _ _ _ _ hv, hraw] at hF
            have ho : o < c2.length := by rw [← m3, ← hl]; exact (List.getElem?_eq_some_iff.1 hv).1
            rw [List.getElem?_eq_getElem ho] at hF
            cases hF
            exact ⟨by rw [cells o (hlk o hv), List.getElem?_eq_getElem ho], lowNs_get hlow (List.getElem?_eq_getElem ho)⟩
        | some ρ0 =>
          obtain ⟨cs0, rfl, hl0⟩ := sec ρ0 hq
          rw [hq] at hent
          have hov : ovl csρ cs0 = c2 := by
            have : some (Root.cell (ovl csρ cs0)) = some (.cell c2) := hent
            cases this; rfl
          obtain ⟨_, _, k1, k2, k3⟩ := H0.lkc i.r _ _ hy hq
          cases k1; cases k2
          have hl4 : (rawC cs3 (rawOf (some ρ) i.r)).length = cs0.length := hlen3.trans hl0
          refine ⟨ovl (rawC cs3 (rawOf (some ρ) i.r)) cs0, rfl, by rw [ovl_len _ _ hl4, hlen3], fun o v hv hne => ?_, fun o v hv hF => ?_⟩
          · rw [ovl_get _ _ hl4, rawC_get _ _ _ _ hv]
            cases v <;> first | rfl | exact absurd rfl hne
          · have ho : o < csρ.length := by rw [k3, ← hl0, ← hl]; exact (List.getElem?_eq_some_iff.1 hv).1
            rw [ovl_get _ _ hl4, rawC_get _ _ _ _ hv, hraw, List.getElem?_eq_getElem ho] at hF
            have e1 : c2[o]? = some v := by
              rw [← hov, ovl_get _ _ k3, List.getElem?_eq_getElem ho]
              exact hF
            exact ⟨by rw [cells o (hlk o hv)]; exact e1, lowNs_get hlow e1⟩
  · rw [lkp_restR] at h1
    split at h1
    · exact H0.lkc r x x0 h1 h2
    · cases h1
  · cases keep with
    | true => exact .inl ⟨H0.mcl, Nat.eq_of_beq_eq_true hkp⟩
    | false => exact .inr rfl
  · have := H0.dj t v hv
    rw [lkp_outDs, this]
    split <;> rfl
theorem land_head (H0 : Gam B ⟨env0, roots0, frames⟩ ⟨env, ρ, nx, mc⟩ L Es E h n) (I : IdsOk ⟨env0, roots0, frames⟩ ⟨env, ρ, nx, mc⟩ ids) (H2 : Gam B ⟨outDs ds env ++ env0, fixedR ids roots0 ρ ++ roots0, frames⟩ st2 L2 Es E2 h2 n2)
    (hkp : keepOk keep mc st2.mc = true) (hky : keysOk ids ρ nx st2.roots = true) (hhd : heldOk ids (fixedR ids roots0 ρ ++ roots0) (keepIds ids Γ.roots) (looseR ids ρ) = true) (hef : envFree (outDs ds env ++ env0) Γ.env = true) :
    LandOk B ⟨outDs ds env ++ env0, fixedR ids roots0 ρ ++ roots0, frames⟩ ⟨outDs ds env ++ env0, fixedR ids roots0 ρ ++ roots0, frames⟩ st2 ids Γ nx (mcOf keep mc nx) [] [] none := by
  have H1 := H0.scope ids ds
  refine ⟨fun j i hi => I.low i (nthI_mem hi), rfl, fun i fr hfr t v hv => ?_, fun t v hv => ⟨hv, (H1.env0 t v hv).2⟩, fun t v hv => (by cases hv), fun r x hr hx => ?_, fun r hr => ⟨rfl, (H1.rootHi (r := r) hr).2⟩, fun r v w s md hl t xs hx => ?_, fun j i cs cs3 hi hk hro hl hlk => ?_, ⟨.nil, fun r hr => by cases hr⟩, fun r x x0 h1 h2 => (by cases h1), ?_, fun r hr => H0.lkd r (hr.elim (fun ⟨x, hx⟩ => by cases hx) .inr), fun t s hm => envFree_get hef hm, fun t v hv => rfl⟩
  · have hlen : i < Es.length := by rw [H0.frl]; exact (List.getElem?_eq_some_iff.1 hfr).1
    exact (H0.frs i fr _ hfr (List.getElem?_eq_getElem hlen) t v hv).2
  · have hx' : lkp (fixedR ids roots0 ρ ++ roots0) r = some x := by rw [rootOf_jn] at hx; exact hx
    have hlo : lkp (looseR ids ρ) r = none := by
      cases hq : lkp (looseR ids ρ) r with
      | none => rfl
      | some y0 =>
        rcases heldOk_get hhd hq hx' with k | k
        · exfalso
          rw [lkp_looseR ids _ H0.nd] at hq
          obtain ⟨z, _, h3⟩ := Option.bind_eq_some_iff.1 hq
          cases hm : modeOf ids r with
          | ro => rw [hm] at h3; cases z <;> cases h3
          | row => rw [hm] at k; cases k
          | cell => rw [hm] at k; cases k
        · exact absurd (keepIds_keys k) hr
    have h1r : rootOf ⟨outDs ds env ++ env0, fixedR ids roots0 ρ ++ roots0, frames⟩ ⟨inDs ds env, looseR ids ρ, nx, mc⟩ r = some x := by rw [rootOf_jn]; simp only [hlo]; exact hx'
    have low := H1.lowT r x h1r
    have hno : lkp st2.roots r = none := by
      cases hq : lkp st2.roots r with
      | none => rfl
      | some z =>
        exfalso
        obtain ⟨cs, cs0, k1, k2, k3⟩ := H2.lkc r z x hq hx'
        rcases keysOk_get hky hq with ⟨y0, m1, m2⟩ | ⟨_, m1⟩
        · rw [lkp_looseR ids _ H0.nd] at hlo
          simp only at hlo
          rw [m1] at hlo
          simp only [Option.bind_some] at hlo
          rw [lkp_app, lkp_fixedR ids _ _ H0.nd] at hx'
          simp only at hx'
          rw [m1] at hx'
          simp only [Option.bind_some] at hx'
          cases hm : modeOf ids r with
          | ro => rw [hm] at m2; cases m2
          | row => rw [hm] at hlo; cases y0 <;> cases hlo
          | cell offs =>
            rw [hm] at hlo hx'
            cases y0 with
            | cell => cases hlo
            | row => cases hx'; cases k2
        · exact absurd low.1 (by simp only; omega)
    refine ⟨?_, low.1, low.2, hno⟩
    rw [rootOf_jn, hno]
    exact hx'
  · simp only
    cases hq : lkp (fixedR ids roots0 ρ ++ roots0) r with
    | none => rfl
    | some z =>
      obtain ⟨_, _, k, _⟩ := H2.lkc r _ _ hx hq
      cases k
  · have hraw : rawC cs3 (rawOf none i.r) = cs3 := by
      have : rawOf none i.r = [] := rfl
      rw [this]
      cases cs3 with
      | nil => rfl
      | cons c cs => cases c <;> rfl
    rw [hraw]
    refine ⟨hl, fun ρ0 hz => ?_, ?_⟩
    · obtain ⟨c1, c0, k1, k2, k3⟩ := H2.lkc i.r _ _ hk hz
      cases k1
      exact ⟨c0, k2, k3⟩
    · cases hz : lkp (fixedR ids roots0 ρ ++ roots0) i.r with
      | none => exact ⟨cs3, rfl, hl, fun o v hv _ => hv, fun o v hv _ => (cellLk H2 hk hz (hlk o hv)).elim⟩
      | some X =>
        obtain ⟨c1, c2, m1, m2, m3⟩ := H2.lkc i.r _ _ hk hz
        cases m1
        subst m2
        have hlow := (H0.lowT _ _ (scope_fixed H0 I hz)).2
        have hl4 : cs3.length = c2.length := hl.trans m3
        refine ⟨ovl cs3 c2, rfl, by rw [ovl_len _ _ hl4, hl], fun o v hv hne => ?_, fun o v hv hF => ?_⟩
        · rw [ovl_get _ _ hl4, hv]
          cases v <;> first | rfl | exact absurd rfl hne
        · rw [ovl_get _ _ hl4, hv] at hF
          have hF' : c2[o]? = some v := hF
          refine ⟨?_, lowNs_get hlow hF'⟩
          unfold cellsOf
          simp only [hz]
          rw [ovl_get _ _ m3, hlk o hv]
          exact hF'
  · cases keep with
    | true => exact .inl ⟨H0.mcl, Nat.eq_of_beq_eq_true hkp⟩
    | false => exact .inr rfl
end
end Go.Proofs.Ytcngfjmfgeckmaa
namespace Go.Proofs.Ytcngfjmfgeckmaa
open Go
def Ex.up : Ex → Exit
  | .normal => .normal
  | .exit i => .exit i
  | .ret => .ret
theorem Ex.is_eq : ∀ {a b : Ex}, a.is b = true → a = b
  | .normal, .normal, _ => rfl
  | .exit i, .exit j, h => by rw [Nat.eq_of_beq_eq_true h]
  | .ret, .ret, _ => rfl
theorem castD_ok {t' t : PT} {x : t'.den} {z : t.den} (h : castD t' t x = some z) : (⟨t, z⟩ : DV) = ⟨t', x⟩ := by
  unfold castD at h
  split at h
  · rename_i e _
    subst e
    cases h
    rfl
  · cases h
theorem ofD_ok {α : Type} {y : α} : ∀ (ts : List PT) {ds : List DV} {k : tupT ts → Option α}, ofD ts ds k = some y → ∃ z, k z = some y ∧ toD ts z = ds
  | [], [], k, h => ⟨(), h, rfl⟩
  | [], _ :: _, k, h => by cases h
  | [t], [], k, h => by cases h
  | [t], [⟨t', x⟩], k, h => by
    simp only [ofD] at h
    split at h
    · rename_i z hz
      exact ⟨z, h, by simp only [toD]; rw [castD_ok hz]⟩
    · cases h
  | [t], ⟨t', x⟩ :: _ :: _, k, h => by simp [ofD] at h
  | t :: u :: l, [], k, h => by cases h
  | t :: u :: l, ⟨t', x⟩ :: ds, k, h => by
    simp only [ofD] at h
    split at h
    · rename_i z hz
      obtain ⟨w, q1, q2⟩ := ofD_ok (u :: l) h
      exact ⟨(z, w), q1, by simp only [toD]; rw [castD_ok hz, q2]⟩
    · cases h
section
variable {B : Bas} {L : Lay} {Es : List Env} {E : Env} {h : Heap} {n : Nat} {cx : Cx} {st : St}
theorem pack_some {α : Type} {y : α} {ids : Ids} {Γ : Shape} {K1 : List DV → Option α} (H : Gam B cx st L Es E h n) (hk : Shape.pack ids cx st Γ K1 = some y) : ∃ ds, K1 ds = some y := by
  unfold Shape.pack at hk
  obtain ⟨dsE, nm1, NA1, q1, q2, q3, q4, pE, pEl⟩ := packE_ok (ids := ids) H Γ.env (nm := ⟨[], [], []⟩) (NA := []) ⟨fun q x hq => (by cases hq), fun q _ => rfl, fun r hr => by cases hr⟩ hk
  obtain ⟨dsR, nm, NA, r1, r2, r3, r4, pR⟩ := packR_ok (ids := ids) H Γ.roots q2 q1
  exact ⟨_, (bif_some r1).2⟩
theorem inj_ok {β : Type} {b : β} {ids : Ids} {e : Ex} : ∀ {l : List (Ex × Shape)} {K : sumT ids l → Option β}, inj ids cx e st l K = some b →
    ∃ (Γ : Shape) (K1 : List DV → Option β), Shape.pack ids cx st Γ K1 = some b ∧ ∀ ds, K1 ds = some b → ∃ s, K s = some b ∧ ∀ {α : Type} (K2 : Ex → Shape → List DV → Option α), outj ids K2 l s = K2 e Γ ds
  | [], K, h => by cases h
  | [x], K, h => by
    obtain ⟨h1, h2⟩ := bif_some h
    have he := Ex.is_eq h1
    refine ⟨x.2, _, h2, fun ds hd => ?_⟩
    obtain ⟨z, z1, z2⟩ := ofD_ok _ hd
    exact ⟨z, z1, fun K2 => by simp only [outj]; rw [z2, he]⟩
  | x :: y :: l, K, h => by
    simp only [inj] at h
    cases hb : e.is x.1 with
    | true =>
      rw [hb, cond_true] at h
      have he := Ex.is_eq hb
      refine ⟨x.2, _, h, fun ds hd => ?_⟩
      obtain ⟨z, z1, z2⟩ := ofD_ok _ hd
      exact ⟨_, z1, fun K2 => by simp only [outj, Sum.elim_inl]; rw [z2, he]⟩
    | false =>
      rw [hb, cond_false] at h
      obtain ⟨Γ, K1, q1, q2⟩ := inj_ok (l := y :: l) h
      refine ⟨Γ, K1, q1, fun ds hd => ?_⟩
      obtain ⟨s, s1, s2⟩ := q2 ds hd
      exact ⟨_, s1, fun K2 => by simp only [outj, Sum.elim_inr]; exact s2 K2⟩
theorem keysOk_loose {ids : Ids} {ρ0 : Roots} {nx : Nat} (hnd : (ρ0.map Prod.fst).Nodup) : ∀ (ρ : Roots), (∀ a x, (a, x) ∈ ρ → lkp ρ0 a = some x) → keysOk ids ρ0 nx (looseR ids ρ) = true
  | [], _ => rfl
  | (r, x) :: l, hm => by
    have ih := keysOk_loose (ids := ids) (nx := nx) hnd l (fun a x h => hm a x (List.mem_cons_of_mem _ h))
    have hr := hm r x (by simp)
    simp only [looseR]
    split
    · rename_i hmo
      simp only [keysOk, hr, hmo, ih]; rfl
    · rename_i hmo
      simp only [keysOk, hr, hmo, ih]; rfl
    · exact ih
theorem lkp_memN : ∀ {l : Roots} {a : Nat} {x : Root}, (l.map Prod.fst).Nodup → (a, x) ∈ l → lkp l a = some x
  | (b, z) :: l, a, x, hn, hm => by
    simp only [List.map_cons, List.nodup_cons] at hn
    rw [lkp_cons]
    rcases List.mem_cons.1 hm with hq | hq
    · cases hq; rw [if_pos rfl]
    · rw [if_neg (fun he => hn.1 (by rw [← he]; exact List.mem_map.2 ⟨_, hq, rfl⟩))]
      exact lkp_memN hn.2 hq
def FinC (B : Bas) (cx : Cx) (Es : List Env) {α : Type} (y : α) (k : Ex → St → Option α) (e : Exit) (E : Env) (h : Heap) (n : Nat) : Prop := ∃ ex st L, e = ex.up ∧ k ex st = some y ∧ Gam B cx st L Es E h n
def codeIn (N : Nat) : Code → Bool
  | .region _ ops _ => ops.toList.all (dstIn N)
  | .seq a b => codeIn N a && codeIn N b
  | .cond _ a b => codeIn N a && codeIn N b
  | .block _ a => codeIn N a
  | .loop a => codeIn N a
  | _ => true
def DrawOk (P : Program) (g : Pg) (call : Callee) (N : Nat) : Prop := ∀ {α : Type} {B : Bas} {cx : Cx} {st : St} {L : Lay} {Es : List Env} {E : Env} {h : Heap} {n : Nat} {y : α} {k : Ex → St → Option α} {id fu : Nat} {ops : Array Oper} {ws : List RP} {plan : List (Nat × Nat)},
  ops.toList.all (dstIn N) = true → Gam B cx st L Es E h n → run g call fu (.draw ws plan) cx (.region id ops true) st k = some y → WP P N (.region id ops true) (FinC B cx Es y k) E h n
theorem natOrd_ok : ∀ {l : List Nat} {i : Nat}, natOrd i l = true → l = List.range' i l.length
  | [], i, _ => rfl
  | a :: l, i, h => by
    simp only [natOrd, Bool.and_eq_true] at h
    have ih := natOrd_ok h.2
    obtain rfl := Nat.eq_of_beq_eq_true h.1
    simp only [List.length_cons, List.range'_succ]
    rw [← ih]
theorem run_ok {P : Program} {g : Pg} (hT : TEOk P g.T) (gk : POk g) {call : Callee} (hcall : CallOk P call) {N : Nat} (hdraw : DrawOk P g call N) {fu : Nat} : ∀ (a : Ann) {α : Type} {B : Bas} {cx : Cx} {c : Code} {st : St} {k : Ex → St → Option α} {y : α} {L : Lay} {Es : List Env} {E : Env} {h : Heap} {n : Nat},
    codeIn N c = true → Gam B cx st L Es E h n → run g call fu a cx c st k = some y → WP P N c (FinC B cx Es y k) E h n
  | .leaf, α, B, cx, c, st, k, y, L, Es, E, h, n, hc, H, hk => by
    cases c with
    | skip => exact WP.skip ⟨.normal, _, _, rfl, hk, H⟩
    | ret => exact WP.ret ⟨.ret, _, _, rfl, hk, H⟩
    | exit i => exact WP.exit ⟨.exit i, _, _, rfl, hk, H⟩
    | label l => exact WP.label ⟨.normal, _, _, rfl, hk, H⟩
    | _ => simp [run] at hk
  | .reg order, α, B, cx, c, st, k, y, L, Es, E, h, n, hc, H, hk => by
    cases c with
    | region id ops dr =>
      cases dr with
      | true => simp [run] at hk
      | false =>
        simp only [run] at hk
        obtain ⟨h1, h2⟩ := bif_some hk
        simp only [Bool.and_eq_true] at h1
        have hord := natOrd_ok h1.1
        have hlen : order.length = ops.toList.length := by rw [Nat.eq_of_beq_eq_true h1.2]; simp
        rw [hord, hlen] at h2
        have := regN_ok gk hcall ops.toList 0 rfl H h2
        refine (WP.regionB (l := ops.toList) hT (Q := fun e E h n => match e with | .normal => Fin B cx Es y (k .normal) E h n | _ => False) hc this).mono fun e E h n hq => ?_
        cases e with
        | normal => obtain ⟨st, L, q2, q3⟩ := hq; exact ⟨.normal, st, L, rfl, q2, q3⟩
        | _ => exact hq.elim
    | _ => simp [run] at hk
  | .draw ws plan, α, B, cx, c, st, k, y, L, Es, E, h, n, hc, H, hk => by
    cases c with
    | region id ops dr =>
      cases dr with
      | true => exact hdraw hc H hk
      | false => simp [run] at hk
    | _ => simp [run] at hk
  | .seq a b, α, B, cx, c, st, k, y, L, Es, E, h, n, hc, H, hk => by
    cases c with
    | seq x z =>
      simp only [codeIn, Bool.and_eq_true] at hc
      simp only [run] at hk
      refine WP.seq ((run_ok hT gk hcall hdraw a hc.1 H hk).mono fun e E h n ⟨ex, st, L, q1, q2, q3⟩ => ?_)
      subst q1
      cases ex with
      | normal => exact run_ok hT gk hcall hdraw b hc.2 q3 q2
      | exit i => exact ⟨.exit i, _, _, rfl, q2, q3⟩
      | ret => exact ⟨.ret, _, _, rfl, q2, q3⟩
    | _ => simp [run] at hk
  | .cond a b, α, B, cx, c, st, k, y, L, Es, E, h, n, hc, H, hk => by
    cases c with
    | cond o x z =>
      simp only [codeIn, Bool.and_eq_true] at hc
      simp only [run] at hk
      split at hk
      · rename_i t ht
        have hv := (H.ev o).1
        rw [ht] at hv
        refine WP.cond (t := t) (bool_inv hv) (fun hq => ?_) (fun hq => ?_)
        · subst hq; rw [if_pos rfl] at hk; exact run_ok hT gk hcall hdraw a hc.1 H hk
        · subst hq; rw [if_neg (by simp)] at hk; exact run_ok hT gk hcall hdraw b hc.2 H hk
      · cases hk
    | _ => simp [run] at hk
  | .block a, α, B, cx, c, st, k, y, L, Es, E, h, n, hc, H, hk => by
    cases c with
    | block i x =>
      simp only [run] at hk
      refine WP.block ((run_ok hT gk hcall hdraw a (show codeIn N x = true from hc) H hk).mono fun e E h n ⟨ex, st, L, q1, q2, q3⟩ => ?_)
      subst q1
      cases ex with
      | normal => exact ⟨.normal, _, _, rfl, q2, q3⟩
      | ret => exact ⟨.ret, _, _, rfl, q2, q3⟩
      | exit j =>
        simp only at q2
        simp only [Ex.up, blockA]
        cases hb : j.beq i with
        | true =>
          rw [hb] at q2
          rw [if_pos (Nat.eq_of_beq_eq_true hb)]
          exact ⟨.normal, _, _, rfl, q2, q3⟩
        | false =>
          rw [hb] at q2
          rw [if_neg (fun he => by rw [he, Nat.beq_refl] at hb; cases hb)]
          exact ⟨.exit j, _, _, rfl, q2, q3⟩
    | _ => simp [run] at hk
  | .join s a, α, B, ⟨env0, roots0, frames⟩, c, ⟨env, ρ, nx, mc⟩, k, y, L, Es, E, h, n, hc, H, hk => by
    simp only [run] at hk
    obtain ⟨ids, hk, I⟩ := resK_ok H hk
    obtain ⟨j, hj, ho⟩ := Option.bind_eq_some_iff.1 hk
    refine (run_ok hT gk hcall hdraw a hc (H.scope ids s.ds) hj).mono fun e E h n ⟨ex, st, L2, q1, q2, q3⟩ => ?_
    obtain ⟨g1, g2⟩ := bif_some q2
    simp only [Bool.and_eq_true] at g1
    obtain ⟨Γ, K1, p1, p2⟩ := inj_ok g2
    obtain ⟨ds0, d0⟩ := pack_some q3 p1
    obtain ⟨s0, s1, s2⟩ := p2 ds0 d0
    cases s1
    have ho0 := ho
    rw [s2] at ho0
    obtain ⟨g3, _⟩ := bif_some ho0
    simp only [Bool.and_eq_true] at g3
    obtain ⟨ds, d1, d2⟩ := q3.land (land_exit H I q3 g1.1 g1.2 g3.1 g3.2) p1
    obtain ⟨s3, t1, t2⟩ := p2 ds d1
    cases t1
    rw [t2] at ho
    obtain ⟨_, g4⟩ := bif_some ho
    obtain ⟨st3, L3, e1, e2⟩ := d2 g4
    exact ⟨ex, st3, L3, q1, e1, e2⟩
  | .loop s hd a, α, B, ⟨env0, roots0, frames⟩, c, ⟨env, ρ, nx, mc⟩, k, y, L, Es, E, h, n, hc, H, hk => by
    cases c with
    | loop c =>
      simp only [run] at hk
      obtain ⟨ids, hk, I⟩ := resK_ok H hk
      obtain ⟨hg, hk⟩ := bif_some hk
      simp only [Bool.and_eq_true] at hg
      have H1 := H.scope ids s.ds
      have head : ∀ {st2 : St} {L2 : Lay} {E2 : Env} {h2 : Heap} {n2 : Nat}, Gam B ⟨outDs s.ds env ++ env0, fixedR ids roots0 ρ ++ roots0, frames⟩ st2 L2 Es E2 h2 n2 → keepOk s.keep mc st2.mc = true → keysOk ids ρ nx st2.roots = true → _ := fun H2 h1 h2 => land_head (Γ := hd) H I H2 h1 h2 hg.1 hg.2
      have hk0 : keepOk s.keep mc mc = true := by cases s.keep <;> simp [keepOk]
      obtain ⟨ds, d1, d2⟩ := H1.land (head H1 hk0 (keysOk_loose H.nd ρ fun a x hm => lkp_memN H.nd hm)) hk
      obtain ⟨s0, z1, z2⟩ := ofD_ok _ d1
      obtain ⟨j, hj, ho⟩ := Option.bind_eq_some_iff.1 z1
      generalize hstep : (fun (z : tupT (hd.ty ids)) => Shape.unpack ids hd [] [] none nx (mcOf s.keep mc nx) (toD (hd.ty ids) z) fun st => _) = step at hj
      refine WP.loop (fun m E h n => ∃ z, iterO step m z = some j ∧ ∀ {β : Type} {y : β} {K2 : St → Option β}, Shape.unpack ids hd [] [] none nx (mcOf s.keep mc nx) (toD (hd.ty ids) z) K2 = some y → ∃ st3 L3, K2 st3 = some y ∧ Gam B ⟨outDs s.ds env ++ env0, fixedR ids roots0 ρ ++ roots0, frames⟩ st3 L3 Es E h n) fu ⟨s0, hj, fun {β y K2} hu => d2 (by rw [← z2]; exact hu)⟩ fun m E h n ⟨z, hz, hu⟩ => ?_
      cases m with
      | zero => cases hz
      | succ m =>
      simp only [iterO] at hz
      obtain ⟨r, r1, r2⟩ := Option.bind_eq_some_iff.1 hz
      subst hstep
      obtain ⟨st3, L3, u1, u2⟩ := hu r1
      refine (run_ok hT gk hcall hdraw a (show codeIn N c = true from hc) u2 u1).mono fun e E h n ⟨ex, st, L2, q1, q2, q3⟩ => ?_
      subst q1
      obtain ⟨g1, g2⟩ := bif_some q2
      simp only [Bool.and_eq_true] at g1
      have out : ∀ {ex : Ex}, inj ids (β := tupT (hd.ty ids) ⊕ sumT ids s.exits) ⟨outDs s.ds env ++ env0, fixedR ids roots0 ρ ++ roots0, frames⟩ ex st s.exits (fun j => some (Sum.inr j)) = some r → FinC B ⟨env0, roots0, frames⟩ Es y k ex.up E h n := fun {ex} g2 => by
        obtain ⟨Γ, K1, p1, p2⟩ := inj_ok g2
        obtain ⟨ds0, d0⟩ := pack_some q3 p1
        obtain ⟨s0, s1, s2⟩ := p2 ds0 d0
        cases s1
        simp only [Sum.elim_inr, Option.some.injEq] at r2
        subst r2
        have ho0 := ho
        rw [s2] at ho0
        obtain ⟨g3, _⟩ := bif_some ho0
        simp only [Bool.and_eq_true] at g3
        obtain ⟨ds, d1, d2⟩ := q3.land (land_exit H I q3 g1.1 g1.2 g3.1 g3.2) p1
        obtain ⟨s3, t1, t2⟩ := p2 ds d1
        cases t1
        rw [t2] at ho
        obtain ⟨_, g4⟩ := bif_some ho
        obtain ⟨st3, L3, e1, e2⟩ := d2 g4
        exact ⟨ex, st3, L3, rfl, e1, e2⟩
      cases ex with
      | normal =>
        obtain ⟨ds, d1, d2⟩ := q3.land (head q3 g1.1 g1.2) g2
        obtain ⟨z', y1, y2⟩ := ofD_ok _ d1
        cases y1
        exact ⟨m, Nat.lt_succ_self _, z', r2, fun {β y K2} hu => d2 (by rw [← y2]; exact hu)⟩
      | exit i => exact out g2
      | ret => exact out g2
    | _ => simp [run] at hk
end
end Go.Proofs.Ytcngfjmfgeckmaa
namespace Go.Proofs.Ytcngfjmfgeckmaa
open Go
theorem quiet0_quiet {op : Op} (h : quiet0 op = true) : quietOp op = true := by
  cases op <;> first | rfl | (simp only [quiet0, Bool.false_eq_true] at h; done) | skip
  case call c =>
    unfold quiet0 at h
    simp only at h
    unfold quietOp
    simp only
    split at h
    · rename_i hc; simp only [hc]
    · rename_i hc; simp only [hc]
    · cases h
section
variable {P : Program} {T : TE} {N : Nat} {h : Heap} {n : Nat}
theorem quiet0_det {op : Op} {e : Operand → AV} {K : AV → Heap → Nat → Prop} (hq : quiet0 op = true) (ho : opP T op e h n K) :
    ∃ v, K v h n ∧ ∀ (h' : Heap) (n' : Nat) (K : AV → Heap → Nat → Prop), K v h' n' → opP T op e h' n' K := by
  cases op <;> simp only [quiet0, Bool.false_eq_true] at hq <;> simp only [opP] at ho ⊢
  case move => exact ⟨_, ho, fun h' n' K hk => hk⟩
  case assign => exact ⟨_, ho, fun h' n' K hk => hk⟩
  case pick => obtain ⟨t, a1, a2⟩ := ho; exact ⟨_, a2, fun h' n' K hk => ⟨t, a1, hk⟩⟩
  case build =>
    obtain ⟨fs, a1, a2, a3, a4⟩ := ho
    obtain ⟨v, q1, q2⟩ := buildP_det _ _ a4
    exact ⟨_, q1, fun h' n' K hk => ⟨fs, a1, a2, a3, q2 _ hk⟩⟩
  case nilCheck =>
    split at ho
    · exact ⟨_, ho, fun h' n' K hk => hk⟩
    · exact ⟨_, ho, fun h' n' K hk => hk⟩
    · exact ho.elim
  case binOp => obtain ⟨v, q1, q2⟩ := binP_det ho; exact ⟨v, q1, fun h' n' K hk => q2 _ hk⟩
  case unOp => obtain ⟨v, q1, q2⟩ := unP_det ho; exact ⟨v, q1, fun h' n' K hk => q2 _ hk⟩
  case makeFunc f first cap =>
    cases f <;> simp only at ho ⊢
    case func => exact ⟨_, ho.2, fun h' n' K hk => ⟨ho.1, hk⟩⟩
    all_goals exact ho.elim
  case slice =>
    split at ho
    · obtain ⟨a1, a2, i, j, a3, a4, a5, a6, a7⟩ := ho; exact ⟨_, a7, fun h' n' K hk => ⟨a1, a2, i, j, a3, a4, a5, a6, hk⟩⟩
    · obtain ⟨e, a1, a2, a3, a4⟩ := ho
      obtain ⟨v, q1, q2⟩ := sliceP_det a4
      exact ⟨v, q1, fun h' n' K hk => ⟨e, a1, a2, a3, q2 _ hk⟩⟩
  case fieldAddr => obtain ⟨sz, b, i, off, fs, p, a1, a2, a3, a4, a5⟩ := ho; exact ⟨_, a5, fun h' n' K hk => ⟨sz, b, i, off, fs, p, a1, a2, a3, a4, hk⟩⟩
  case field => obtain ⟨fs, p, cs, v, a1, a2, a3, a4, a5, a6⟩ := ho; exact ⟨_, a6, fun h' n' K hk => ⟨fs, p, cs, v, a1, a2, a3, a4, a5, hk⟩⟩
  case index => obtain ⟨s, k, i, a1, a2, a3, a4, a5, a6⟩ := ho; exact ⟨_, a6, fun h' n' K hk => ⟨s, k, i, a1, a2, a3, a4, a5, hk⟩⟩
  case extract => obtain ⟨vs, r, a1, a2, a3⟩ := ho; exact ⟨_, a3, fun h' n' K hk => ⟨vs, r, a1, a2, hk⟩⟩
  case call c =>
    split at ho
    · rename_i b hc
      rw [hc] at hq
      cases b <;> simp only [Bool.false_eq_true] at hq <;> unfold builtinP at ho ⊢ <;> split at ho
      all_goals first | exact ho.elim | cases hq | skip
      all_goals first
        | exact ⟨_, ho.2, fun h' n' K hk => ⟨ho.1, hk⟩⟩
        | simp_all
    · exact ho.elim
theorem rdSl_both {a b : Heap} {x : AV} {s1 s2 : Nat} {l1 l2 : List AV} (hs : a.Sub b) (h1 : rdSl a s1 x = some l1) (h2 : rdSl b s2 x = some l2) : rdSl a s2 x = some l2 := by
  unfold rdSl at h1 h2 ⊢
  cases x <;> simp only [reduceCtorEq] at h1 h2 ⊢
  case nils => exact h2
  case ro => exact h2
  case sl =>
    split at h1
    · split at h2
      · rw [if_pos (by assumption)]
        split at h1
        · rename_i b1 hb
          rw [hs _ _ hb] at h2
          simp only at h2
          exact h2
        · cases h1
      · cases h2
    · cases h1
def readsIn (op : Op) (e : Operand → AV) (h1 : Heap) : Prop := match op with
  | .load _ a => ∃ sz s i off l, e a = .ep sz s i off ∧ rdSl h1 sz s = some l
  | .indexAddr _ x _ => ∃ s l, rdSl h1 s (e x) = some l
  | .convert _ _ x => (∃ k m, e x = .int k m) ∨ ∃ s l, rdSl h1 s (e x) = some l
  | .call c => ∀ x, c.args.toList = [x] → (∃ b, e x = .str b) ∨ ∃ s l, rdSl h1 s (e x) = some l
  | _ => False
theorem quiet1_det {op : Op} {e : Operand → AV} {h1 : Heap} {K : AV → Heap → Nat → Prop} (hq : quiet1 op = true) (hs : h1.Sub h) (h0 : readsIn op e h1) (ho : opP T op e h n K) :
    ∃ v, K v h n ∧ ∀ (h' : Heap) (n' : Nat) (K : AV → Heap → Nat → Prop), h1.Sub h' → K v h' n' → opP T op e h' n' K := by
  cases op <;> simp only [quiet1, Bool.false_eq_true] at hq <;> simp only [readsIn] at h0 <;> simp only [opP] at ho ⊢
  case load =>
    obtain ⟨sz, s, i, off, l, a1, a2⟩ := h0
    obtain ⟨sz', s', i', off', l', e1', v', b1, b2, b3, b4, b5, b6⟩ := ho
    rw [a1] at b1
    cases b1
    have a2 := rdSl_both hs a2 b2
    exact ⟨_, b6, fun h' n' K h1 hk => ⟨sz, s, i, off, l', e1', v', a1, rdSl_sub h1 a2, b3, b4, b5, hk⟩⟩
  case convert =>
    split at ho
    · exact ⟨_, ho.2, fun _ _ _ _ hk => ⟨ho.1, hk⟩⟩
    · obtain ⟨e1', ns', b1, b2, b3, b4⟩ := ho
      rcases h0 with ⟨k, m, hx⟩ | ⟨s, l, a2⟩
      · rw [hx] at b3; simp [rdSl] at b3
      · have a2 := rdSl_both hs a2 b3
        exact ⟨_, b4, fun _ _ _ h1 hk => ⟨e1', ns', b1, b2, rdSl_sub h1 a2, hk⟩⟩
    · exact ho.elim
  case indexAddr =>
    obtain ⟨s, l, a2⟩ := h0
    obtain ⟨e1', l', k', i', b1, b2, b3, b4, b5, b6, b7⟩ := ho
    have a2 := rdSl_both hs a2 b3
    exact ⟨_, b7, fun h' n' K h1 hk => ⟨e1', l', k', i', b1, b2, rdSl_sub h1 a2, b4, b5, b6, hk⟩⟩
  case call c =>
    split at ho
    · rename_i b hc
      rw [hc] at hq
      cases b <;> simp only [Bool.false_eq_true] at hq
      generalize c.argTypes.toList = ts at ho ⊢
      generalize hxs : c.args.toList.map e = xs at ho ⊢
      unfold builtinP at ho ⊢
      split at ho
      all_goals first
        | exact ho.elim
        | (rename_i hb; cases hb; done)
        | skip
      · exact ⟨_, ho.2, fun h' n' K hs hk => ⟨ho.1, hk⟩⟩
      · obtain ⟨x, hx, rfl⟩ := map1 hxs
        obtain ⟨e1', l', b1, b2, b3⟩ := ho
        rcases h0 x hx with ⟨bb, hbb⟩ | ⟨s, l, a2⟩
        · rw [hbb] at b2; simp [rdSl] at b2
        · have a2 := rdSl_both hs a2 b2
          exact ⟨_, b3, fun h' n' K hs hk => ⟨e1', l', b1, rdSl_sub hs a2, hk⟩⟩
    · exact ho.elim
theorem quiet1_quiet {op : Op} (h : quiet1 op = true) : quietOp op = true := by
  cases op <;> first | rfl | (simp only [quiet1, Bool.false_eq_true] at h; done) | skip
  case call c =>
    unfold quiet1 at h
    simp only at h
    unfold quietOp
    simp only
    split at h
    · rename_i hc; simp only [hc]
    · cases h
theorem stepA_quiet0 {ops : Array Oper} {o : Oper} {E : Env} (hq : quiet0 o.op = true) {K : Env → Heap → Nat → Prop} (hc : stepA P T ops.toList o E h n K) :
    ∃ v, K (E.put o.dst v) h n ∧ ∀ (E2 : Env) (h' : Heap) (n' : Nat) (K : Env → Heap → Nat → Prop), Same ops o E E2 → K (E2.put o.dst v) h' n' → stepA P T ops.toList o E2 h' n' K := by
  have hqq := quiet0_quiet hq
  unfold stepA at hc
  cases hg : o.guard with
  | none =>
    rw [hg] at hc
    simp only at hc
    rw [callA_quiet hqq] at hc
    obtain ⟨v, q1, q2⟩ := quiet0_det hq hc
    refine ⟨v, q1, fun E2 h' n' K hs hk => ?_⟩
    unfold stepA
    rw [hg]
    simp only
    rw [callA_quiet hqq, ← opP_congr hs.ev]
    exact q2 h' n' _ hk
  | some g =>
    obtain ⟨j, want⟩ := g
    rw [hg] at hc
    simp only at hc
    cases hy : yieldA ops.toList E j with
    | none => rw [hy] at hc; exact hc.elim
    | some y =>
      rw [hy] at hc
      simp only at hc
      by_cases hyw : y = some want
      · rw [if_pos hyw, callA_quiet hqq] at hc
        obtain ⟨v, q1, q2⟩ := quiet0_det hq hc
        refine ⟨v, q1, fun E2 h' n' K hs hk => ?_⟩
        unfold stepA
        rw [hg]
        simp only
        rw [← hs.yield hg, hy]
        simp only
        rw [if_pos hyw, callA_quiet hqq, ← opP_congr hs.ev]
        exact q2 h' n' _ hk
      · rw [if_neg hyw] at hc
        refine ⟨_, hc, fun E2 h' n' K hs hk => ?_⟩
        unfold stepA
        rw [hg]
        simp only
        rw [← hs.yield hg, hy]
        simp only
        rw [if_neg hyw]
        exact hk
theorem stepA_quiet1 {ops : Array Oper} {o : Oper} {E : Env} {h1 : Heap} (hq : quiet1 o.op = true) (hsub : h1.Sub h) {K : Env → Heap → Nat → Prop} (h0 : readsIn o.op (ev E) h1 ∨ ∃ j want, o.guard = some (j, want) ∧ yieldA ops.toList E j ≠ some (some want)) (hc : stepA P T ops.toList o E h n K) :
    ∃ v, K (E.put o.dst v) h n ∧ ∀ (E2 : Env) (h' : Heap) (n' : Nat) (K : Env → Heap → Nat → Prop), Same ops o E E2 → h1.Sub h' → K (E2.put o.dst v) h' n' → stepA P T ops.toList o E2 h' n' K := by
  have hqq := quiet1_quiet hq
  unfold stepA at hc
  cases hg : o.guard with
  | none =>
    rw [hg] at hc
    simp only at hc
    rw [callA_quiet hqq] at hc
    have h0 : readsIn o.op (ev E) h1 := h0.elim id fun ⟨j, want, hq, _⟩ => by rw [hg] at hq; cases hq
    obtain ⟨v, q1, q2⟩ := quiet1_det hq hsub h0 hc
    refine ⟨v, q1, fun E2 h' n' K hs hsub' hk => ?_⟩
    unfold stepA
    rw [hg]
    simp only
    rw [callA_quiet hqq, ← opP_congr hs.ev]
    exact q2 h' n' _ hsub' hk
  | some g =>
    obtain ⟨j, want⟩ := g
    rw [hg] at hc
    simp only at hc
    cases hy : yieldA ops.toList E j with
    | none => rw [hy] at hc; exact hc.elim
    | some y =>
      rw [hy] at hc
      simp only at hc
      by_cases hyw : y = some want
      · have h0 : readsIn o.op (ev E) h1 := h0.elim id fun ⟨j', want', hq, hne⟩ => by
          rw [hg] at hq
          cases hq
          exact absurd (hy.trans (by rw [hyw])) hne
        rw [if_pos hyw, callA_quiet hqq] at hc
        obtain ⟨v, q1, q2⟩ := quiet1_det hq hsub h0 hc
        refine ⟨v, q1, fun E2 h' n' K hs hsub' hk => ?_⟩
        unfold stepA
        rw [hg]
        simp only
        rw [← hs.yield hg, hy]
        simp only
        rw [if_pos hyw, callA_quiet hqq, ← opP_congr hs.ev]
        exact q2 h' n' _ hsub' hk
      · rw [if_neg hyw] at hc
        refine ⟨_, hc, fun E2 h' n' K hs hsub' hk => ?_⟩
        unfold stepA
        rw [hg]
        simp only
        rw [← hs.yield hg, hy]
        simp only
        rw [if_neg hyw]
        exact hk
def SB (sfx : List Nat) (G : Heap) (listed : Array Bool) (h : Heap) : Prop := (∀ k, k ∈ sfx → listed.getD k true = false) → G.Sub h
theorem anyA_mono {ops : Array Oper} {S S' : Array Bool → Heap → Prop} {K K' : Env → Heap → Nat → Prop} (hS : ∀ l h, S l h → S' l h) (hK : ∀ E h n, K E h n → K' E h n) : ∀ (fuel : Nat) {listed : Array Bool} {E : Env} {h : Heap} {n : Nat}, anyA P T ops S K fuel listed E h n → anyA P T ops S' K' fuel listed E h n
  | 0, _, _, _, _, H => ⟨H.1, hK _ _ _ H.2⟩
  | fuel + 1, _, _, _, _, H => ⟨fun hr => hK _ _ _ (H.1 hr), fun i hi o ho => stepA_mono (fun r h' n' hk => ⟨hS _ _ hk.1, anyA_mono hS hK fuel hk.2⟩) (H.2 i hi o ho)⟩
theorem unlisted {listed : Array Bool} {i : Nat} (h1 : listed.getD i true = false) (h2 : listed.getD i false = true) : False := by
  rcases Nat.lt_or_ge i listed.size with h' | h'
  · simp [h'] at h1 h2; rw [h1] at h2; cases h2
  · simp [Array.getElem?_eq_none h'] at h2
theorem takeG {ops : Array Oper} {sfx : List Nat} {G G' h1 : Heap} (hGG : G.Sub G') (h1G : h1.Sub G') {K : Env → Heap → Nat → Prop} {i : Nat} {oi : Oper} (hi : ops[i]? = some oi) {v : AV} (hsi : i ∉ sfx) (hsw : ∀ k ok, k ∈ sfx → ops[k]? = some ok → waitsFor ok i = true) :
    ∀ (fuel : Nat) (listed : Array Bool) (E : Env) (h : Heap) (n : Nat), Closed ops listed → (∀ k, k ∈ sfx → listed.getD k true = false) →
      (∀ j oj, ops[j]? = some oj → j ≠ i → listed.getD j true = false → (∀ e, e ∈ oj.after → Region.binds .any e = true → e.on ≠ i) → oi.apart ops oj = true) →
      i ∈ Region.ready .any ops listed →
      (∀ (E2 : Env) (h' : Heap) (n' : Nat) (K : Env → Heap → Nat → Prop), Same ops oi E E2 → h1.Sub h' → K (E2.put oi.dst v) h' n' → stepA P T ops.toList oi E2 h' n' K) →
      G'.Sub h → anyA P T ops (SB sfx G') K fuel (listed.setIfInBounds i true) (E.put oi.dst v) h n → anyA P T ops (SB sfx G) K (fuel + 1) listed E h n := by
  have weak : ∀ (fuel : Nat) (listed : Array Bool) (E : Env) (h : Heap) (n : Nat), anyA P T ops (SB sfx G') K fuel listed E h n → anyA P T ops (SB sfx G) K fuel listed E h n :=
    fun fuel listed E h n H => anyA_mono (fun l h hs hl id b hb => hs hl id b (hGG id b hb)) (fun _ _ _ hk => hk) fuel H
  intro fuel
  induction fuel with
  | zero =>
    intro listed E h n hcl hsf _ hr hy hSb H
    refine ⟨fun h => (by rw [h] at hr; cases hr), fun j hj o ho => ?_⟩
    by_cases hji : j = i
    · subst hji
      rw [hi] at ho
      obtain rfl := Option.some.inj ho
      exact hy E h n _ (fun _ _ => rfl) (fun id b hb => hSb id b (h1G id b hb)) ⟨fun _ id b hb => hSb id b (hGG id b hb), H⟩
    · have := ready_mono hj hji
      rw [H.1] at this
      cases this
  | succ fuel ih =>
    intro listed E h n hcl hsf hfree hr hy hSb H
    refine ⟨fun h => (by rw [h] at hr; cases hr), fun j hj oj hoj => ?_⟩
    by_cases hji : j = i
    · subst hji
      rw [hi] at hoj
      obtain rfl := Option.some.inj hoj
      exact hy E h n _ (fun _ _ => rfl) (fun id b hb => hSb id b (h1G id b hb)) ⟨fun _ id b hb => hSb id b (hGG id b hb), weak _ _ _ _ _ H⟩
    · have h2 := H.2 j (ready_mono hj hji) oj hoj
      obtain ⟨hjun, oj', hoj', hall⟩ := mem_ready.1 hj
      rw [hoj] at hoj'
      obtain rfl := Option.some.inj hoj'
      have hnot : ∀ e, e ∈ oj.after → Region.binds .any e = true → e.on ≠ i := fun e he hb heq => by
        have h1 := hall e he hb
        rw [heq] at h1
        exact unlisted (mem_ready.1 hr).1 h1
      have hjs : j ∉ sfx := fun hj => by
        have := hsw j oj hj hoj
        unfold waitsFor at this
        rw [Array.any_eq_true'] at this
        obtain ⟨e, he, hb⟩ := this
        simp only [Bool.and_eq_true, beq_iff_eq] at hb
        exact hnot e he hb.1 hb.2
      have hsj : ∀ k, k ∈ sfx → (listed.setIfInBounds j true).getD k true = false := fun k hk => by
        rw [getD_set_ne true (by rintro rfl; exact hjs hk)]; exact hsf k hk
      obtain ⟨a1, a2, a3⟩ := Oper.apart_spec (hfree j oj hoj hji hjun hnot)
      have same : Same ops oj (E.put oi.dst v) E := fun t ht => by
        cases hd : oi.dst with
        | none => rfl
        | some d =>
          have hne : d ≠ t := fun hq => a1 d hd (hq ▸ ht)
          simp [Env.put, hne]
      refine stepA_same same (fun r h' n' hk => ?_) h2
      obtain ⟨k1, k2⟩ := hk
      have k1 : G'.Sub h' := k1 fun k hk => by
        rw [getD_set_ne true (by rintro rfl; exact hjs hk), getD_set_ne true (by rintro rfl; exact hsi hk)]
        exact hsf k hk
      refine ⟨fun _ id b hb => k1 id b (hGG id b hb), ?_⟩
      have keep : Same ops oi E (E.put oj.dst r) := fun t ht => by
        cases hd : oj.dst with
        | none => rfl
        | some d =>
          have hne : d ≠ t := fun hq => a3 d hd (hq ▸ ht)
          simp [Env.put, hne]
      refine ih (listed.setIfInBounds j true) (E.put oj.dst r) h' n' (closed_set hcl hj) hsj (fun k ok hk hki hun hno => ?_) (ready_mono hr (Ne.symm hji)) (fun E2 h3 n3 K3 hs3 hsub3 hk3 => hy E2 h3 n3 K3 (fun t ht => (keep t ht).trans (hs3 t ht)) hsub3 hk3) k1 ?_
      · refine hfree k ok hk hki ?_ hno
        by_cases hjk : j = k
        · subst hjk; exact hjun
        · rw [getD_set_ne true hjk] at hun; exact hun
      · rw [put_comm _ _ _ (fun d hd => fun hq => a2 d hq hd)]
        rw [Array.setIfInBounds_comm _ _ hji]
        exact k2
end
end Go.Proofs.Ytcngfjmfgeckmaa
