/- A table of types. Own work. -/
import Derived.Test.YtplkjfnjdekgpaaLtDraw
namespace Go.Proofs.Ytplkjfnjdekgpaa
open Go

structure TIOk (P : Program) (t : TypeId) (ti : TI) : Prop where
  tbool : ti.ty = .bool → P.underlying t = some .bool
  tint : ∀ k, ti.ty = .int k → P.underlying t = some (.int k)
  tstr : ti.ty = .str → P.underlying t = some .string
  tslice : ∀ e, ti.ty = .slice e → P.underlying t = some (.slice e)
  tstruct : ∀ fs, ti.ty = .struct fs → ∃ F : Array Field, P.underlying t = some (.struct F) ∧ F.toList.map (fun f => (f.offset, f.type)) = fs
  tptr : ti.ty = .ptr → ∃ e, P.underlying t = some (.pointer e)
  tfunc : ti.ty = .func → ∃ a b c, P.underlying t = some (.func a b c)
  info : 0 < ti.sz → ∃ i z, P.info? t = some i ∧ i.size = ti.sz ∧ i.bytes = ti.bytes ∧ i.zero = some z ∧ (∀ c, VR c ti.zero z) ∧ ti.zero.cells.length = ti.sz ∧ (∀ u, u ∈ ti.zero.cells → u.one = true)
  cmp : ∀ fs, ti.ty = .struct fs → ti.cmp = true → P.stoodInHeld t = false ∧ P.eqGuardType P.depth t = false ∧
    ∃ F : Array Field, P.underlying t = some (.struct F) ∧ F.toList.map (fun f => (f.offset, f.type)) = fs ∧ (∀ f, f ∈ F.toList → f.name ≠ "_") ∧ (∀ (i : Nat) (p : Nat × TypeId), fs[i]? = some p → p.1 = i)

def lookT : List (Nat × TI) → Nat → TI
  | [], _ => {}
  | (k, ti) :: r, t => if k = t then ti else lookT r t

section
variable {P : Program}

theorem TIOk.none (t : TypeId) : TIOk P t {} where
  tbool h := by cases h
  tint _ h := by cases h
  tstr h := by cases h
  tslice _ h := by cases h
  tstruct _ h := by cases h
  tptr h := by cases h
  tfunc h := by cases h
  info h := absurd h (Nat.lt_irrefl 0)
  cmp _ h := by cases h

theorem lookT_ok : ∀ (tab : List (Nat × TI)), (∀ p, p ∈ tab → TIOk P p.1 p.2) → ∀ t, TIOk P t (lookT tab t)
  | [], _, t => TIOk.none t
  | (k, ti) :: r, h, t => by
    unfold lookT
    split
    · rename_i hk; subst hk; exact h (k, ti) (by simp)
    · exact lookT_ok r (fun p hp => h p (by simp [hp])) t

theorem TEOk.of_tab (tab : List (Nat × TI)) (h : ∀ p, p ∈ tab → TIOk P p.1 p.2) : TEOk P (lookT tab) where
  tbool t := (lookT_ok tab h t).tbool
  tint t := (lookT_ok tab h t).tint
  tstr t := (lookT_ok tab h t).tstr
  tslice t := (lookT_ok tab h t).tslice
  tstruct t := (lookT_ok tab h t).tstruct
  tptr t := (lookT_ok tab h t).tptr
  tfunc t := (lookT_ok tab h t).tfunc
  info t := (lookT_ok tab h t).info
  cmp t := (lookT_ok tab h t).cmp

variable {t : TypeId} {i : TypeInfo} {b : Nat}

theorem info_one {z : Value} {u : AV} {ti : TI} (hi : P.info? t = some i) (h1 : i.size = 1) (hb : i.bytes = ti.bytes) (hz : i.zero = some z) (hv : ∀ c, VR c ti.zero z) (ho : ti.zero.one = true) (hs : ti.sz = 1) :
    ∃ i z, P.info? t = some i ∧ i.size = ti.sz ∧ i.bytes = ti.bytes ∧ i.zero = some z ∧ (∀ c, VR c ti.zero z) ∧ ti.zero.cells.length = ti.sz ∧ (∀ u, u ∈ ti.zero.cells → u.one = true) := by
  have hc : ti.zero.cells = [ti.zero] := by
    cases hq : ti.zero <;> first | rfl | (rw [hq] at ho; cases ho)
  exact ⟨i, z, hi, by rw [h1, hs], hb, hz, hv, by rw [hc, hs]; rfl, fun u hu => by rw [hc] at hu; rw [List.mem_singleton.1 hu]; exact ho⟩

theorem TIOk.bool (hu : P.underlying t = some .bool) (hi : P.info? t = some i) (h1 : i.size = 1) (hb : i.bytes = b) (hz : i.zero = some (.bool false)) : TIOk P t ⟨.bool, 1, b, .bool false, false⟩ where
  tbool _ := hu
  tint _ h := by cases h
  tstr h := by cases h
  tslice _ h := by cases h
  tstruct _ h := by cases h
  tptr h := by cases h
  tfunc h := by cases h
  info _ := info_one (u := .bool false) hi h1 hb hz (fun c => .bool _) rfl rfl
  cmp _ h := by cases h

theorem TIOk.int {k : IntKind} (hu : P.underlying t = some (.int k)) (hi : P.info? t = some i) (h1 : i.size = 1) (hb : i.bytes = b) (hz : i.zero = some (.int k 0)) : TIOk P t ⟨.int k, 1, b, .int k 0, false⟩ where
  tbool h := by cases h
  tint _ h := by cases h; exact hu
  tstr h := by cases h
  tslice _ h := by cases h
  tstruct _ h := by cases h
  tptr h := by cases h
  tfunc h := by cases h
  info _ := info_one (u := .int k 0) hi h1 hb hz (fun c => .int _ _) rfl rfl
  cmp _ h := by cases h

theorem TIOk.str {s : ByteArray} (hu : P.underlying t = some .string) (hi : P.info? t = some i) (h1 : i.size = 1) (hb : i.bytes = b) (hz : i.zero = some (.string s)) : TIOk P t ⟨.str, 1, b, .str s, false⟩ where
  tbool h := by cases h
  tint _ h := by cases h
  tstr _ := hu
  tslice _ h := by cases h
  tstruct _ h := by cases h
  tptr h := by cases h
  tfunc h := by cases h
  info _ := info_one (u := .str s) hi h1 hb hz (fun c => .str _) rfl rfl
  cmp _ h := by cases h

theorem TIOk.slice {e : TypeId} (hu : P.underlying t = some (.slice e)) (hi : P.info? t = some i) (h1 : i.size = 1) (hb : i.bytes = b) (hz : i.zero = some (.slice .none 0 0)) : TIOk P t ⟨.slice e, 1, b, .nils, false⟩ where
  tbool h := by cases h
  tint _ h := by cases h
  tstr h := by cases h
  tslice _ h := by cases h; exact hu
  tstruct _ h := by cases h
  tptr h := by cases h
  tfunc h := by cases h
  info _ := info_one (u := .nils) hi h1 hb hz (fun c => .nils) rfl rfl
  cmp _ h := by cases h

theorem TIOk.func {x : Array TypeId} {y : Array TypeId} {v : Bool} (hu : P.underlying t = some (.func x y v)) (hi : P.info? t = some i) (h1 : i.size = 1) (hb : i.bytes = b) (hz : i.zero = some .nilFunc) : TIOk P t ⟨.func, 1, b, .nilf, false⟩ where
  tbool h := by cases h
  tint _ h := by cases h
  tstr h := by cases h
  tslice _ h := by cases h
  tstruct _ h := by cases h
  tptr h := by cases h
  tfunc _ := ⟨x, y, v, hu⟩
  info _ := info_one (u := .nilf) hi h1 hb hz (fun c => .nilf) rfl rfl
  cmp _ h := by cases h

theorem TIOk.struct {F : Array Field} {fs : List (Nat × TypeId)} {vs : Array Value} {cs : List AV} {n : Nat} {cm : Bool} (hu : P.underlying t = some (.struct F)) (hF : F.toList.map (fun f => (f.offset, f.type)) = fs) (hi : P.info? t = some i) (h1 : i.size = n) (hb : i.bytes = b)
    (hz : i.zero = some (.agg vs)) (hcs : vs.toList.map ofVal = cs) (hone : cs.all AV.one = true) (hn : cs.length = n)
    (hcm : cm = true → P.stoodInHeld t = false ∧ P.eqGuardType P.depth t = false ∧ F.toList.all (fun f => decide (f.name ≠ "_")) = true ∧ (fs.zipIdx.all fun p => decide (p.1.1 = p.2)) = true) : TIOk P t ⟨.struct fs, n, b, .agg cs, cm⟩ where
  tbool h := by cases h
  tint _ h := by cases h
  tstr h := by cases h
  tslice _ h := by cases h
  tstruct _ h := by cases h; exact ⟨F, hu, hF⟩
  tptr h := by cases h
  tfunc h := by cases h
  info _ := by
    subst hcs
    refine ⟨i, _, hi, h1, hb, hz, fun c => ?_, hn, fun u hu => List.all_eq_true.1 hone u hu⟩
    refine .agg _ _ (by simp) (fun u hu => List.all_eq_true.1 hone u hu) (fun j u v hj hv => ?_)
    have hv' : vs.toList[j]? = some v := by simpa using hv
    rw [List.getElem?_map, hv'] at hj
    obtain rfl := Option.some.inj hj
    exact ofVal_ok c v
  cmp fs' h hc := by
    cases h
    obtain ⟨a1, a2, a3, a4⟩ := hcm hc
    refine ⟨a1, a2, F, hu, hF, fun f hf => by simpa using List.all_eq_true.1 a3 f hf, fun j p hj => ?_⟩
    have := List.all_eq_true.1 a4 (p, j) (by rw [List.mem_zipIdx_iff_getElem?]; simpa using hj)
    simpa using this

end
end Go.Proofs.Ytplkjfnjdekgpaa
