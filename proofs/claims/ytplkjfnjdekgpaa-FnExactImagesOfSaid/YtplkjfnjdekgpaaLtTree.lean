/- Owned trees: values whose rows are all one's own. Own work. -/
import Derived.Test.YtplkjfnjdekgpaaLtBorrow
namespace Go.Proofs.Ytplkjfnjdekgpaa
open Go

mutual
/-- x is owned in h, with the ids I; frozen it is x'. -/
inductive Tree (h : Heap) : AV → AV → List Nat → Prop
  | atom (u : AV) (hu : u.Lt 0) (hn : NoRo u) : Tree h u u []
  | sl (sz id : Nat) (ex : Bool) (b b' : List AV) (I : List Nat) (hb : h id = some b) (ht : TreeL h b b' I) (hid : id ∉ I) : Tree h (.sl sz id 0 b.length b.length ex) (.ro sz ex b') (id :: I)
  | agg (cs cs' : List AV) (I : List Nat) (ht : TreeL h cs cs' I) : Tree h (.agg cs) (.agg cs') I
inductive TreeL (h : Heap) : List AV → List AV → List Nat → Prop
  | nil : TreeL h [] [] []
  | cons (u u' : AV) (l l' : List AV) (I J : List Nat) (hu : Tree h u u' I) (hl : TreeL h l l' J) (hd : ∀ i, i ∈ I → i ∉ J) : TreeL h (u :: l) (u' :: l') (I ++ J)
end

theorem AV.Lt.mono {n m : Nat} {u : AV} (h : u.Lt n) (hn : n ≤ m) : u.Lt m := by
  induction h with
  | bool => exact .bool _
  | int => exact .int _ _
  | str => exact .str _
  | nils => exact .nils
  | ro _ _ _ _ ih => exact .ro _ _ _ ih
  | sl _ _ _ _ _ _ hid => exact .sl _ _ _ _ _ _ (by omega)
  | ep _ _ _ _ _ ih => exact .ep _ _ _ _ ih
  | nilp => exact .nilp
  | nilf => exact .nilf
  | fn _ _ _ ih => exact .fn _ _ ih
  | agg _ _ ih => exact .agg _ ih
  | tup _ _ ih => exact .tup _ ih
  | undef => exact .undef

mutual
theorem Tree.frz {n : Nat} {h g : Heap} : ∀ {x x' : AV} {I : List Nat}, Tree h x x' I → (∀ id b, id ∈ I → h id = some b → n ≤ id ∧ g id = some b) → Frz n g x x'
  | _, _, _, .atom u hu hn, _ => .keep u (hu.mono (Nat.zero_le _))
  | _, _, _, .sl sz id ex b b' I hb ht hid, hg => by
    obtain ⟨h1, h2⟩ := TreeL.frz ht (fun i b hi => hg i b (List.mem_cons_of_mem _ hi))
    have hgg := hg id b (by simp) hb
    have := Frz.sl (n := n) (h := g) sz id 0 b.length b.length ex b b' hgg.1 hgg.2 (by omega) h1 (fun i e e' k1 k2 => h2 i e e' (by simpa using k1) k2)
    simpa using this
  | _, _, _, .agg cs cs' I ht, hg => by
    obtain ⟨h1, h2⟩ := TreeL.frz ht hg
    exact .agg cs cs' h1 h2
theorem TreeL.frz {n : Nat} {h g : Heap} : ∀ {l l' : List AV} {I : List Nat}, TreeL h l l' I → (∀ id b, id ∈ I → h id = some b → n ≤ id ∧ g id = some b) → l'.length = l.length ∧ ∀ (i : Nat) (u u' : AV), l[i]? = some u → l'[i]? = some u' → Frz n g u u'
  | _, _, _, .nil, _ => ⟨rfl, fun i u u' h => by simp at h⟩
  | _, _, _, .cons u u' l l' I J hu hl hd, hg => by
    have k := Tree.frz hu (fun i b hi => hg i b (List.mem_append_left _ hi))
    obtain ⟨h1, h2⟩ := TreeL.frz hl (fun i b hi => hg i b (List.mem_append_right _ hi))
    refine ⟨by simp [h1], fun i x x' g1 g2 => ?_⟩
    cases i with
    | zero => simp at g1 g2; subst g1; subst g2; exact k
    | succ i => exact h2 i x x' (by simpa using g1) (by simpa using g2)
end

mutual
theorem Tree.keep {h g : Heap} : ∀ {x x' : AV} {I : List Nat}, Tree h x x' I → (∀ id, id ∈ I → g id = h id) → Tree g x x' I
  | _, _, _, .atom u hu hn, _ => .atom u hu hn
  | _, _, _, .sl sz id ex b b' I hb ht hid, hg => .sl sz id ex b b' I (by rw [hg id (by simp)]; exact hb) (TreeL.keep ht fun i hi => hg i (List.mem_cons_of_mem _ hi)) hid
  | _, _, _, .agg cs cs' I ht, hg => .agg cs cs' I (TreeL.keep ht hg)
theorem TreeL.keep {h g : Heap} : ∀ {l l' : List AV} {I : List Nat}, TreeL h l l' I → (∀ id, id ∈ I → g id = h id) → TreeL g l l' I
  | _, _, _, .nil, _ => .nil
  | _, _, _, .cons u u' l l' I J hu hl hd, hg => .cons u u' l l' I J (Tree.keep hu fun i hi => hg i (List.mem_append_left _ hi)) (TreeL.keep hl fun i hi => hg i (List.mem_append_right _ hi)) hd
end

mutual
theorem Tree.noRo {h : Heap} : ∀ {x x' : AV} {I : List Nat}, Tree h x x' I → NoRo x
  | _, _, _, .atom u _ hn => hn
  | _, _, _, .sl sz id ex b b' I _ _ _ => .sl _ _ _ _ _ _
  | _, _, _, .agg cs cs' I ht => .agg _ fun _ u hu => TreeL.noRo ht u (List.mem_of_getElem? hu)
theorem TreeL.noRo {h : Heap} : ∀ {l l' : List AV} {I : List Nat}, TreeL h l l' I → ∀ u, u ∈ l → NoRo u
  | _, _, _, .nil => fun u hu => by cases hu
  | _, _, _, .cons u u' l l' I J hu hl hd => fun y hy => by
    rcases List.mem_cons.1 hy with rfl | hy
    · exact Tree.noRo hu
    · exact TreeL.noRo hl y hy
end

theorem NoRo.cells {x : AV} (hx : NoRo x) : ∀ u, u ∈ x.cells → NoRo u := by
  intro u hu
  cases hx with
  | agg cs hl => obtain ⟨i, hi⟩ := List.mem_iff_getElem?.1 hu; exact hl i u hi
  | _ => simp [AV.cells] at hu; subst hu; constructor <;> assumption

mutual
/-- All the rows of a tree hold no frozen row. -/
theorem Tree.rows {h : Heap} : ∀ {x x' : AV} {I : List Nat}, Tree h x x' I → ∀ id b, id ∈ I → h id = some b → ∀ e, e ∈ b → NoRo e
  | _, _, _, .atom u hu hn => fun id b hi => by cases hi
  | _, _, _, .sl sz id ex b b' I hb ht hid => fun id2 b2 hi hb2 => by
    rcases List.mem_cons.1 hi with rfl | hi
    · rw [hb] at hb2
      obtain rfl := Option.some.inj hb2
      exact TreeL.noRo ht
    · exact TreeL.rows ht id2 b2 hi hb2
  | _, _, _, .agg cs cs' I ht => TreeL.rows ht
theorem TreeL.rows {h : Heap} : ∀ {l l' : List AV} {I : List Nat}, TreeL h l l' I → ∀ id b, id ∈ I → h id = some b → ∀ e, e ∈ b → NoRo e
  | _, _, _, .nil => fun id b hi => by cases hi
  | _, _, _, .cons u u' l l' I J hu hl hd => fun id b hi hb => by
    rcases List.mem_append.1 hi with hi | hi
    · exact Tree.rows hu id b hi hb
    · exact TreeL.rows hl id b hi hb
end

theorem TreeL.length {h : Heap} {l l' : List AV} {I : List Nat} (hl : TreeL h l l' I) : l'.length = l.length := (TreeL.frz (n := 0) hl (fun _ _ _ hb => ⟨Nat.zero_le _, hb⟩)).1

theorem TreeL.append {h : Heap} {l l' m m' : List AV} {I J : List Nat} (hl : TreeL h l l' I) (hm : TreeL h m m' J) (hd : ∀ i, i ∈ I → i ∉ J) : TreeL h (l ++ m) (l' ++ m') (I ++ J) := by
  induction l generalizing l' I with
  | nil => cases hl; exact hm
  | cons x l ih =>
    cases hl with
    | cons _ x' _ l'' I1 J1 hx hl hd1 =>
      have := ih hl (fun i hi => hd i (List.mem_append_right _ hi))
      have h2 := TreeL.cons x x' _ _ I1 (J1 ++ J) hx this (fun i hi hj => by
        rcases List.mem_append.1 hj with hj | hj
        · exact hd1 i hi hj
        · exact hd i (List.mem_append_left _ hi) hj)
      rw [List.append_assoc]
      exact h2

theorem TreeL.one {h : Heap} {u u' : AV} {J : List Nat} (hu : Tree h u u' J) : TreeL h [u] [u'] J := by
  have := TreeL.cons u u' [] [] J [] hu .nil (fun i _ h => by cases h)
  simpa using this

theorem TreeL.snoc {h : Heap} {l l' : List AV} {I J : List Nat} {u u' : AV} (hl : TreeL h l l' I) (hu : Tree h u u' J) (hd : ∀ i, i ∈ I → i ∉ J) : TreeL h (l ++ [u]) (l' ++ [u']) (I ++ J) :=
  hl.append (.one hu) hd

theorem Tree.int {h : Heap} {x : AV} {k : IntKind} {m : Int} {I : List Nat} (ht : Tree h x (.int k m) I) : x = .int k m ∧ I = [] := by cases ht; exact ⟨rfl, rfl⟩
theorem Tree.bool {h : Heap} {x : AV} {b : Bool} {I : List Nat} (ht : Tree h x (.bool b) I) : x = .bool b ∧ I = [] := by cases ht; exact ⟨rfl, rfl⟩
theorem Tree.str {h : Heap} {x : AV} {b : ByteArray} {I : List Nat} (ht : Tree h x (.str b) I) : x = .str b ∧ I = [] := by cases ht; exact ⟨rfl, rfl⟩
theorem Tree.nils {h : Heap} {x : AV} {I : List Nat} (ht : Tree h x .nils I) : x = .nils ∧ I = [] := by cases ht; exact ⟨rfl, rfl⟩
theorem Tree.ro {h : Heap} {x : AV} {sz : Nat} {ex : Bool} {b' : List AV} {I : List Nat} (ht : Tree h x (.ro sz ex b') I) : ∃ id b J, x = .sl sz id 0 b.length b.length ex ∧ I = id :: J ∧ h id = some b ∧ TreeL h b b' J ∧ id ∉ J := by
  cases ht with
  | atom u hu hn => cases hn
  | sl sz id ex b b' I hb ht hid => exact ⟨id, b, I, rfl, rfl, hb, ht, hid⟩

/-- A list of what has no rows. -/
theorem TreeL.atoms {h : Heap} : ∀ (cs : List AV), (∀ u, u ∈ cs → u.Lt 0 ∧ NoRo u) → TreeL h cs cs []
  | [], _ => .nil
  | u :: cs, hc => TreeL.cons u u cs cs [] [] (.atom u (hc u (by simp)).1 (hc u (by simp)).2) (TreeL.atoms cs fun v hv => hc v (by simp [hv])) (fun i hi => by cases hi)

theorem Tree.aggE {h : Heap} {x : AV} {cs' : List AV} {I : List Nat} (ht : Tree h x (.agg cs') I) : ∃ cs, x = .agg cs ∧ TreeL h cs cs' I := by
  cases ht with
  | atom u hu hn =>
    refine ⟨cs', rfl, TreeL.atoms cs' fun u hm => ?_⟩
    obtain ⟨i, hi⟩ := List.mem_iff_getElem?.1 hm
    cases hu with | agg _ h1 => cases hn with | agg _ h2 => exact ⟨h1 i u hi, h2 i u hi⟩
  | agg cs cs' I ht => exact ⟨cs, rfl, ht⟩

end Go.Proofs.Ytplkjfnjdekgpaa
