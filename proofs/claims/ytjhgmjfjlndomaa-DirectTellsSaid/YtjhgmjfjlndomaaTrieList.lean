/-
  A list of routes in order, against a table of them: what finding, taking out, putting in, and the longest, say of both. No condition.
-/
import Derived.Test.YtjhgmjfjlndomaaRefInto
import Derived.Test.YtjhgmjfjlndomaaTrieNested
namespace Go.Proofs.Ytjhgmjfjlndomaa
open Go.RowKit
set_option linter.unusedVariables false
set_option linter.unusedSimpArgs false

/-- What a list says of a prefix. -/
def mapOf (l : List Rt) : Ad → Nat → Option Int := fun c k => (l.find? (fun r => decide (r.1 = (c, (k : Int))))).map (·.2)
/-- In order, and all are prefixes. -/
structure Srt (l : List Rt) : Prop where
  ok : ∀ r ∈ l, r.1.1.ok ∧ r.1.right
  ord : l.Pairwise (fun x y => x.1.lt y.1)
theorem Srt.nil : Srt [] := ⟨fun r h => by simp at h, .nil⟩
theorem Srt.one {l : List Rt} (h : Srt l) {x y : Rt} (hx : x ∈ l) (hy : y ∈ l) (e : x.1 = y.1) : x = y := by
  have := h.ord
  clear h
  induction l with
  | nil => simp at hx
  | cons z l ih =>
    rw [List.pairwise_cons] at this
    rcases List.mem_cons.1 hx with rfl | hx' <;> rcases List.mem_cons.1 hy with rfl | hy'
    · rfl
    · exact absurd (this.1 y hy') (by rw [e]; exact pf_lt_irrefl _)
    · exact absurd (this.1 x hx') (by rw [e]; exact pf_lt_irrefl _)
    · exact ih hx' hy' this.2
theorem Srt.map {l : List Rt} (h : Srt l) (c : Ad) (k : Nat) (v : Int) : mapOf l c k = some v ↔ ((c, (k : Int)), v) ∈ l := by
  unfold mapOf
  constructor
  · intro e
    cases hf : l.find? (fun r => decide (r.1 = (c, (k : Int)))) with
    | none => rw [hf] at e; cases e
    | some r =>
      rw [hf] at e
      injection e with e
      have h1 := List.find?_some hf
      have h2 := List.mem_of_find?_eq_some hf
      simp only [decide_eq_true_eq] at h1
      obtain ⟨q, u⟩ := r
      simp only at h1 e
      subst h1 e
      exact h2
  · intro hm
    cases hf : l.find? (fun r => decide (r.1 = (c, (k : Int)))) with
    | none =>
      have := List.find?_eq_none.1 hf _ hm
      simp at this
    | some r =>
      have h1 := List.find?_some hf
      have h2 := List.mem_of_find?_eq_some hf
      simp only [decide_eq_true_eq] at h1
      rw [h.one h2 hm h1]; rfl
theorem map_ext {f g : Ad → Nat → Option Int} (h : ∀ c k v, f c k = some v ↔ g c k = some v) : f = g := by
  funext c k
  cases e : f c k with
  | some v => exact ((h c k v).1 e).symm
  | none =>
    cases e' : g c k with
    | none => rfl
    | some v => rw [(h c k v).2 e'] at e; cases e
theorem right_cast {p : Pf} (h : p.right) : ((p.2.toNat : Nat) : Int) = p.2 := Int.toNat_of_nonneg h.1
theorem Srt.get {l : List Rt} (h : Srt l) (p : Pf) (v : Int) : getV (mapOf l) p = some v ↔ (p, v) ∈ l := by
  unfold getV
  by_cases hr : p.right
  · rw [if_pos hr, h.map, right_cast hr]
  · rw [if_neg hr]
    exact ⟨fun e => (by cases e), fun e => absurd (h.ok _ e).2 hr⟩
theorem Srt.getN {l : List Rt} (h : Srt l) (p : Pf) : getV (mapOf l) p = none ↔ ∀ x ∈ l, x.1 ≠ p := by
  constructor
  · intro e x hx hp
    have := (h.get p x.2).2 (by rw [← hp]; exact hx)
    rw [this] at e; cases e
  · intro hx
    cases e : getV (mapOf l) p with
    | none => rfl
    | some v => exact absurd rfl (hx _ ((h.get p v).1 e))

/-- What finding tells. -/
theorem find_parts {l : List Rt} (h : Srt l) (p : Pf) :
    (findI l p = -1 ∧ getV (mapOf l) p = none) ∨ ∃ (k : Nat) (u : Int), findI l p = (k : Int) ∧ l[k]? = some (p, u) ∧ getV (mapOf l) p = some u := by
  cases e : l.findIdx? (fun r => decide (r.1 = p)) with
  | none =>
    left
    refine ⟨by unfold findI; rw [e], (h.getN p).2 fun x hx => ?_⟩
    have := (List.findIdx?_eq_none_iff.1 e) x hx
    simpa using this
  | some k =>
    right
    obtain ⟨hk, h1, h2⟩ := List.findIdx?_eq_some_iff_getElem.1 e
    simp only [decide_eq_true_eq] at h1
    have h3 : l[k]? = some (p, l[k].2) := by rw [List.getElem?_eq_getElem hk, ← h1]
    exact ⟨k, l[k].2, by unfold findI; rw [e], h3, (h.get p _).2 (List.mem_of_getElem? h3)⟩

theorem into_has {l : List Rt} (h : l.Pairwise (fun x y => x.1.lt y.1)) {r x : Rt} : x ∈ intoL l r ↔ x = r ∨ (x ∈ l ∧ x.1 ≠ r.1) := by
  induction l with
  | nil => simp [intoL]
  | cons y l ih =>
    rw [List.pairwise_cons] at h
    have ih := ih h.2
    unfold intoL
    by_cases h1 : y.1.lt r.1
    · rw [if_pos h1, List.mem_cons, ih, List.mem_cons]
      constructor
      · rintro (rfl | rfl | ⟨h2, h3⟩)
        · exact .inr ⟨.inl rfl, fun e => pf_lt_irrefl _ (e ▸ h1)⟩
        · exact .inl rfl
        · exact .inr ⟨.inr h2, h3⟩
      · rintro (rfl | ⟨rfl | h2, h3⟩)
        · exact .inr (.inl rfl)
        · exact .inl rfl
        · exact .inr (.inr ⟨h2, h3⟩)
    · rw [if_neg h1]
      by_cases h2 : y.1 = r.1
      · rw [if_pos h2, List.mem_cons, List.mem_cons]
        constructor
        · rintro (rfl | h3)
          · exact .inl rfl
          · refine .inr ⟨.inr h3, fun e => ?_⟩
            have := h.1 x h3
            rw [h2, ← e] at this
            exact pf_lt_irrefl _ this
        · rintro (rfl | ⟨rfl | h3, h4⟩)
          · exact .inl rfl
          · exact absurd h2 h4
          · exact .inr h3
      · rw [if_neg h2, List.mem_cons, List.mem_cons]
        have h5 : r.1.lt y.1 := (pf_lt_total h2).resolve_left h1
        constructor
        · rintro (rfl | rfl | h3)
          · exact .inl rfl
          · exact .inr ⟨.inl rfl, h2⟩
          · refine .inr ⟨.inr h3, fun e => ?_⟩
            have := pf_lt_trans h5 (h.1 x h3)
            rw [e] at this
            exact pf_lt_irrefl _ this
        · rintro (rfl | ⟨h3, h4⟩)
          · exact .inl rfl
          · exact .inr h3
theorem into_ord {l : List Rt} (h : l.Pairwise (fun x y => x.1.lt y.1)) (r : Rt) : (intoL l r).Pairwise (fun x y => x.1.lt y.1) := by
  induction l with
  | nil => simp [intoL]
  | cons y l ih =>
    have h0 := List.pairwise_cons.1 h
    have ih := ih h0.2
    unfold intoL
    by_cases h1 : y.1.lt r.1
    · rw [if_pos h1, List.pairwise_cons]
      refine ⟨fun x hx => ?_, ih⟩
      rcases (into_has h0.2).1 hx with rfl | ⟨h2, _⟩
      · exact h1
      · exact h0.1 x h2
    · rw [if_neg h1]
      by_cases h2 : y.1 = r.1
      · rw [if_pos h2, List.pairwise_cons]
        exact ⟨fun x hx => h2 ▸ h0.1 x hx, h0.2⟩
      · rw [if_neg h2, List.pairwise_cons]
        have h5 : r.1.lt y.1 := (pf_lt_total h2).resolve_left h1
        refine ⟨fun x hx => ?_, h⟩
        rcases List.mem_cons.1 hx with rfl | hx
        · exact h5
        · exact pf_lt_trans h5 (h0.1 x hx)
theorem into_len {l : List Rt} (h : l.Pairwise (fun x y => x.1.lt y.1)) (r : Rt) : ((∀ x ∈ l, x.1 ≠ r.1) → (intoL l r).length = l.length + 1) ∧ ((∃ x ∈ l, x.1 = r.1) → (intoL l r).length = l.length) := by
  induction l with
  | nil => exact ⟨fun _ => rfl, fun ⟨x, hx, _⟩ => by simp at hx⟩
  | cons y l ih =>
    have h0 := List.pairwise_cons.1 h
    have ih := ih h0.2
    unfold intoL
    by_cases h1 : y.1.lt r.1
    · rw [if_pos h1]
      refine ⟨fun hn => ?_, fun ⟨x, hx, e⟩ => ?_⟩
      · simp only [List.length_cons]; rw [ih.1 fun x hx => hn x (List.mem_cons_of_mem _ hx)]
      · rcases List.mem_cons.1 hx with rfl | hx
        · rw [e] at h1; exact absurd h1 (pf_lt_irrefl _)
        · simp only [List.length_cons]; rw [ih.2 ⟨x, hx, e⟩]
    · rw [if_neg h1]
      by_cases h2 : y.1 = r.1
      · rw [if_pos h2]
        exact ⟨fun hn => absurd h2 (hn y List.mem_cons_self), fun _ => rfl⟩
      · rw [if_neg h2]
        refine ⟨fun _ => rfl, fun ⟨x, hx, e⟩ => ?_⟩
        have h5 : r.1.lt y.1 := (pf_lt_total h2).resolve_left h1
        rcases List.mem_cons.1 hx with rfl | hx
        · exact absurd e h2
        · have := pf_lt_trans h5 (h0.1 x hx)
          rw [e] at this
          exact absurd this (pf_lt_irrefl _)
theorem Srt.into {l : List Rt} (h : Srt l) {r : Rt} (hr : r.1.1.ok ∧ r.1.right) : Srt (intoL l r) :=
  ⟨fun x hx => ((into_has h.ord).1 hx).elim (fun e => e ▸ hr) (fun e => h.ok x e.1), into_ord h.ord r⟩
theorem Srt.into_map {l : List Rt} (h : Srt l) {p : Pf} (u : Int) (hp : p.1.ok) (hr : p.right) :
    putM (mapOf l) p u = mapOf (intoL l (p, u)) ∧ putC (mapOf l) p (l.length : Int) = ((intoL l (p, u)).length : Int) := by
  have hs := h.into (r := (p, u)) ⟨hp, hr⟩
  constructor
  · apply map_ext
    intro c k v
    unfold putM
    rw [if_pos hr, hs.map, into_has h.ord]
    by_cases e : c = p.1 ∧ k = p.2.toNat
    · obtain ⟨rfl, rfl⟩ := e
      rw [updN_same, right_cast hr]
      constructor
      · intro e; injection e with e; subst e; exact .inl rfl
      · rintro (e | ⟨_, e⟩)
        · injection e with _ e; rw [e]
        · exact absurd rfl e
    · rw [updN_ne _ _ e, h.map]
      constructor
      · intro hm
        refine .inr ⟨hm, fun e2 => e ?_⟩
        simp only at e2
        subst e2
        exact ⟨rfl, by simp⟩
      · rintro (e2 | ⟨e2, _⟩)
        · injection e2 with e2 _
          subst e2
          exact absurd ⟨rfl, by simp⟩ e
        · exact e2
  · unfold putC
    rw [if_pos hr]
    have hg : mapOf l p.1 p.2.toNat = getV (mapOf l) p := by unfold getV; rw [if_pos hr]
    rw [hg]
    cases e : getV (mapOf l) p with
    | none => rw [(into_len h.ord (p, u)).1 ((h.getN p).1 e)]; simp
    | some v => rw [(into_len h.ord (p, u)).2 ⟨_, (h.get p v).1 e, rfl⟩]; simp
theorem without_has {l : List Rt} {p : Pf} {x : Rt} : x ∈ withoutL l p ↔ x ∈ l ∧ x.1 ≠ p := by unfold withoutL; rw [List.mem_filter]; simp
theorem Srt.without {l : List Rt} (h : Srt l) (p : Pf) : Srt (withoutL l p) :=
  ⟨fun x hx => h.ok x (without_has.1 hx).1, h.ord.sublist List.filter_sublist⟩
theorem without_len {l : List Rt} (h : l.Pairwise (fun x y => x.1.lt y.1)) (p : Pf) : ((∀ x ∈ l, x.1 ≠ p) → withoutL l p = l) ∧ ((∃ x ∈ l, x.1 = p) → (withoutL l p).length + 1 = l.length) := by
  constructor
  · intro hn
    unfold withoutL
    rw [List.filter_eq_self]
    intro x hx
    simpa using hn x hx
  · rintro ⟨x, hx, e⟩
    induction l with
    | nil => simp at hx
    | cons y l ih =>
      have h0 := List.pairwise_cons.1 h
      unfold withoutL
      rcases List.mem_cons.1 hx with rfl | hx
      · rw [List.filter_cons_of_neg (by simpa using e), List.filter_eq_self.2]
        · rfl
        · intro z hz
          have := h0.1 z hz
          simp only [decide_eq_true_eq]
          intro e2
          rw [e2, e] at this
          exact pf_lt_irrefl _ this
      · have hy : y.1 ≠ p := by
          intro e2
          have := h0.1 x hx
          rw [e, e2] at this
          exact pf_lt_irrefl _ this
        rw [List.filter_cons_of_pos (by simpa using hy)]
        have := ih h0.2 hx
        unfold withoutL at this
        simp only [List.length_cons]
        omega
theorem Srt.without_map {l : List Rt} (h : Srt l) (p : Pf) :
    (if (getV (mapOf l) p).isSome then updN (mapOf l) p.1 p.2.toNat none else mapOf l) = mapOf (withoutL l p) ∧ (if (getV (mapOf l) p).isSome then (l.length : Int) - 1 else (l.length : Int)) = ((withoutL l p).length : Int) := by
  cases e : getV (mapOf l) p with
  | none =>
    rw [(without_len h.ord p).1 ((h.getN p).1 e)]
    exact ⟨rfl, rfl⟩
  | some v =>
    have hm := (h.get p v).1 e
    have hr := (h.ok _ hm).2
    have hlen := (without_len h.ord p).2 ⟨_, hm, rfl⟩
    refine ⟨?_, by simp; omega⟩
    simp only [Option.isSome_some, if_true]
    apply map_ext
    intro c k u
    rw [(h.without p).map, without_has]
    by_cases e2 : c = p.1 ∧ k = p.2.toNat
    · obtain ⟨rfl, rfl⟩ := e2
      rw [updN_same, right_cast hr]
      exact ⟨fun e => (by cases e), fun e => absurd rfl e.2⟩
    · rw [updN_ne _ _ e2, h.map]
      refine ⟨fun hx => ⟨hx, fun e3 => e2 ?_⟩, fun hx => hx.1⟩
      simp only at e3
      subst e3
      exact ⟨rfl, by simp⟩
theorem Srt.get_into {l : List Rt} (h : Srt l) {p : Pf} (u : Int) (hp : p.1.ok) (hr : p.right) : getV (mapOf (intoL l (p, u))) p = some u :=
  ((h.into (r := (p, u)) ⟨hp, hr⟩).get p u).2 ((into_has h.ord).2 (.inl rfl))
theorem Srt.get_without {l : List Rt} (h : Srt l) (p : Pf) : getV (mapOf (withoutL l p)) p = none :=
  ((h.without p).getN p).2 fun x hx => (without_has.1 hx).2
theorem get_no {m : Ad → Nat → Option Int} {p : Pf} (hr : ¬ p.right) : getV m p = none := if_neg hr

/-- What the longest of a list is. -/
theorem lonK_says {l : List Rt} {a : Ad} {low high : Int} : ∀ k, (lonK l a low high k = none → ∀ (j : Nat) (x : Rt), j < k → l[j]? = some x → ¬ inR x.1 a low high) ∧
    (∀ b, lonK l a low high k = some b → ∃ r, l[b]? = some r ∧ inR r.1 a low high ∧ ∀ (j : Nat) (x : Rt), j < k → l[j]? = some x → inR x.1 a low high → x.1.2 ≤ r.1.2)
  | 0 => ⟨fun _ j x hj => by omega, fun b e => by simp [lonK] at e⟩
  | k + 1 => by
    have ih := lonK_says (l := l) (a := a) (low := low) (high := high) k
    unfold lonK
    cases hk : l[k]? with
    | none =>
      simp only
      refine ⟨fun e j x hj hx => ?_, fun b e => ?_⟩
      · by_cases hjk : j = k
        · subst hjk; rw [hk] at hx; cases hx
        · exact ih.1 e j x (by omega) hx
      · obtain ⟨r, h1, h2, h3⟩ := ih.2 b e
        refine ⟨r, h1, h2, fun j x hj hx hi => ?_⟩
        by_cases hjk : j = k
        · subst hjk; rw [hk] at hx; cases hx
        · exact h3 j x (by omega) hx hi
    | some r =>
      simp only
      by_cases hin : inR r.1 a low high
      · rw [if_pos hin]
        cases hb : lonK l a low high k with
        | none =>
          simp only
          refine ⟨fun e => (by cases e), fun b e => ?_⟩
          injection e with e
          subst e
          refine ⟨r, hk, hin, fun j x hj hx hi => ?_⟩
          by_cases hjk : j = k
          · subst hjk; rw [hk] at hx; injection hx with hx; subst hx; exact Int.le_refl _
          · exact absurd hi (ih.1 hb j x (by omega) hx)
        | some b' =>
          simp only
          obtain ⟨r', h1, h2, h3⟩ := ih.2 b' hb
          have hla : lenAt l b' = r'.1.2 := by unfold lenAt; rw [h1]
          rw [hla]
          by_cases hlt : r'.1.2 < r.1.2
          · rw [if_pos hlt]
            refine ⟨fun e => (by cases e), fun b e => ?_⟩
            injection e with e
            subst e
            refine ⟨r, hk, hin, fun j x hj hx hi => ?_⟩
            by_cases hjk : j = k
            · subst hjk; rw [hk] at hx; injection hx with hx; subst hx; exact Int.le_refl _
            · have := h3 j x (by omega) hx hi; omega
          · rw [if_neg hlt]
            refine ⟨fun e => (by cases e), fun b e => ?_⟩
            injection e with e
            subst e
            refine ⟨r', h1, h2, fun j x hj hx hi => ?_⟩
            by_cases hjk : j = k
            · subst hjk; rw [hk] at hx; injection hx with hx; subst hx; omega
            · exact h3 j x (by omega) hx hi
      · rw [if_neg hin]
        refine ⟨fun e j x hj hx => ?_, fun b e => ?_⟩
        · by_cases hjk : j = k
          · subst hjk; rw [hk] at hx; injection hx with hx; subst hx; exact hin
          · exact ih.1 e j x (by omega) hx
        · obtain ⟨r', h1, h2, h3⟩ := ih.2 b e
          refine ⟨r', h1, h2, fun j x hj hx hi => ?_⟩
          by_cases hjk : j = k
          · subst hjk; rw [hk] at hx; injection hx with hx; subst hx; exact absurd hi hin
          · exact h3 j x (by omega) hx hi
/-- Above what was found there is nothing. -/
theorem bestT_top {m : Ad → Nat → Option Int} {a : Ad} {low : Int} : ∀ {K i : Nat} {h : Int}, bestT m a low K = some (i, h) → ∀ j, i < j → j < K → m (a.cut j) j = none
  | 0, i, h, e => by simp [bestT] at e
  | K + 1, i, h, e => by
    intro j h1 h2
    have hi := (bestT_lt e).2.1
    unfold bestT at e
    rw [if_pos (by omega)] at e
    cases h3 : m (a.cut K) K with
    | some h' => rw [h3] at e; injection e with e; injection e with e1 e2; omega
    | none =>
      rw [h3] at e
      by_cases h4 : j = K
      · subst h4; exact h3
      · exact bestT_top e j h1 (by omega)
theorem long_parts {l : List Rt} (h : Srt l) {a : Ad} (ha : a.ok) (low high : Int) :
    (longI l a low high = -1 ∧ bestT (mapOf l) a low (btK high) = none) ∨ ∃ (k : Nat) (x : Nat × Int), longI l a low high = (k : Int) ∧ l[k]? = some (btR a (some x)) ∧ bestT (mapOf l) a low (btK high) = some x := by
  have hin : ∀ (x : Rt), x ∈ l → inR x.1 a low high → ∃ i : Nat, i < btK high ∧ low < (i : Int) ∧ x.1 = (a.cut i, (i : Int)) ∧ mapOf l (a.cut i) i = some x.2 := by
    rintro ⟨⟨c, n⟩, u⟩ hx ⟨h1, h2, h3⟩
    have hr := h3.1
    simp only at h1 h2 hr
    have hc := right_cast hr
    simp only at hc
    have h5 : a.cut n.toNat = c := h3.2
    refine ⟨n.toNat, ?_, by omega, ?_, ?_⟩
    · have := hr.2.1; have := hr.1; unfold btK; simp only at *; omega
    · rw [h5, hc]
    · rw [h5]; exact (h.map _ _ _).2 (by rw [hc]; exact hx)
  have hout : ∀ (i : Nat) (v : Int), i < btK high → low < (i : Int) → mapOf l (a.cut i) i = some v → ((a.cut i, (i : Int)), v) ∈ l ∧ inR (a.cut i, (i : Int)) a low high := by
    intro i v h1 h2 h3
    have hm := (h.map _ _ _).1 h3
    refine ⟨hm, h2, ?_, (h.ok _ hm).2, ?_⟩
    · unfold btK at h1; show (i : Int) ≤ high; omega
    · show a.cut (i : Int).toNat = a.cut i; rw [Int.toNat_natCast]
  have hS := lonK_says (l := l) (a := a) (low := low) (high := high) l.length
  unfold longI
  cases e : lonK l a low high l.length with
  | none =>
    left
    refine ⟨rfl, ?_⟩
    cases e2 : bestT (mapOf l) a low (btK high) with
    | none => rfl
    | some x =>
      obtain ⟨i, v⟩ := x
      obtain ⟨h1, h2, h3⟩ := bestT_lt e2
      obtain ⟨h4, h5⟩ := hout i v h1 h2 h3
      obtain ⟨j, hj⟩ := List.getElem?_of_mem h4
      exact absurd h5 (hS.1 e j _ (List.getElem?_eq_some_iff.1 hj).1 hj)
  | some b =>
    right
    obtain ⟨r, h1, h2, h3⟩ := hS.2 b e
    obtain ⟨i, i1, i2, i3, i4⟩ := hin r (List.mem_of_getElem? h1) h2
    cases e2 : bestT (mapOf l) a low (btK high) with
    | none => rw [bestT_all e2 i i1 i2] at i4; cases i4
    | some x =>
      obtain ⟨i', v⟩ := x
      obtain ⟨j1, j2, j3⟩ := bestT_lt e2
      obtain ⟨j4, j5⟩ := hout i' v j1 j2 j3
      obtain ⟨j, hj⟩ := List.getElem?_of_mem j4
      have h6 := h3 j _ (List.getElem?_eq_some_iff.1 hj).1 hj j5
      rw [i3] at h6
      simp only at h6
      have h7 : ¬ i' < i := fun hlt => by
        have := bestT_top e2 i hlt i1
        rw [this] at i4; cases i4
      obtain rfl : i' = i := by omega
      rw [j3] at i4
      injection i4 with i4
      refine ⟨b, (i', v), rfl, ?_, rfl⟩
      rw [h1]
      obtain ⟨q, u⟩ := r
      simp only at i3 i4
      subst i3 i4
      rfl

end Go.Proofs.Ytjhgmjfjlndomaa
