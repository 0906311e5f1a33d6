/-
  A list of routes put in order by the reference, the table of the same routes, and the hop that both tell. No condition but that words are words.
-/
import Derived.Test.YtcnecjjgnnkjkaaGTrie
namespace Go.Proofs.Ytcnecjjgnnkjkaa
open Go.RowKit
set_option linter.unusedVariables false
set_option linter.unusedSimpArgs false
set_option maxRecDepth 100000
attribute [local go_sem high] eq_ad eq_pf eq_rt

/-- All routes, one behind the other, each in its place. -/
def sortedL (l : List Rt) : List Rt := l.foldl intoL []
/-- All routes put into a table, one behind the other; what is no prefix is passed over. -/
def ofM (l : List Rt) : Ad → Nat → Option Int := l.foldl (fun m r => putM m r.1 r.2) (fun _ _ => none)
theorem sorted_snoc {l : List Rt} {k : Nat} {x : Rt} (h : l[k]? = some x) : sortedL (l.take (k + 1)) = intoL (sortedL (l.take k)) x := by
  obtain ⟨hk, rfl⟩ := List.getElem?_eq_some_iff.1 h
  unfold sortedL
  rw [List.take_succ_eq_append_getElem hk, List.foldl_append]; rfl
theorem ofM_snoc {l : List Rt} {k : Nat} {x : Rt} (h : l[k]? = some x) : ofM (l.take (k + 1)) = putM (ofM (l.take k)) x.1 x.2 := by
  obtain ⟨hk, rfl⟩ := List.getElem?_eq_some_iff.1 h
  unfold ofM
  rw [List.take_succ_eq_append_getElem hk, List.foldl_append]; rfl
theorem foldl_ord : ∀ (l out : List Rt), out.Pairwise (fun x y => x.1.lt y.1) → (l.foldl intoL out).Pairwise (fun x y => x.1.lt y.1) ∧ (l.foldl intoL out).length ≤ out.length + l.length ∧ ∀ x ∈ l.foldl intoL out, x ∈ out ∨ x ∈ l
  | [], out, h => ⟨h, by simp, fun x hx => .inl hx⟩
  | r :: l, out, h => by
    have ih := foldl_ord l (intoL out r) (into_ord h r)
    have hlen := into_length out r
    refine ⟨ih.1, by have := ih.2.1; simp only [List.foldl_cons, List.length_cons]; omega, fun x hx => ?_⟩
    rcases ih.2.2 x hx with h1 | h1
    · rcases into_mem h1 with rfl | h2
      · exact .inr List.mem_cons_self
      · exact .inl h2
    · exact .inr (List.mem_cons_of_mem _ h1)
theorem sorted_ord (l : List Rt) : (sortedL l).Pairwise (fun x y => x.1.lt y.1) := (foldl_ord l [] .nil).1
theorem sorted_le (l : List Rt) : (sortedL l).length ≤ l.length := by have := (foldl_ord l [] .nil).2.1; simpa [sortedL] using this
theorem sorted_mem {l : List Rt} {x : Rt} (h : x ∈ sortedL l) : x ∈ l := ((foldl_ord l [] .nil).2.2 x h).resolve_left (by simp)

/-- A table says what a list says. -/
def Says (m : Ad → Nat → Option Int) (l : List Rt) : Prop := ∀ (c : Ad) (k : Nat) (v : Int), m c k = some v ↔ ((c, (k : Int)), v) ∈ l ∧ Pf.right (c, (k : Int))
theorem says_put {m : Ad → Nat → Option Int} {l : List Rt} (h : Says m l) (hl : l.Pairwise (fun x y => x.1.lt y.1)) (r : Rt) : Says (putM m r.1 r.2) (intoL l r) := by
  obtain ⟨p, u⟩ := r
  intro c k v
  rw [into_has hl]
  unfold putM
  by_cases hr : p.right
  · rw [if_pos hr]
    by_cases e : c = p.1 ∧ k = p.2.toNat
    · obtain ⟨rfl, rfl⟩ := e
      rw [updN_same, right_cast hr]
      constructor
      · intro e; injection e with e; subst e; exact ⟨.inl rfl, hr⟩
      · rintro ⟨e | ⟨_, e⟩, _⟩
        · injection e with _ e; rw [e]
        · exact absurd rfl e
    · rw [updN_ne _ _ e, h c k v]
      constructor
      · rintro ⟨hm, h2⟩
        refine ⟨.inr ⟨hm, fun e2 => e ?_⟩, h2⟩
        simp only at e2
        subst e2
        exact ⟨rfl, by simp⟩
      · rintro ⟨e2 | ⟨e2, _⟩, h2⟩
        · injection e2 with e2 _
          subst e2
          exact absurd ⟨rfl, by simp⟩ e
        · exact ⟨e2, h2⟩
  · rw [if_neg hr, h c k v]
    constructor
    · rintro ⟨hm, h2⟩
      exact ⟨.inr ⟨hm, fun e2 => hr (by simp only at e2; rw [← e2]; exact h2)⟩, h2⟩
    · rintro ⟨e2 | ⟨e2, _⟩, h2⟩
      · injection e2 with e2 _
        rw [e2] at h2
        exact absurd h2 hr
      · exact ⟨e2, h2⟩
theorem foldl_says : ∀ (l out : List Rt) (m : Ad → Nat → Option Int), out.Pairwise (fun x y => x.1.lt y.1) → Says m out → Says (l.foldl (fun m r => putM m r.1 r.2) m) (l.foldl intoL out)
  | [], out, m, _, h => h
  | r :: l, out, m, ho, h => foldl_says l (intoL out r) (putM m r.1 r.2) (into_ord ho r) (says_put h ho r)
theorem sorted_says (l : List Rt) : Says (ofM l) (sortedL l) := foldl_says l [] _ .nil fun c k v => ⟨fun e => (by cases e), fun e => (by simp at e)⟩
theorem long_says {m : Ad → Nat → Option Int} {l : List Rt} (h : Says m l) {a : Ad} (ha : a.ok) (low high : Int) :
    (longI l a low high = -1 ∧ bestT m a low (btK high) = none) ∨ ∃ (k : Nat) (x : Nat × Int), longI l a low high = (k : Int) ∧ l[k]? = some (btR a (some x)) ∧ bestT m a low (btK high) = some x := by
  have hin : ∀ (x : Rt), x ∈ l → inR x.1 a low high → ∃ i : Nat, i < btK high ∧ low < (i : Int) ∧ x.1 = (a.cut i, (i : Int)) ∧ m (a.cut i) i = some x.2 := by
    rintro ⟨⟨c, n⟩, u⟩ hx ⟨h1, h2, h3⟩
    have hr := h3.1
    simp only at h1 h2 hr
    have hc := right_cast hr
    simp only at hc
    have h5 : a.cut n.toNat = c := h3.2
    refine ⟨n.toNat, ?_, by omega, ?_, ?_⟩
    · have := hr.2.1; have := hr.1; unfold btK; simp only at *; omega
    · rw [h5, hc]
    · rw [h5]; exact (h _ _ _).2 (by rw [hc]; exact ⟨hx, hr⟩)
  have hout : ∀ (i : Nat) (v : Int), i < btK high → low < (i : Int) → m (a.cut i) i = some v → ((a.cut i, (i : Int)), v) ∈ l ∧ inR (a.cut i, (i : Int)) a low high := by
    intro i v h1 h2 h3
    obtain ⟨hm, hr⟩ := (h _ _ _).1 h3
    refine ⟨hm, h2, ?_, hr, ?_⟩
    · unfold btK at h1; show (i : Int) ≤ high; omega
    · show a.cut (i : Int).toNat = a.cut i; rw [Int.toNat_natCast]
  have hS := lonK_says (l := l) (a := a) (low := low) (high := high) l.length
  unfold longI
  cases e : lonK l a low high l.length with
  | none =>
    left
    refine ⟨rfl, ?_⟩
    cases e2 : bestT m a low (btK high) with
    | none => rfl
    | some x =>
      obtain ⟨i, v⟩ := x
      obtain ⟨h1, h2, h3⟩ := bestT_lt e2
      obtain ⟨h4, h5⟩ := hout i v h1 h2 h3
      obtain ⟨j, hj⟩ := List.getElem?_of_mem h4
      exact absurd h5 (hS.1 e j _ (List.getElem?_eq_some_iff.1 hj).1 hj)
  | some b =>
    right
    obtain ⟨r, h1, h2, h3⟩ := hS.2 b e
    obtain ⟨i, i1, i2, i3, i4⟩ := hin r (List.mem_of_getElem? h1) h2
    cases e2 : bestT m a low (btK high) with
    | none => rw [bestT_all e2 i i1 i2] at i4; cases i4
    | some x =>
      obtain ⟨i', v⟩ := x
      obtain ⟨j1, j2, j3⟩ := bestT_lt e2
      obtain ⟨j4, j5⟩ := hout i' v j1 j2 j3
      obtain ⟨j, hj⟩ := List.getElem?_of_mem j4
      have h6 := h3 j _ (List.getElem?_eq_some_iff.1 hj).1 hj j5
      rw [i3] at h6
      simp only at h6
      have h7 : ¬ i' < i := fun hlt => by
        have := bestT_top e2 i hlt i1
        rw [this] at i4; cases i4
      obtain rfl : i' = i := by omega
      rw [j3] at i4
      injection i4 with i4
      refine ⟨b, (i', v), rfl, ?_, rfl⟩
      rw [h1]
      obtain ⟨q, u⟩ := r
      simp only at i3 i4
      subst i3 i4
      rfl

def SortRel (w : World) (l : List Rt) (v i : Value) (wr : World) : Prop :=
  ∃ k : Nat, k ≤ l.length ∧ i = .int .i64 k ∧ OwnRts w (sortedL (l.take k)) wr v ∧ Below w.heap.size w wr
/-- The hop that a list tells of a key. -/
def hopV (l : List Rt) (k : Pf) (low : Int) : Option Int := (bestT (ofM l) k.1 low (btK k.2)).map (·.2)
def HopPost (w : World) (l : List Rt) (k : Pf) (low : Int) (e : Ending) (w' : World) : Prop := e = .returned (.tuple #[.int .i64 ((hopV l k low).getD 0), .bool (hopV l k low).isSome]) ∧ Below w.heap.size w w'
end Go.Proofs.Ytcnecjjgnnkjkaa
