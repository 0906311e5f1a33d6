/-
  A book of routes in plain lists: what can't be done, what a command leaves, how rows of commands go, and go back. No condition.
-/
import Derived.Test.YtcnecjjgnnkjkaaTrR
import Derived.Test.YtcnecjjgnnkjkaaHopsM
namespace Go.Proofs.Ytcnecjjgnnkjkaa
open Go.RowKit
set_option linter.unusedVariables false
set_option linter.unusedSimpArgs false

def hopsL (R : List Rt) : List Int := R.map (·.2)
/-- A command: its kind, hop, number, prefix, address, seed, and the slice of its batch. -/
structure Cm where
  k : Int
  hop : Int
  n : Int
  p : Pf
  a : Ad
  s : Nat
  b : Value
def cmEn (c : Cm) : List Value := [.int .i64 c.k, .int .i64 c.hop, .int .i64 c.n, .int .u64 (c.p.1.1 : Int), .int .u64 (c.p.1.2 : Int), .int .i64 c.p.2, .int .u64 (c.a.1 : Int), .int .u64 (c.a.2 : Int), .int .u64 (c.s : Int), c.b]
theorem cmEn_len (c : Cm) : (cmEn c).length = 10 := rfl
structure Cm.ok (c : Cm) : Prop where
  k : (Lit.int .i64 c.k).wf = true
  hop : (Lit.int .i64 c.hop).wf = true
  n : (Lit.int .i64 c.n).wf = true
  p : c.p.1.ok
  pl : (Lit.int .i64 c.p.2).wf = true
  a : c.a.ok
  s : c.s < 2 ^ 64
  b : ∃ A m cap, c.b = .slice A m cap
theorem cells_cm (c : Cm) (h : c.ok) : ∀ u ∈ cmEn c, u.oneCell' = true := by
  obtain ⟨A, m, cap, hb⟩ := h.b
  intro u hu
  simp [cmEn, hb] at hu
  rcases hu with rfl | rfl | rfl | rfl | rfl | rfl | rfl | rfl | rfl | rfl <;> rfl
/-- How many routes, and next hops, there may be. -/
structure Lim where
  wd : Nat
  rt : Nat
  mh : Nat
def addE (m : Lim) (R : List Rt) (p : Pf) (hop : Int) : Int :=
  if getV (mapOf R) p = none ∧ m.rt ≤ R.length then 5 else if hop ∉ hopsL (withoutL R p) ∧ m.mh ≤ dist (hopsL (withoutL R p)) then 6 else 0
def checkE (m : Lim) (R : List Rt) (k hop : Int) (p : Pf) : Int :=
  if k ≠ 1 ∧ k ≠ 2 then 1 else if ¬ p.right ∨ (m.wd : Int) < p.2 then 3 else if k = 1 then (if hop < 0 then 1 else addE m R p hop) else if getV (mapOf R) p = none then 4 else 0
/-- A prefix leads to a hop, or, below 0, to none. -/
def setB (R : List Rt) (p : Pf) (hop : Int) : List Rt := if 0 ≤ hop then intoL R (p, hop) else withoutL R p
def wasV (R : List Rt) (p : Pf) : Int := (getV (mapOf R) p).getD (-1)
def cmHop (c : Cm) : Int := if c.k = 1 then c.hop else -1
structure Inv (m : Lim) (R : List Rt) : Prop where
  srt : Srt R
  len : R.length ≤ m.rt
  dst : dist (hopsL R) ≤ m.mh
  hop : ∀ r ∈ R, 0 ≤ r.2 ∧ (Lit.int .i64 r.2).wf = true
  wid : ∀ r ∈ R, r.1.2 ≤ m.wd
/-- Is there room for a hop, of a prefix? -/
def Room (m : Lim) (R : List Rt) (p : Pf) (hop : Int) : Prop := hop < 0 ∨ (p.right ∧ (hop ∈ hopsL (withoutL R p) ∨ dist (hopsL (withoutL R p)) < m.mh))
theorem Inv.nil (m : Lim) : Inv m [] := ⟨Srt.nil, Nat.zero_le _, Nat.zero_le _, fun r h => by simp at h, fun r h => by simp at h⟩
theorem hops_without {R : List Rt} (hs : Srt R) {p : Pf} {u : Int} (h : getV (mapOf R) p = some u) : (hopsL R).Perm (u :: hopsL (withoutL R p)) := by
  have := (without_perm' hs ((hs.get p u).1 h)).map (fun r : Rt => r.2)
  exact this
theorem without_none {R : List Rt} (hs : Srt R) {p : Pf} (h : getV (mapOf R) p = none) : withoutL R p = R := (without_len hs.ord p).1 ((hs.getN p).1 h)
theorem into_without' {l : List Rt} (hs : Srt l) (p : Pf) (v : Int) : intoL (withoutL l p) (p, v) = intoL l (p, v) := by
  refine ord_unique (into_ord (hs.without p).ord _) (into_ord hs.ord _) fun r => ?_
  rw [into_has (hs.without p).ord, into_has hs.ord, without_has]
  constructor
  · rintro (h | ⟨⟨h1, h2⟩, h3⟩)
    · exact .inl h
    · exact .inr ⟨h1, h3⟩
  · rintro (h | ⟨h1, h3⟩)
    · exact .inl h
    · exact .inr ⟨⟨h1, h3⟩, h3⟩
theorem hops_into {R : List Rt} (hs : Srt R) (p : Pf) (hop : Int) : (hopsL (intoL R (p, hop))).Perm (hop :: hopsL (withoutL R p)) := by
  rw [← into_without' hs]
  have := (into_perm' (p, hop) (l := withoutL R p) fun x hx => (without_has.1 hx).2).map (fun r : Rt => r.2)
  exact this
theorem without_set {R : List Rt} (hs : Srt R) (p : Pf) (hop : Int) : withoutL (setB R p hop) p = withoutL R p := by
  unfold setB
  split
  · have h2 : (intoL R (p, hop)).Pairwise (fun x y => x.1.lt y.1) := into_ord hs.ord _
    refine ord_unique (h2.filter _) (hs.without p).ord fun r => ?_
    rw [without_has, without_has, into_has hs.ord]
    constructor
    · rintro ⟨h | h, h2⟩
      · subst h; exact absurd rfl h2
      · exact h
    · rintro ⟨h1, h2⟩; exact ⟨.inr ⟨h1, h2⟩, h2⟩
  · unfold withoutL; rw [List.filter_filter]; simp
/-- What was set goes back. -/
theorem set_back {R : List Rt} (hs : Srt R) {p : Pf} (hr : p.right) (hop : Int) (hh : ∀ u, getV (mapOf R) p = some u → 0 ≤ u) : setB (setB R p hop) p (wasV R p) = R := by
  have key := without_set hs p hop
  have hs2 : (setB R p hop).Pairwise (fun x y => x.1.lt y.1) := by
    unfold setB; split
    · exact into_ord hs.ord _
    · exact (hs.without p).ord
  unfold wasV
  cases hv : getV (mapOf R) p with
  | none =>
    show setB (setB R p hop) p (-1) = R
    rw [setB, if_neg (by decide), key, without_none hs hv]
  | some u =>
    show setB (setB R p hop) p u = R
    rw [setB, if_pos (hh u hv)]
    have hm := (hs.get p u).1 hv
    refine ord_unique (into_ord hs2 _) hs.ord fun r => ?_
    rw [into_has hs2]
    have hk : ∀ r : Rt, r.1 ≠ p → (r ∈ setB R p hop ↔ r ∈ R) := fun r hr => by
      have h1 : r ∈ withoutL (setB R p hop) p ↔ r ∈ withoutL R p := by rw [key]
      rw [without_has, without_has] at h1
      exact ⟨fun h => (h1.1 ⟨h, hr⟩).1, fun h => (h1.2 ⟨h, hr⟩).1⟩
    constructor
    · rintro (h | ⟨h1, h2⟩)
      · subst h; exact hm
      · exact (hk r h2).1 h1
    · intro h
      by_cases e : r.1 = p
      · exact .inl (hs.one h hm e)
      · exact .inr ⟨(hk r e).2 h, e⟩
theorem room_back {m : Lim} {R : List Rt} (hi : Inv m R) {p : Pf} (hr : p.right) (hop : Int) : Room m (setB R p hop) p (wasV R p) := by
  unfold Room
  rw [without_set hi.srt]
  unfold wasV
  cases hv : getV (mapOf R) p with
  | none => exact .inl (by decide)
  | some u =>
    refine .inr ⟨hr, ?_⟩
    show u ∈ hopsL (withoutL R p) ∨ _
    have hp := dist_perm (hops_without hi.srt hv)
    have hd := hi.dst
    rw [hp, dist_cons] at hd
    by_cases hu : u ∈ hopsL (withoutL R p)
    · exact .inl hu
    · rw [if_neg hu] at hd; exact .inr (by omega)
/-- What a command that can be done leaves. -/
structure GoodC (m : Lim) (R : List Rt) (k hop : Int) (p : Pf) : Prop where
  right : p.right
  wid : p.2 ≤ m.wd
  add : k = 1 → 0 ≤ hop ∧ ((∃ u, getV (mapOf R) p = some u) ∨ R.length < m.rt) ∧ (hop ∈ hopsL (withoutL R p) ∨ dist (hopsL (withoutL R p)) < m.mh)
theorem check_good {m : Lim} {R : List Rt} {k hop : Int} {p : Pf} (h : checkE m R k hop p = 0) : GoodC m R k hop p := by
  unfold checkE at h
  split at h
  · cases h
  · split at h
    · cases h
    · rename_i h2
      have h2' := not_or.1 h2
      refine ⟨Decidable.not_not.1 h2'.1, by have := h2'.2; omega, fun hk => ?_⟩
      rw [if_pos hk] at h
      split at h
      · cases h
      · unfold addE at h
        split at h
        · cases h
        · rename_i h3
          split at h
          · cases h
          · rename_i h4
            refine ⟨by omega, ?_, ?_⟩
            · by_cases hn : getV (mapOf R) p = none
              · exact .inr (Nat.lt_of_not_le fun h => h3 ⟨hn, h⟩)
              · exact .inl (Option.ne_none_iff_exists'.1 hn)
            · by_cases hm : hop ∈ hopsL (withoutL R p)
              · exact .inl hm
              · exact .inr (Nat.lt_of_not_le fun h => h4 ⟨hm, h⟩)
def hopOf (k hop : Int) : Int := if k = 1 then hop else -1
theorem good_inv {m : Lim} {R : List Rt} (hi : Inv m R) {k hop : Int} {p : Pf} (hp : p.1.ok) (wh : (Lit.int .i64 hop).wf = true) (hg : GoodC m R k hop p) : Inv m (setB R p (hopOf k hop)) := by
  have hd : dist (hopsL (withoutL R p)) ≤ m.mh := by
    have := hi.dst
    cases hv : getV (mapOf R) p with
    | none => rw [without_none hi.srt hv]; exact this
    | some u =>
      rw [dist_perm (hops_without hi.srt hv), dist_cons] at this
      split at this <;> omega
  have hwo : ∀ r ∈ withoutL R p, r ∈ R := fun r hr => (without_has.1 hr).1
  unfold hopOf
  by_cases hk : k = 1
  · obtain ⟨h0, h1, h2⟩ := hg.add hk
    rw [if_pos hk, setB, if_pos h0]
    refine ⟨hi.srt.into (r := (p, hop)) ⟨hp, hg.right⟩, ?_, ?_, fun r hr => ?_, fun r hr => ?_⟩
    · have hl := into_len hi.srt.ord (p, hop)
      rcases h1 with ⟨u, hu⟩ | h1
      · rw [hl.2 ⟨(p, u), (hi.srt.get p u).1 hu, rfl⟩]; exact hi.len
      · have := into_length R (p, hop); omega
    · rw [dist_perm (hops_into hi.srt p hop), dist_cons]
      split
      · exact hd
      · rcases h2 with h2 | h2
        · contradiction
        · omega
    · rcases (into_has hi.srt.ord).1 hr with h | h
      · subst h; exact ⟨h0, wh⟩
      · exact hi.hop r h.1
    · rcases (into_has hi.srt.ord).1 hr with h | h
      · subst h; exact hg.wid
      · exact hi.wid r h.1
  · rw [if_neg hk, setB, if_neg (by decide)]
    exact ⟨hi.srt.without p, Nat.le_trans (without_le R p) hi.len, hd, fun r hr => hi.hop r (hwo r hr), fun r hr => hi.wid r (hwo r hr)⟩
theorem good_room {m : Lim} {R : List Rt} {k hop : Int} {p : Pf} (hg : GoodC m R k hop p) : Room m R p (hopOf k hop) := by
  unfold Room hopOf
  split
  · rename_i hk; exact .inr ⟨hg.right, (hg.add hk).2.2⟩
  · exact .inl (by decide)
/-! ### Rows of commands -/
def cmSet (R : List Rt) (c : Cm) : List Rt := setB R c.p (hopOf c.k c.hop)
def cmErr (m : Lim) (R : List Rt) (c : Cm) : Int := checkE m R c.k c.hop c.p
/-- The first that can't be done: where, why; and what there is then. -/
def runB (m : Lim) : List Rt → List Cm → Option (Nat × Int) × List Rt
  | R, [] => (none, R)
  | R, c :: cs => if cmErr m R c = 0 then ((runB m (cmSet R c) cs).1.map (fun x => (x.1 + 1, x.2)), (runB m (cmSet R c) cs).2) else (some (0, cmErr m R c), R)
/-- Do: where one was wrong, its error, the routes. -/
def doB (m : Lim) (R : List Rt) (cs : List Cm) : Int × Int × List Rt :=
  match (runB m R cs).1 with
  | none => (-1, 0, (runB m R cs).2)
  | some (i, e) => ((i : Int), e, R)
/-- These go back, the last first: what each had. -/
def Back (m : Lim) (R0 : List Rt) : List Rt → List Rt → Prop
  | [], R => R = R0
  | x :: us, R => ∃ R1, Back m R0 us R1 ∧ Inv m R1 ∧ setB R x.1 x.2 = R1 ∧ Room m R x.1 x.2 ∧ x.1.1.ok ∧ (Lit.int .i64 x.2).wf = true
theorem was_wf {m : Lim} {R : List Rt} (hi : Inv m R) (p : Pf) : (Lit.int .i64 (wasV R p)).wf = true := by
  unfold wasV
  cases hv : getV (mapOf R) p with
  | none => decide
  | some u => exact (hi.hop _ ((hi.srt.get p u).1 hv)).2
theorem was_nonneg {m : Lim} {R : List Rt} (hi : Inv m R) {p : Pf} : ∀ u, getV (mapOf R) p = some u → 0 ≤ u := fun u hu => (hi.hop _ ((hi.srt.get p u).1 hu)).1
theorem back_step {m : Lim} {R0 R : List Rt} {us : List Rt} (h : Back m R0 us R) (hi : Inv m R) {p : Pf} (hp : p.1.ok) (hr : p.right) (hop : Int) : Back m R0 ((p, wasV R p) :: us) (setB R p hop) :=
  ⟨R, h, hi, set_back hi.srt hr hop (was_nonneg hi), room_back hi hr hop, hp, was_wf hi p⟩
theorem checkE_cases {m : Lim} {R : List Rt} {k hop : Int} {p : Pf} : 0 ≤ checkE m R k hop p ∧ checkE m R k hop p ≤ 6 := by
  unfold checkE addE
  repeat' split
  all_goals omega
end Go.Proofs.Ytcnecjjgnnkjkaa
