/-
  A level in plain lists: a filter that tracks the keys of a table. No condition.
-/
import Derived.Test.YtpjjijhojcfmnaaGreatFilLaw
import Derived.Test.YtpjjijhojcfmnaaGreatGTab2
namespace Go.Proofs.YtpjjijhojcfmnaaGreat
set_option linter.unusedVariables false
set_option linter.unusedSimpArgs false

/-- Where all keys lie. -/
def PL (s : Nat) (k : Int) (m : Nat) (l : List Rt) : List Nat := l.flatMap fun r => placesN s r.1 k (m : Int)
structure LvOk (s : Nat) (k : Int) (m : Nat) (c : List Nat) (t : Tb) (l : List Rt) : Prop where
  ok : t.Ok
  rep : Rep t l
  trk : Trk m c (PL s k m l)
theorem cons_rt (r x : Rt) (l : List Rt) : (r :: l).count x = l.count x + (isR x r).toNat := by
  rw [List.count_cons]
  by_cases e : r = x
  · subst e; rw [isR_self]; simp
  · rw [isR_ne e, if_neg (by simpa using e)]; simp
theorem count_is (l : List Rt) (x : Rt) : l.countP (isR x) = l.count x := by
  unfold List.count
  exact List.countP_congr fun y _ => by simp [isR]
theorem into_perm {l : List Rt} (r : Rt) (h : ∀ x ∈ l, x.1 ≠ r.1) : (intoL l r).Perm (r :: l) := by
  rw [List.perm_iff_count]
  intro x
  rw [cons_rt, ← count_is, ← count_is, into_cnt (isR x) r l h]
theorem into_perm_old {l : List Rt} (hs : l.Pairwise (fun x y => x.1.lt y.1)) {p : Pf} {u v : Int} (h : (p, u) ∈ l) : ((p, u) :: intoL l (p, v)).Perm ((p, v) :: l) := by
  rw [List.perm_iff_count]
  intro x
  have := (into_cnt_old (isR x) (p, v) l hs h).1
  rw [cons_rt, cons_rt, ← count_is, ← count_is]
  exact this
theorem without_perm {l : List Rt} (hs : l.Pairwise (fun x y => x.1.lt y.1)) {p : Pf} {u : Int} (h : (p, u) ∈ l) : ((p, u) :: withoutL l p).Perm l := by
  rw [List.perm_iff_count]
  intro x
  have := without_cnt hs h (isR x)
  rw [cons_rt, ← count_is, ← count_is]
  exact this
theorem PL_perm {s : Nat} {k : Int} {m : Nat} {l l' : List Rt} (h : l.Perm l') (i : Nat) : (PL s k m l).count i = (PL s k m l').count i := (h.flatMap_right _).count_eq i
theorem PL_cons {s : Nat} {k : Int} {m : Nat} {l : List Rt} (r : Rt) (i : Nat) : (PL s k m (r :: l)).count i = (PL s k m l).count i + (placesN s r.1 k (m : Int)).count i := by
  unfold PL; rw [List.flatMap_cons, List.count_append, Nat.add_comm]
theorem Trk.same {m : Nat} {c L L' : List Nat} (h : Trk m c L) (e : ∀ i, L'.count i = L.count i) : Trk m c L' := ⟨h.len, h.le, fun i hi => by rw [e]; exact h.cnt i hi⟩
/-- Turning a key. -/
def lvC (s : Nat) (k : Int) (c : List Nat) (t : Tb) (p : Pf) (v : Int) : List Nat :=
  if 0 ≤ v then (if hasT t p = true then c else addC (placesN s p k (c.length : Int)) c) else if hasT t p = true then remC (placesN s p k (c.length : Int)) c else c
def lvT (t : Tb) (p : Pf) (v : Int) : Tb := if 0 ≤ v then putT 16 t p v else if hasT t p = true then delT t p else t
def lvL (l : List Rt) (p : Pf) (v : Int) : List Rt := if 0 ≤ v then intoL l (p, v) else withoutL l p
theorem has_mem {t : Tb} {l : List Rt} (h : Rep t l) {p : Pf} : (hasT t p = true → ∃ u, (p, u) ∈ l) ∧ (hasT t p = false → ∀ r ∈ l, r.1 ≠ p) := by
  rw [h.has]
  constructor
  · intro e
    obtain ⟨r, hr, rfl⟩ := of_decide_eq_true e
    exact ⟨r.2, hr⟩
  · intro e r hr e2
    exact of_decide_eq_false e ⟨r, hr, e2⟩
theorem LvOk.turn {s : Nat} {k : Int} {m : Nat} {c : List Nat} {t : Tb} {l : List Rt} (h : LvOk s k m c t l) (p : Pf) (hp : p.1.ok) (v : Int) : LvOk s k m (lvC s k c t p v) (lvT t p v) (lvL l p v) := by
  have hm := has_mem h.rep (p := p)
  have hlen := h.trk.len
  unfold lvC lvT lvL
  rw [hlen]
  by_cases hv : 0 ≤ v
  · rw [if_pos hv, if_pos hv, if_pos hv]
    have hput := putT_ok 16 t p v h.ok hp
    refine ⟨hput.ok, h.rep.put hput, ?_⟩
    cases hh : hasT t p
    · rw [if_neg (by decide)]
      refine h.trk.add _ fun i => ?_
      rw [PL_perm (into_perm (p, v) (hm.2 hh)), PL_cons]
    · rw [if_pos rfl]
      obtain ⟨u, hu⟩ := hm.1 hh
      refine h.trk.same fun i => ?_
      have h1 := PL_perm (s := s) (k := k) (m := m) (into_perm_old h.rep.ord (v := v) hu) i
      rw [PL_cons, PL_cons] at h1
      simp only at h1
      omega
  · rw [if_neg hv, if_neg hv, if_neg hv]
    cases hh : hasT t p
    · rw [if_neg (by decide), if_neg (by decide)]
      have e : withoutL l p = l := List.filter_eq_self.2 fun x hx => by simpa using hm.2 hh x hx
      rw [e]; exact h
    · rw [if_pos rfl, if_pos rfl]
      have hdel := del_ok h.ok p
      obtain ⟨u, hu⟩ := hm.1 hh
      refine ⟨hdel.ok, h.rep.del hdel, h.trk.rem _ fun i => ?_⟩
      have h1 := PL_perm (s := s) (k := k) (m := m) (without_perm h.rep.ord hu) i
      rw [PL_cons] at h1
      simp only at h1
      omega
theorem lvC_len (s : Nat) (k : Int) (c : List Nat) (t : Tb) (p : Pf) (v : Int) : (lvC s k c t p v).length = c.length := by
  unfold lvC
  split
  · split
    · rfl
    · exact addC_len _ _
  · split
    · exact remC_len _ _
    · rfl
/-- What is there may be there. -/
theorem LvOk.may {s : Nat} {k : Int} {m : Nat} {c : List Nat} {t : Tb} {l : List Rt} (h : LvOk s k m c t l) (hm : 0 < m) {p : Pf} (hh : hasT t p = true) : mayB (placesN s p k (m : Int)) c = true := by
  obtain ⟨u, hu⟩ := (has_mem h.rep).1 hh
  refine h.trk.may (placesN_lt hm) fun i hi => ?_
  unfold PL
  exact List.count_pos_iff.2 (List.mem_flatMap.2 ⟨_, hu, hi⟩)
theorem LvOk.val0 {s : Nat} {k : Int} {m : Nat} {c : List Nat} {t : Tb} {l : List Rt} (h : LvOk s k m c t l) {p : Pf} (hh : hasT t p = false) : valT t p = 0 := (h.rep.no ((has_mem h.rep).2 hh)).2
theorem into_without {l : List Rt} (hs : l.Pairwise (fun x y => x.1.lt y.1)) (p : Pf) (v : Int) : intoL (withoutL l p) (p, v) = intoL l (p, v) := by
  refine ord_unique (into_ord (without_ord hs p) _) (into_ord hs _) fun r => ?_
  rw [into_has (without_ord hs p), into_has hs, without_has]
  constructor
  · rintro (h | ⟨⟨h1, h2⟩, h3⟩)
    · exact .inl h
    · exact .inr ⟨h1, h3⟩
  · rintro (h | ⟨h1, h3⟩)
    · exact .inl h
    · exact .inr ⟨⟨h1, h3⟩, h3⟩

end Go.Proofs.YtpjjijhojcfmnaaGreat
