/-
  When a table grows, in plain lists: a stash is longer than eight only where there are as many buckets as there may be; one bucket holds twelve keys, and not thirteen. No condition.
-/
import Derived.Test.YtpjjijhojcfmnaaCkLaw
namespace Go.Proofs.Ytpjjijhojcfmnaa
set_option linter.unusedVariables false
set_option linter.unusedSimpArgs false

/-- A long stash stands only in a full table. -/
def Fine (t : Tb) : Prop := t.st.length ≤ 8 ∨ 65536 ≤ t.n
theorem fine_step {grow : Tb → Tb} {t : Tb} (hg : ∀ t' : Tb, t'.Ok → t'.n = t.n → Fine (grow t')) (h : t.Ok) (hf : Fine t) (p : Pf) (v : Int) (hp : p.1.ok) : Fine (putStep grow t p v) := by
  have l1 := b1_lt h.n1 p
  have l2 := b2_lt h.n1 p
  have hset : ∀ i b, Fine (t.set i b) := fun i b => by
    unfold Fine; rw [Tb.set_n]; exact hf
  unfold putStep
  by_cases a1 : hasB (t.at (t.b1 p)) p = true
  · rw [if_pos a1]; exact hset _ _
  rw [if_neg a1]
  by_cases a2 : hasB (t.at (t.b2 p)) p = true
  · rw [if_pos a2]; exact hset _ _
  rw [if_neg a2]
  by_cases a3 : stHas t p = true
  · rw [if_pos a3]
    obtain ⟨⟨p', u⟩, hr, e⟩ := of_decide_eq_true a3
    simp only at e
    subst e
    have := (into_cnt_old (fun _ => true) (p', v) t.st h.srt hr).2
    unfold Fine at *
    simp only at this ⊢
    rw [this]; exact hf
  rw [if_neg a3]
  by_cases a4 : canB (t.at (t.b1 p)) p = true
  · rw [if_pos a4]; exact hset _ _
  rw [if_neg a4]
  by_cases a5 : canB (t.at (t.b2 p)) p = true
  · rw [if_pos a5]; exact hset _ _
  rw [if_neg a5]
  have h0 := absent_tc h (by simpa using a1) (by simpa using a2) (by simpa using a3)
  have b4 : ∀ x ∈ t.at (t.b2 p), x.1 = true := by
    rcases putB_cases (t.at (t.b2 p)) p v with b | b | b
    · rw [b.1] at a2; exact absurd rfl a2
    · rw [b.2.1] at a5; exact absurd rfl a5
    · exact b.2.2.2
  have hk := kick_ok 16 0 (v := v) h hp h0 (.inr rfl) l2 b4
  generalize kick 16 0 t p v (t.b2 p) = r at hk
  obtain ⟨t', o⟩ := r
  cases o with
  | none =>
    have h1 : t'.n = t.n := hk.n
    have h2 : t'.st = t.st := hk.st
    unfold Fine at *
    simp only
    rw [h1, h2]; exact hf
  | some r =>
    have hl := hk.left r rfl
    simp only at hl
    obtain ⟨s1, s2⟩ := stash_in hk.ok hl.1 hl.2
    simp only
    by_cases hg8 : 8 < (intoL t'.st r).length ∧ t'.n < 65536
    · rw [if_pos hg8]; exact hg _ s1 hk.n
    · rw [if_neg hg8]
      unfold Fine
      simp only
      show (intoL t'.st r).length ≤ 8 ∨ 65536 ≤ t'.n
      omega
theorem fine_puts {put : Tb → Pf → Int → Tb} (hput : ∀ t p v, t.Ok → p.1.ok → PutOk t p v (put t p v)) {m : Nat} (hf : ∀ t p v, t.Ok → p.1.ok → m ≤ t.n → Fine t → Fine (put t p v)) : ∀ (l : List Rt) {t : Tb}, t.Ok → (∀ r ∈ l, r.1.1.ok) → m ≤ t.n → Fine t →
    Fine (l.foldl (fun t r => put t r.1 r.2) t)
  | [], t, _, _, _, h => h
  | r :: l, t, h, ho, hm, hft => by
    have hr := hput t r.1 r.2 h (ho r (by simp))
    exact fine_puts hput hf l hr.ok (fun x hx => ho x (by simp [hx])) (Nat.le_trans hm hr.n) (hf t r.1 r.2 h (ho r (by simp)) hm hft)
theorem fine_put : ∀ (d : Nat) (t : Tb) (p : Pf) (v : Int), t.Ok → p.1.ok → 65536 ≤ t.n * 2 ^ d → Fine t → Fine (putT d t p v)
  | 0, t, p, v, h, hp, hd, hf => .inr (by rw [Nat.pow_zero, Nat.mul_one] at hd; exact Nat.le_trans hd (putT_ok 0 t p v h hp).n)
  | d + 1, t, p, v, h, hp, hd, hf => by
    by_cases hn : 65536 ≤ t.n
    · exact .inr (Nat.le_trans hn (putT_ok (d + 1) t p v h hp).n)
    · rw [Nat.pow_succ] at hd
      refine fine_step (fun t' ht' hn' => by
        unfold growStep
        refine fine_puts (m := min (2 * t'.n) 65536) (putT_ok d) (fun t2 p2 v2 h2 hp2 hm2 hf2 => fine_put d t2 p2 v2 h2 hp2 ?_ hf2) (keysT t') (fresh_ok ht') ht'.ok (by rw [fresh_n]; exact Nat.le_refl _) (.inl (by simp [fresh]))
        rw [hn'] at hm2
        by_cases h2n : 2 * t.n ≤ 65536
        · rw [Nat.min_eq_left h2n] at hm2
          refine Nat.le_trans (by rw [Nat.mul_comm (2 ^ d), ← Nat.mul_assoc, Nat.mul_comm t.n 2] at hd; exact hd) (Nat.mul_le_mul_right _ hm2)
        · rw [Nat.min_eq_right (by omega)] at hm2
          exact Nat.le_trans hm2 (Nat.le_mul_of_pos_right _ Nat.one_le_two_pow)) h hf p v hp

/-! ### One bucket -/
structure OneB (k : Nat) (t : Tb) : Prop where
  ok : t.Ok
  n : t.n = 1
  tot : tc (fun _ => true) t = k
  full : 0 < t.st.length → bc (fun _ => true) (t.at 0) = 4
theorem one_tc {t : Tb} (hn : t.n = 1) (q : Rt → Bool) : tc q t = bc q (t.at 0) + t.st.countP q := by
  have h := Tb.get_at (t := t) (i := 0) (by omega)
  unfold Tb.n at hn
  obtain ⟨s, bs, st⟩ := t
  simp only at hn h
  match bs, hn with
  | [b], _ =>
    simp only [List.getElem?_cons_zero, Option.some.injEq] at h
    unfold tc
    simp only [List.map_cons, List.map_nil, List.sum_cons, List.sum_nil, Nat.add_zero]
    rw [← h]
theorem bc_le {q : Rt → Bool} (ps : List Plc) : bc q ps ≤ ps.length := List.countP_le_length
theorem bc_all {ps : List Plc} (h : ∀ x ∈ ps, x.1 = true) : bc (fun _ => true) ps = ps.length := by
  unfold bc; rw [List.countP_eq_length]; intro x hx; simp [h x hx]
theorem bc_free {ps : List Plc} {k : Nat} {x : Plc} (h : ps[k]? = some x) (hx : x.1 = false) : bc (fun _ => true) ps < ps.length := by
  refine Nat.lt_of_le_of_ne (bc_le ps) fun e => ?_
  have := List.countP_eq_length.1 e x (List.mem_of_getElem? h)
  simp [hx] at this
theorem one_b {t : Tb} (h : t.Ok) (hn : t.n = 1) (p : Pf) : t.b1 p = 0 ∧ t.b2 p = 0 := by
  have := b1_lt h.n1 p
  have := b2_lt h.n1 p
  omega
/-- What stands behind the kicks where the one bucket is full. -/
theorem one_kick {t : Tb} {k : Nat} (h : OneB k t) {p : Pf} {v : Int} (hp : p.1.ok) (h0 : tc (keyIs p) t = 0) (hfull : ∀ x ∈ t.at 0, x.1 = true) :
    ∃ t' r, kick 16 0 t p v 0 = (t', some r) ∧ t'.Ok ∧ t'.n = 1 ∧ t'.st = t.st ∧ r.1.1.ok ∧ tc (keyIs r.1) t' = 0 ∧ tc (fun _ => true) t' = k ∧ bc (fun _ => true) (t'.at 0) = 4 ∧ k = 4 + t.st.length := by
  obtain ⟨e1, e2⟩ := one_b h.ok h.n p
  have hk := kick_ok 16 0 (v := v) h.ok hp h0 (a := 0) (.inl e1.symm) (by rw [h.n]; decide) hfull
  have h4 : bc (fun _ => true) (t.at 0) = 4 := by rw [bc_all hfull]; exact at_len h.ok (by rw [h.n]; decide)
  have ht := one_tc h.n (fun _ => true)
  have hs : t.st.countP (fun _ => true) = t.st.length := by simp
  rw [h.tot, h4, hs] at ht
  generalize kick 16 0 t p v 0 = r at hk
  obtain ⟨t', o⟩ := r
  have hn' : t'.n = 1 := hk.n.trans h.n
  have hs' : t'.st = t.st := hk.st
  have ht' := one_tc hn' (fun _ => true)
  have hc := hk.cnt (fun _ => true)
  have hb' : bc (fun _ => true) (t'.at 0) ≤ 4 := by
    have h1 : (t'.at 0).length = 4 := at_len hk.ok (by rw [hn']; decide)
    rw [← h1]; exact bc_le _
  rw [hs', hs] at ht'
  have htot := h.tot
  cases o with
  | none => simp only [oc, Bool.toNat_true] at hc; omega
  | some r =>
    have hl := hk.left r rfl
    simp only at hl
    simp only [oc, Bool.toNat_true] at hc
    exact ⟨t', r, rfl, hk.ok, hn', hs', hl.1, hl.2, by omega, by omega, by omega⟩
theorem one_full {t : Tb} {k : Nat} (h : OneB k t) {p : Pf} (v : Int) (h0 : tc (keyIs p) t = 0) : (canB (t.at 0) p = false ∧ ∀ x ∈ t.at 0, x.1 = true) ∨ (canB (t.at 0) p = true ∧ t.st.length = 0 ∧ ∃ (j : Nat) (x : Plc), (t.at 0)[j]? = some x ∧ x.1 = false ∧ putB (t.at 0) p v = (t.at 0).set j (true, p, v)) := by
  have hn0 : 0 < t.n := by rw [h.n]; decide
  have hno := has_tc hn0 h0
  rcases putB_cases (t.at 0) p v with b | ⟨_, b2, j, x, b3, b4, b5⟩ | b
  · rw [b.1] at hno; cases hno
  · refine .inr ⟨b2, ?_, j, x, b3, b4, b5⟩
    by_cases e : t.st.length = 0
    · exact e
    · have h1 := h.full (by omega)
      have h2 := bc_free b3 b4
      rw [at_len h.ok hn0] at h2
      omega
  · exact .inl ⟨b.2.1, b.2.2.2⟩
theorem one_put {grow : Tb → Tb} {t : Tb} {k : Nat} (h : OneB k t) (hk : k < 12) {p : Pf} (v : Int) (hp : p.1.ok) (h0 : tc (keyIs p) t = 0) : OneB (k + 1) (putStep grow t p v) := by
  obtain ⟨e1, e2⟩ := one_b h.ok h.n p
  have hn0 : 0 < t.n := by rw [h.n]; decide
  have hno := has_tc hn0 h0
  have hst : stHas t p = false := decide_eq_false fun ⟨r, hr, e⟩ => stash_no h0 r hr e
  unfold putStep
  rw [e1, e2, hno, hst]
  simp only [Bool.false_eq_true, if_false]
  rcases one_full h v h0 with ⟨c1, c2⟩ | ⟨c1, c2, j, x, c3, c4, c5⟩
  · rw [c1]
    simp only [Bool.false_eq_true, if_false]
    obtain ⟨t', r, f1, f2, f3, f4, f5, f6, f7, f8, f9⟩ := one_kick h (v := v) hp h0 c2
    rw [f1]
    simp only
    obtain ⟨s1, s2⟩ := stash_in f2 f5 f6
    have hl : (intoL t'.st r).length = t.st.length + 1 := by
      have := into_cnt (fun _ => true) r t'.st (stash_no f6)
      simp at this
      rw [this, f4]
    rw [if_neg (by omega)]
    exact ⟨s1, f3, by rw [s2, f7]; rfl, fun _ => f8⟩
  · rw [c1, if_pos rfl, c5]
    have hc := set_cnt (fun _ => true) (true, p, v) hn0 c3
    rw [c4, h.tot] at hc
    simp only [Bool.true_and, Bool.false_and, Bool.toNat_false, Bool.toNat_true, Nat.add_zero] at hc
    refine ⟨ok_set h.ok hn0 c3 (.inl e1.symm) hp (by rw [h0]; omega), by rw [Tb.set_n]; exact h.n, hc, fun hs => ?_⟩
    have : (t.set 0 ((t.at 0).set j (true, p, v))).st.length = t.st.length := rfl
    omega
theorem one_grow {put : Tb → Pf → Int → Tb} (hput : ∀ t p v, t.Ok → p.1.ok → PutOk t p v (put t p v)) {t : Tb} (h : OneB 12 t) (hf : Fine t) {p : Pf} (v : Int) (hp : p.1.ok) (h0 : tc (keyIs p) t = 0) : 2 ≤ (putStep (growStep put) t p v).n := by
  obtain ⟨e1, e2⟩ := one_b h.ok h.n p
  have hn0 : 0 < t.n := by rw [h.n]; decide
  have hno := has_tc hn0 h0
  have hst : stHas t p = false := decide_eq_false fun ⟨r, hr, e⟩ => stash_no h0 r hr e
  have hs8 : t.st.length ≤ 8 := by rcases hf with hf | hf; exact hf; have := h.n; omega
  have ht := one_tc h.n (fun _ => true)
  have hs : t.st.countP (fun _ => true) = t.st.length := by simp
  rw [h.tot, hs] at ht
  unfold putStep
  rw [e1, e2, hno, hst]
  simp only [Bool.false_eq_true, if_false]
  rcases one_full h v h0 with ⟨c1, c2⟩ | ⟨c1, c2, j, x, c3, c4, c5⟩
  · rw [c1]
    simp only [Bool.false_eq_true, if_false]
    obtain ⟨t', r, f1, f2, f3, f4, f5, f6, f7, f8, f9⟩ := one_kick h (v := v) hp h0 c2
    rw [f1]
    simp only
    obtain ⟨s1, s2⟩ := stash_in f2 f5 f6
    have hl : (intoL t'.st r).length = t.st.length + 1 := by
      have := into_cnt (fun _ => true) r t'.st (stash_no f6)
      simp at this
      rw [this, f4]
    rw [if_pos (by omega)]
    have hg := (grow_ok hput s1).2.1
    have hn2 : ({ t' with st := intoL t'.st r } : Tb).n = 1 := f3
    rw [hn2] at hg
    exact hg
  · have h2 := bc_free c3 c4
    rw [at_len h.ok hn0] at h2
    omega

end Go.Proofs.Ytpjjijhojcfmnaa
