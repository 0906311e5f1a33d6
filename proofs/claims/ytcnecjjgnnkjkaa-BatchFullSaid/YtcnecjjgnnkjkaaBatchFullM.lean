/-
  A book that fills up with numbered prefixes, each to a hop of its own. Plain lists. No condition.
-/
import Derived.Test.YtcnecjjgnnkjkaaBatchLaw
import Derived.Test.YtcnecjjgnnkjkaaKeyN
namespace Go.Proofs.Ytcnecjjgnnkjkaa
open Go.RowKit
set_option linter.unusedVariables false
set_option linter.unusedSimpArgs false

def limN (a b : Nat) : Lim := limOf 32 (a : Int) (b : Int)
theorem limN_is {a b : Nat} (ha : a ≤ 40) (hb : b ≤ 20) : limN a b = ⟨32, a, b⟩ := by
  unfold limN limOf capH
  congr 1
  · omega
  · omega
def seqI (j : Nat) : List Int := (List.range j).map Int.ofNat
def fullR (j : Nat) : List Rt := rowK 40 24 (seqI j)
theorem seqI_len (j : Nat) : (seqI j).length = j := by simp [seqI]
theorem seqI_succ (j : Nat) : seqI (j + 1) = seqI j ++ [(j : Int)] := by simp [seqI, List.range_succ]
theorem fullR_len (j : Nat) : (fullR j).length = j := by unfold fullR; rw [rowK_len, seqI_len]
theorem kpf_right {i : Nat} (hi : i < 2 ^ 24) : (kpf 40 24 i).right ∧ (kpf 40 24 i).1.ok := by
  have h1 : i * 2 ^ 40 < 2 ^ 64 := by omega
  refine ⟨⟨show (0 : Int) ≤ 24 by decide, show (24 : Int) ≤ 128 by decide, ?_⟩, ⟨h1, show 0 < 2 ^ 64 by decide⟩⟩
  show (cutW (i * 2 ^ 40) 24, cutW 0 0) = (i * 2 ^ 40, 0)
  have h2 : cutW (i * 2 ^ 40) 24 = i * 2 ^ 40 := by
    unfold cutW
    rw [show 64 - 24 = 40 by decide, Nat.mul_div_cancel _ (by decide)]
  have h3 : cutW 0 0 = 0 := by decide
  rw [h2, h3]
theorem fullR_srt {j : Nat} (hj : j ≤ 100) : Srt (fullR j) := by
  refine ⟨fun r hr => ?_, rowK_ord _ _ _⟩
  obtain ⟨i, v, hv, rfl⟩ := rowK_mem.1 hr
  have h1 := (List.getElem?_eq_some_iff.1 hv).1
  rw [seqI_len] at h1
  have := kpf_right (i := i) (by omega)
  exact ⟨this.2, this.1⟩
theorem fullR_hops (j : Nat) : hopsL (fullR j) = seqI j := by
  unfold hopsL fullR rowK
  refine List.ext_getElem (by simp) fun k h1 h2 => ?_
  rw [List.getElem_map, List.getElem_mapIdx]
theorem dist_seqI (j : Nat) : dist (seqI j) = j := by
  induction j with
  | zero => rfl
  | succ j ih =>
    rw [seqI_succ, dist_perm (List.perm_append_singleton _ _), dist_cons, if_neg (by simp only [seqI, List.mem_map, List.mem_range, not_exists, not_and]; intro x hx e; have : (x : Int) = (j : Int) := e; omega), ih]
theorem full_none {j i : Nat} (hj : j ≤ 100) (h : j ≤ i) : getV (mapOf (fullR j)) (kpf 40 24 i) = none := by
  rw [(fullR_srt hj).getN]
  intro r hr e
  obtain ⟨k, v, hv, rfl⟩ := rowK_mem.1 hr
  have h1 := (List.getElem?_eq_some_iff.1 hv).1
  rw [seqI_len] at h1
  have := kpf_inj e
  omega
theorem full_hop {j i : Nat} (h : j ≤ i) : ((i : Nat) : Int) ∉ hopsL (fullR j) := by
  rw [fullR_hops]
  simp only [seqI, List.mem_map, List.mem_range, not_exists, not_and]
  intro k hk e
  have : (k : Int) = (i : Int) := e
  omega
def fullC (i : Nat) : Cm := cmOf 1 (kpf 40 24 i) (i : Int)
theorem full_err {a b j i : Nat} (ha : a ≤ 40) (hb : b ≤ 20) (hi : i ≤ 60) (hji : j ≤ i) :
    cmErr (limN a b) (fullR j) (fullC i) = if a ≤ j then 5 else if b ≤ j then 6 else 0 := by
  have hs := fullR_srt (j := j) (by omega)
  have hn := full_none (j := j) (i := i) (by omega) hji
  have hr := kpf_right (i := i) (by omega)
  have hw : withoutL (fullR j) (kpf 40 24 i) = fullR j := without_none hs hn
  have h1 : ((i : Nat) : Int) ∉ hopsL (fullR j) := full_hop hji
  have hA : addE ⟨32, a, b⟩ (fullR j) (kpf 40 24 i) (i : Int) = if a ≤ j then 5 else if b ≤ j then 6 else 0 := by
    unfold addE
    rw [hw]
    by_cases h5 : a ≤ j
    · rw [if_pos ⟨hn, by rw [fullR_len]; exact h5⟩, if_pos h5]
    · rw [if_neg (fun h => h5 (by have := h.2; rw [fullR_len] at this; exact this)), if_neg h5]
      by_cases h6 : b ≤ j
      · rw [if_pos ⟨h1, by rw [fullR_hops, dist_seqI]; exact h6⟩, if_pos h6]
      · rw [if_neg (fun h => h6 (by have := h.2; rw [fullR_hops, dist_seqI] at this; exact this)), if_neg h6]
  have hE : cmErr (limN a b) (fullR j) (fullC i) = if a ≤ j then 5 else if b ≤ j then 6 else 0 := by
    rw [limN_is ha hb, ← hA]
    generalize hk : kpf 40 24 i = p at *
    have h2 : p.2 = 24 := by rw [← hk]; rfl
    show checkE ⟨32, a, b⟩ (fullR j) 1 (i : Int) (kpf 40 24 i) = _
    rw [hk]
    unfold checkE
    rw [if_neg (by decide), if_neg (show ¬ (¬ p.right ∨ ((32 : Nat) : Int) < p.2) from fun h => h.elim (fun h => h hr.1) (fun h => by rw [h2] at h; exact absurd h (by decide))), if_pos rfl, if_neg (show ¬ ((i : Nat) : Int) < 0 by omega)]
  exact hE
theorem doB_one (m : Lim) (R : List Rt) (c : Cm) : doB m R [c] = if cmErr m R c = 0 then (-1, 0, cmSet R c) else (0, cmErr m R c, R) := by
  unfold doB
  simp only [runB]
  by_cases h : cmErr m R c = 0
  · simp [h]
  · simp [h]
theorem full_set {j : Nat} : cmSet (fullR j) (fullC j) = fullR (j + 1) := by
  show setB (fullR j) (kpf 40 24 j) (if (1 : Int) = 1 then (j : Int) else -1) = _
  rw [if_pos rfl]
  unfold setB
  rw [if_pos (by omega)]
  unfold fullR
  have := rowK_snoc 40 24 (seqI j) (j : Int)
  rw [seqI_len] at this
  rw [this, seqI_succ]
theorem full_step {a b j i : Nat} (ha : a ≤ 40) (hb : b ≤ 20) (hi : i ≤ 60) (hji : j ≤ i) (hj : j = min i (min a b)) :
    doB (limN a b) (fullR j) [fullC i] = if a ≤ j then (0, 5, fullR j) else if b ≤ j then (0, 6, fullR j) else (-1, 0, fullR (j + 1)) := by
  have hE := full_err (a := a) (b := b) ha hb hi hji
  rw [doB_one, hE]
  by_cases h5 : a ≤ j
  · rw [if_pos h5, if_pos h5, if_neg (by decide)]
  · rw [if_neg h5, if_neg h5]
    by_cases h6 : b ≤ j
    · rw [if_pos h6, if_pos h6, if_neg (by decide)]
    · rw [if_neg h6, if_neg h6, if_pos rfl]
      have e : j = i := by omega
      subst e
      rw [full_set]
/-- The first prefix, led to hop 999. -/
theorem full_last {a b j : Nat} (ha : a ≤ 40) (hb : b ≤ 20) (hj : j ≤ a) (hjb : j ≤ b) (h0 : 0 < j) :
    doB (limN a b) (fullR j) [cmOf 1 (kpf 40 24 0) 999] = (-1, 0, rowK 40 24 ((seqI j).set 0 999)) := by
  have hs := fullR_srt (j := j) (by omega)
  have hr := kpf_right (i := 0) (by omega)
  have hv : getV (mapOf (fullR j)) (kpf 40 24 0) = some 0 := by
    rw [hs.get]
    exact rowK_mem.2 ⟨0, 0, by simp [seqI, h0], rfl⟩
  have hp := hops_without hs hv
  rw [fullR_hops] at hp
  have hd := dist_perm hp
  rw [dist_seqI, dist_cons] at hd
  have h0m : (0 : Int) ∉ hopsL (withoutL (fullR j) (kpf 40 24 0)) := by
    have hnd : (seqI j).Nodup := by
      unfold seqI
      exact List.Pairwise.map _ (fun _ _ h e => h (Int.ofNat.inj e)) List.nodup_range
    exact (List.nodup_cons.1 (hp.nodup_iff.1 hnd)).1
  rw [if_neg h0m] at hd
  have hE : cmErr (limN a b) (fullR j) (cmOf 1 (kpf 40 24 0) 999) = 0 := by
    rw [limN_is ha hb]
    show checkE ⟨32, a, b⟩ (fullR j) 1 999 (kpf 40 24 0) = _
    unfold checkE addE
    rw [if_neg (by decide), if_neg (show ¬ (¬ (kpf 40 24 0).right ∨ ((32 : Nat) : Int) < (kpf 40 24 0).2) from fun h => h.elim (fun h => h hr.1) (fun h => absurd h (show ¬ ((32 : Nat) : Int) < 24 by decide))), if_pos rfl, if_neg (by decide), hv, if_neg (by simp), if_neg (fun h => by have := h.2; simp only at this; omega)]
  rw [doB_one, hE, if_pos rfl]
  have : cmSet (fullR j) (cmOf 1 (kpf 40 24 0) 999) = rowK 40 24 ((seqI j).set 0 999) := by
    show setB (fullR j) (kpf 40 24 0) (if (1 : Int) = 1 then 999 else -1) = _
    rw [if_pos rfl]
    unfold setB
    rw [if_pos (by omega)]
    exact rowK_set 40 24 (seqI j) (by rw [seqI_len]; exact h0) 999
  rw [this]
theorem full_find {j : Nat} (h0 : 0 < j) : findI (rowK 40 24 ((seqI j).set 0 999)) (kpf 40 24 0) = 0 := by
  obtain ⟨k, rfl⟩ : ∃ k, j = k + 1 := ⟨j - 1, by omega⟩
  have : (seqI (k + 1)).set 0 999 = 999 :: (seqI (k + 1)).tail := by
    cases h : seqI (k + 1) with
    | nil => have := seqI_len (k + 1); rw [h] at this; simp at this
    | cons x l => rfl
  rw [this]
  unfold findI rowK
  rw [List.mapIdx_cons, List.findIdx?_cons]
  simp
end Go.Proofs.Ytcnecjjgnnkjkaa
