/-
  What the laws of chapter 12 share: the empty table, a row of calls in plain lists, and the document's example. No condition but that words are words.
-/
import Derived.Test.YtpjjijhojcfmnaaGreatGTab2
import Derived.Test.YtpjjijhojcfmnaaGreatGBase
namespace Go.Proofs.YtpjjijhojcfmnaaGreat
open Go.RowKit
set_option linter.unusedVariables false
set_option linter.unusedSimpArgs false
set_option maxRecDepth 100000

theorem at_len12 (t : Tb) (p : Pf) : 1 ≤ (atT t p).length ∧ (atT t p).length ≤ 2 := by unfold atT; split <;> simp
theorem st_le (t : Tb) : t.st.length ≤ (keysT t).length := by unfold keysT; rw [List.length_append]; omega
theorem newT_tc (q : Rt → Bool) (s n : Nat) : tc q (newT s n) = 0 := by
  unfold tc newT emptyB
  simp only [List.map_replicate, empty_bc, List.countP_nil, Nat.add_zero]
  induction n with
  | zero => rfl
  | succ n ih => simp [List.replicate_succ, ih]
theorem newT_ok {s n : Nat} (hs : s < 2 ^ 64) (h1 : 1 ≤ n) (h2 : n ≤ 65536) : (newT s n).Ok := by
  refine ⟨hs, by rw [newT_n]; exact h1, by rw [newT_n]; exact h2, fun b hb => ?_, .nil, fun r hr => ?_, fun p => by rw [newT_tc]; omega, fun i b x hb hx h1 => ?_⟩
  · have := List.eq_of_mem_replicate hb; subst this; rfl
  · rw [keysT_mem, newT_tc] at hr; omega
  · have := List.eq_of_mem_replicate (List.mem_of_getElem? hb)
    subst this
    simp [emptyB] at hx
    subst hx
    cases h1
theorem newT_rep (s n : Nat) : Rep (newT s n) [] := ⟨.nil, fun q => by rw [newT_tc]; rfl⟩
theorem empty_has (p : Pf) : hasB emptyB p = false := by simp [hasB, findP, emptyB, plcZ]
theorem empty_can (p : Pf) : canB emptyB p = true := by simp [canB, putI, findP, freeP, emptyB, plcZ]
theorem empty_put (p : Pf) (v : Int) : putB emptyB p v = [(true, p, v), plcZ, plcZ, plcZ] := by simp [putB, putI, findP, freeP, emptyB, plcZ]
theorem one_has (p : Pf) (v : Int) : hasB [(true, p, v), plcZ, plcZ, plcZ] p = true := by simp [hasB, findP]
theorem newT_at {s n i : Nat} (h : i < n) : (newT s n).at i = emptyB := by simp [Tb.at, newT, h]
theorem newT_put {grow : Tb → Tb} {s n : Nat} (h1 : 1 ≤ n) (p : Pf) (v : Int) : atT (putStep grow (newT s n) p v) p = [(newT s n).b1 p] := by
  have l1 := b1_lt (t := newT s n) (by rw [newT_n]; exact h1) p
  have l2 := b2_lt (t := newT s n) (by rw [newT_n]; exact h1) p
  have e1 := newT_at (s := s) (n := n) (i := (newT s n).b1 p) (by rw [newT_n] at l1; exact l1)
  have e2 := newT_at (s := s) (n := n) (i := (newT s n).b2 p) (by rw [newT_n] at l2; exact l2)
  have e3 : stHas (newT s n) p = false := by simp [stHas, newT]
  have e : putStep grow (newT s n) p v = (newT s n).set ((newT s n).b1 p) [(true, p, v), plcZ, plcZ, plcZ] := by
    unfold putStep
    rw [e1, e2, e3, empty_has, empty_can, empty_put]
    rfl
  rw [e]
  refine ((atT_cases _ p).1 ?_).trans (by rw [Tb.set_b1])
  rw [Tb.set_b1, Tb.set_at_same _ l1]; exact one_has p v

/-! ### A row of calls -/
abbrev CAct := Int × Int × Pf
def caEn (a : CAct) : List Value := [.int .i64 a.1, .int .i64 a.2.1, .int .u64 (a.2.2.1.1 : Int), .int .u64 (a.2.2.1.2 : Int), .int .i64 a.2.2.2]
theorem caEn_len (a : CAct) : (caEn a).length = 5 := rfl
def CAct.fit (a : CAct) : Prop := a.2.2.fit
def stepT (t : Tb) (a : CAct) : Tb := if a.1 = 1 then delT t a.2.2 else putT 16 t a.2.2 a.2.1
def stepL (l : List Rt) (a : CAct) : List Rt := if a.1 = 1 then withoutL l a.2.2 else intoL l (a.2.2, a.2.1)
def runT (t : Tb) (l : List CAct) : Tb := l.foldl stepT t
def runL (l : List CAct) : List Rt := l.foldl stepL []
theorem run_snoc {l : List CAct} {k : Nat} {x : CAct} (h : l[k]? = some x) (t : Tb) : runT t (l.take (k + 1)) = stepT (runT t (l.take k)) x ∧ runL (l.take (k + 1)) = stepL (runL (l.take k)) x := by
  obtain ⟨hk, e⟩ := List.getElem?_eq_some_iff.1 h
  unfold runT runL
  rw [List.take_succ_eq_append_getElem hk, List.foldl_append, List.foldl_append, e]
  exact ⟨rfl, rfl⟩
structure RunOk (t0 : Tb) (k : Nat) (t : Tb) (l : List Rt) : Prop where
  ok : t.Ok
  rep : Rep t l
  n : t0.n ≤ t.n
  len : l.length ≤ k
theorem RunOk.next {t0 t : Tb} {k : Nat} {l : List Rt} (h : RunOk t0 k t l) (x : CAct) (hx : x.2.2.1.ok) : RunOk t0 (k + 1) (stepT t x) (stepL l x) := by
  unfold stepT stepL
  by_cases e : x.1 = 1
  · rw [if_pos e, if_pos e]
    have hd := del_ok h.ok x.2.2
    exact ⟨hd.ok, h.rep.del hd, by rw [hd.n]; exact h.n, Nat.le_trans (without_le _ _) (Nat.le_succ_of_le h.len)⟩
  · rw [if_neg e, if_neg e]
    have hd := putT_ok 16 t x.2.2 x.2.1 h.ok hx
    exact ⟨hd.ok, h.rep.put hd, Nat.le_trans h.n hd.n, Nat.le_trans (into_length _ _) (Nat.succ_le_succ h.len)⟩
theorem run_ok (t0 : Tb) (h0 : t0.Ok) (hr : Rep t0 []) (l : List CAct) (ho : ∀ x ∈ l, x.2.2.1.ok) : ∀ k, k ≤ l.length → RunOk t0 k (runT t0 (l.take k)) (runL (l.take k))
  | 0, _ => ⟨h0, hr, Nat.le_refl _, Nat.le_refl _⟩
  | k + 1, hk => by
    obtain ⟨e1, e2⟩ := run_snoc (List.getElem?_eq_getElem (show k < l.length by omega)) t0
    rw [e1, e2]
    exact (run_ok t0 h0 hr l ho k (by omega)).next _ (ho _ (List.getElem_mem _))

/-! ### Put, Delete, Get as the laws want them -/
theorem ck_put16 {w : World} {g : Nat} {F : Nat → Prop} {t : Tb} (H : TwF w g F t) (hok : t.Ok) (hlen : (keysT t).length < 50000000) (p : Pf) (hp : p.1.ok) (x : Int) :
    Calls Tryz.prog 39 #[.pointer (some ⟨g, 0, none⟩), .agg #[.int .u64 (p.1.1 : Int), .int .u64 (p.1.2 : Int), .int .i64 p.2], .int .i64 x] w fun e w' =>
      e = .returned (.tuple #[]) ∧ TwF w' g (fun z => F z ∨ w.heap.size ≤ z) (putT 16 t p x) ∧ Chg F w w' :=
  put_at 16 w g F t p x H hok hp hlen (by have := hok.n1; omega)

end Go.Proofs.YtpjjijhojcfmnaaGreat
