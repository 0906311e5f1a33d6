/-
  Law 25, BatchPlays: what any rows of commands answer, each row all or none. No condition but that the rows are no longer than memory.
-/
import Derived.Test.YtcnecjjgnnkjkaaRefBook2
import Derived.Test.YtcnecjjgnnkjkaaBatchLaw
import Derived.Test.YtcnecjjgnnkjkaaAppendL
import Derived.Test.YtcnecjjgnnkjkaaOpenW
namespace Go.Proofs.Ytcnecjjgnnkjkaa
open Go.RowKit
set_option linter.unusedVariables false
set_option linter.unusedSimpArgs false
set_option maxRecDepth 100000

def FewRel (W : World) (ls : List (List Cm)) (nv iv : Value) (wr : World) : Prop :=
  ∃ i n : Nat, i ≤ ls.length ∧ iv = .int .i64 (i : Int) ∧ nv = .int .i64 (n : Int) ∧ n ≤ 5000000000000 ∧ (∀ l ∈ ls.take i, l.length ≤ n) ∧ Below W.heap.size W wr
theorem law25_few (W : World) (v : Value) (ls : List (List Cm)) (R : Rd2 cmEn Cm.ok 10 W v ls) (hz : ∀ l ∈ ls, l.length ≤ 2000000000000) (w : World) (hw : Below W.heap.size W w) :
    Calls Try.prog 18 #[v] w fun e w' => ∃ b : Bool, e = .returned (.bool b) ∧ (b = true → ∀ l ∈ ls, l.length ≤ 120) ∧ Below w.heap.size w w' := by
  have R := Rd2.chg R cmEn_len hw
  clear hw
  obtain ⟨vs, hvl, R1, R2⟩ := R
  have HR := hid fun k x (h : vs[k]? = some x) => R1.get (fun _ => rfl) (by decide) h
  have HR2 := hid R2
  have HVL := hid hvl
  have HZ := hid hz
  obtain ⟨A, cap, rfl, hl, hc⟩ := R1.form
  unfold maxLen at hc
  obtain ⟨L, hL⟩ : ∃ L, vs.length = L := ⟨_, rfl⟩
  have HL := hid hL
  rw [hL] at hl ⊢
  clear R1 R2 hL hvl hz
  go_enter Try.func18, Try.ntmps18
  go_wp2_with fail
  go_loopw [3, 4] (fun nv iv wr => FewRel w ls nv iv wr) (fun _ iv _ => L - (intOf iv).toNat)
  case atStart => exact ⟨0, 0, Nat.zero_le _, rfl, rfl, by omega, by simp, Below.refl _ _⟩
  case round =>
    obtain ⟨i, n, hi, rfl, rfl, hn, hall, hB⟩ := hrel
    have HALL := hid hall
    have HB := hid hB
    clear hall
    by_cases hiL : i < L
    · have d1 : decide ((i : Int) < (L : Int)) = true := decide_eq_true (by omega)
      by_cases hn1 : n < 1000
      · have d2 : decide ((n : Int) < 1000) = true := decide_eq_true (by omega)
        obtain ⟨u, hu⟩ : ∃ u, vs[i]? = some u := ⟨_, List.getElem?_eq_getElem (by rw [HL.out]; exact hiL)⟩
        obtain ⟨l, hlx⟩ : ∃ l, ls[i]? = some l := ⟨_, List.getElem?_eq_getElem (by rw [← HVL.out, HL.out]; exact hiL)⟩
        obtain ⟨ba, oa, ca, hvv, _, _, la, sa⟩ := HR.out i u hu
        injection hvv with h1 h2 h3
        subst h1 h3
        have y0 : wr.cell? ⟨ba, oa + i, none⟩ = some u := by
          have := sa 0 _ rfl
          rw [Nat.mul_one, Nat.add_zero] at this
          exact (hB.cell (p := ⟨ba, oa + i, none⟩) la).trans this
        obtain ⟨A2, cap2, rfl, _⟩ := (HR2.out i u l hu hlx).1.form
        have hll := HZ.out l (List.mem_of_getElem? hlx)
        have HLX := hid hlx
        obtain ⟨m, hm⟩ : ∃ m, l.length = m := ⟨_, rfl⟩
        have HM := hid hm
        rw [hm] at y0 hll
        have hw1 : IntKind.i64.wrap ((n : Int) + 1) = (n : Int) + 1 := by rw [IntKind.wrap_i64]; omega
        have hw2 : IntKind.i64.wrap ((n : Int) + 1 + (m : Int)) = (n : Int) + 1 + (m : Int) := by rw [IntKind.wrap_i64]; omega
        have HW := hid (show (n : Int) + 1 + (m : Int) = ((n + 1 + m : Nat) : Int) by omega)
        clear hu hlx sa hm hB
        go_wp2_with fail
        go_roundw
        case rel =>
          refine ⟨i + 1, n + 1 + m, ?_, by go_num, by rw [← HW.out], by omega, fun x hx => ?_, HB.out⟩
          · have := (List.getElem?_eq_some_iff.1 HLX.out).1; omega
          · obtain ⟨hj, ej⟩ := List.getElem?_eq_some_iff.1 HLX.out
            rw [List.take_succ_eq_append_getElem hj, ej] at hx
            rcases List.mem_append.1 hx with h | h
            · have := HALL.out x h; omega
            · rw [List.mem_singleton.1 h, HM.out]; omega
        case measure => simp [intOf]; omega
      · have d2 : decide ((n : Int) < 1000) = false := decide_eq_false (by omega)
        go_wp2_with fail
        go_ret
        exact ⟨_, rfl, fun h => by simp at h; omega, HB.out⟩
    · have d1 : decide ((i : Int) < (L : Int)) = false := decide_eq_false (by omega)
      have hall : ∀ l ∈ ls, l.length ≤ n := by
        have := HALL.out
        rwa [List.take_of_length_le (by rw [← HVL.out, HL.out]; omega)] at this
      have HA := hid hall
      clear hall hB
      go_wp2_with fail
      go_ret
      refine ⟨_, rfl, fun h l hl => ?_, HB.out⟩
      have h1 := HA.out l hl
      simp at h
      omega
/-- The two books, and where they lie. -/
structure BpSt (W wr : World) (m : Lim) (b rb : Nat) (F : Nat → Prop) (vj : Value) (R : List Rt) : Prop where
  bk : BookAt wr b F m R
  rk : RBkQ wr rb m R vj
  fl : ∀ z, F z → W.heap.size ≤ z ∧ z < wr.heap.size
  nb : ¬ F rb
  nv : ∀ z, vj.ownBlock = some z → ¬ F z
  lo : W.heap.size ≤ rb
  bel : Below W.heap.size W wr
theorem BpSt.later {W wr w' : World} {m : Lim} {b rb : Nat} {F : Nat → Prop} {vj : Value} {R : List Rt} (h : BpSt W wr m b rb F vj R) (k : Below wr.heap.size wr w') : BpSt W w' m b rb F vj R :=
  ⟨h.bk.below k, h.rk.below k, fun z hz => ⟨(h.fl z hz).1, Nat.lt_of_lt_of_le (h.fl z hz).2 k.size⟩, h.nb, h.nv, h.lo, held_next h.bel k⟩
def BpRel (W : World) (m : Lim) (b rb L : Nat) (iv : Value) (wr : World) : Prop := ∃ (i : Nat) (F : Nat → Prop) (vj : Value) (R : List Rt), i ≤ L ∧ iv = .int .i64 (i : Int) ∧ BpSt W wr m b rb F vj R
def BpIn (wo : World) (n : Nat) (kv : Value) (wr : World) : Prop := ∃ k : Nat, k ≤ n ∧ kv = .int .i64 (k : Int) ∧ Below wo.heap.size wo wr
/-- Both books do the same row: the one, then the other. -/
theorem BpSt.step {W w1 w2 w3 : World} {m : Lim} {b rb : Nat} {F F' : Nat → Prop} {vj : Value} {R R' : List Rt} (h : BpSt W w1 m b rb F vj R) (hF' : ∀ z, F' z → F z ∨ w1.heap.size ≤ z) (hb : BookAt w2 b F' m R') (hc : Chg F w1 w2)
    (hr : RBkF w3 rb m R' vj w2.heap.size) (hc2 : Chg (· = rb) w2 w3) : ∃ F3 vj3, BpSt W w3 m b rb F3 vj3 R' := by
  obtain ⟨v3, hq, hfresh⟩ := hr
  have s1 := hc.size
  have s2 := hc2.size
  have hrl := h.rk.top.lt
  refine ⟨fun z => F' z ∧ z < w2.heap.size, v3, (hb.mono (G := fun z => F' z ∧ z < w2.heap.size) (fun z hz k => ⟨k, hz⟩)).chg hc2 (fun z hz k e => ?_), hq, fun z hz => ⟨?_, by omega⟩, fun k => ?_, fun z hz k => ?_, h.lo, ?_⟩
  · subst e
    exact (hF' _ k.1).elim h.nb (fun k2 => by omega)
  · exact (hF' z hz.1).elim (fun k => (h.fl z k).1) (fun k => by have := h.bel.size; omega)
  · exact (hF' _ k.1).elim h.nb (fun k2 => by omega)
  · rcases hfresh with e | e
    · subst e
      exact (hF' z k.1).elim (h.nv z hz) (fun k2 => by have := (h.rk.lt z hz).1; omega)
    · have := k.2; have := e z hz; omega
  · exact (h.bel.trans (hc.below h.bel.size (fun z hz k => by have := (h.fl z k).1; omega))).trans (hc2.below (by have := h.bel.size; omega) (fun z hz k => by have := h.lo; omega))
end Go.Proofs.Ytcnecjjgnnkjkaa
