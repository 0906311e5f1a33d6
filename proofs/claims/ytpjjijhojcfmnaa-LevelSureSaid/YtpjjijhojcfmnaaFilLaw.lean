/-
  What the laws of chapter 9 share: counters that track what lies where, and the document's example. No condition but that words are words.
-/
import Derived.Test.YtpjjijhojcfmnaaFil
namespace Go.Proofs.Ytpjjijhojcfmnaa
open Go.RowKit
set_option linter.unusedVariables false
set_option linter.unusedSimpArgs false
set_option maxRecDepth 100000

/-- Each counter is full, or is how often it is in a list. -/
structure Trk (m : Nat) (c L : List Nat) : Prop where
  len : c.length = m
  le : Le15 c
  cnt : ∀ i, i < m → c.getD i 0 = 15 ∨ c.getD i 0 = L.count i
theorem Trk.zero (m : Nat) : Trk m (List.replicate m 0) [] := ⟨List.length_replicate, Le15.zero m, fun i hi => .inr (by simp [hi])⟩
theorem Trk.add {m : Nat} {c L : List Nat} (h : Trk m c L) (K : List Nat) {L' : List Nat} (hL : ∀ i, L'.count i = L.count i + K.count i) : Trk m (addC K c) L' := by
  refine ⟨by rw [addC_len]; exact h.len, h.le.add K, fun i hi => ?_⟩
  have h1 := addC_get i K c h.le (by rw [h.len]; exact hi)
  have h2 := h.cnt i hi
  have h3 := hL i
  omega
theorem Trk.rem {m : Nat} {c L : List Nat} (h : Trk m c L) (K : List Nat) {L' : List Nat} (hL : ∀ i, L.count i = L'.count i + K.count i) : Trk m (remC K c) L' := by
  refine ⟨by rw [remC_len]; exact h.len, h.le.rem K, fun i hi => ?_⟩
  have h1 := remC_get i K c h.le (by rw [h.len]; exact hi)
  have h2 := h.cnt i hi
  have h3 := hL i
  by_cases e : c.getD i 0 = 15
  · rw [if_pos e] at h1; exact .inl h1
  · rw [if_neg e] at h1; omega
theorem Trk.may {m : Nat} {c L K : List Nat} (h : Trk m c L) (hK : ∀ i ∈ K, i < m) (hc : ∀ i ∈ K, 0 < L.count i) : mayB K c = true := by
  refine mayB_all fun j i hj => ?_
  have hm := List.mem_of_getElem? hj
  have h1 := h.cnt i (hK i hm)
  have h2 := hc i hm
  omega
theorem count_flat_take {α : Type} (f : α → List Nat) {l : List α} {k : Nat} {x : α} (h : l[k]? = some x) (i : Nat) : ((l.take (k + 1)).flatMap f).count i = ((l.take k).flatMap f).count i + (f x).count i := by
  obtain ⟨hk, rfl⟩ := List.getElem?_eq_some_iff.1 h
  rw [List.take_succ_eq_append_getElem hk, List.flatMap_append, List.count_append]; simp
theorem count_flat_drop {α : Type} (f : α → List Nat) {l : List α} {k : Nat} {x : α} (h : l[k]? = some x) (i : Nat) : ((l.drop k).flatMap f).count i = ((l.drop (k + 1)).flatMap f).count i + (f x).count i := by
  obtain ⟨hk, rfl⟩ := List.getElem?_eq_some_iff.1 h
  rw [List.drop_eq_getElem_cons hk, List.flatMap_cons, List.count_append]; omega
theorem mayB_zero {L : List Nat} (m : Nat) (h : L ≠ []) : mayB L (List.replicate m 0) = false := by
  obtain ⟨x, L, rfl⟩ := List.exists_cons_of_ne_nil h
  refine mayB_no (j := 0) (i := x) rfl ?_
  rw [List.getD_eq_getElem?_getD, List.getElem?_replicate]
  split <;> simp

def KPost (W : World) (f : Nat) (F : Nat → Prop) (s : Nat) (k : Int) (m : Nat) (L : List Nat) (e : Ending) (w' : World) : Prop := e = .returned (.tuple #[]) ∧ ∃ c', Flt w' f F s k c' ∧ Trk m c' L ∧ Below W.heap.size W w'
section
variable {W w : World} {f s : Nat} {F : Nat → Prop} {k : Int} {c L : List Nat} {m : Nat}
theorem keep_add (h : Flt w f F s k c) (T : Trk m c L) (hB : Below W.heap.size W w) (hF : ∀ x, F x → W.heap.size ≤ x) (p : Pf) (hp : p.1.ok) {L' : List Nat} (hL : ∀ i, L'.count i = L.count i + (placesN s p k m).count i) :
    Calls Try.prog 17 #[.pointer (some ⟨f, 0, none⟩), .agg #[.int .u64 (p.1.1 : Int), .int .u64 (p.1.2 : Int), .int .i64 p.2]] w (KPost W f F s k m L') :=
  (filter_add h p hp).mono fun e w' ⟨h1, h2, h3⟩ => ⟨h1, _, h2, T.add _ (by rw [T.len]; exact hL), hB.trans (h3.below hB.size fun i hi hf => by have := hF i hf; omega)⟩
theorem keep_rem (h : Flt w f F s k c) (T : Trk m c L) (hB : Below W.heap.size W w) (hF : ∀ x, F x → W.heap.size ≤ x) (p : Pf) (hp : p.1.ok) {L' : List Nat} (hL : ∀ i, L.count i = L'.count i + (placesN s p k m).count i) :
    Calls Try.prog 18 #[.pointer (some ⟨f, 0, none⟩), .agg #[.int .u64 (p.1.1 : Int), .int .u64 (p.1.2 : Int), .int .i64 p.2]] w (KPost W f F s k m L') :=
  (filter_remove h p hp).mono fun e w' ⟨h1, h2, h3⟩ => ⟨h1, _, h2, T.rem _ (by rw [T.len]; exact hL), hB.trans (h3.below hB.size fun i hi hf => by have := hF i hf; omega)⟩
end
theorem filter_counter_q {w : World} {f s : Nat} {F : Nat → Prop} {k : Int} {c : List Nat} (h : Flt w f F s k c) (i x : Int) (hx : (at0 c i : Int) = x) (n : Nat) : Calls Try.prog 20 #[.pointer (some ⟨f, 0, none⟩), .int .i64 i] (w.drewN n) fun e w' => e = .returned (.int .i64 x) ∧ w' = w.drewN n :=
  (filter_counter (h.chg ((Chg.refl (fun _ => False) w).drewN n) fun _ _ h => h) i x hx).mono fun _ _ h => ⟨h.1, h.2.symm⟩
theorem filter_on_q {w : World} {f s : Nat} {F : Nat → Prop} {k : Int} {c : List Nat} (h : Flt w f F s k c) (i : Int) (b : Bool) (hb : on0 (onB c) i = b) (n : Nat) : Calls Try.prog 21 #[.pointer (some ⟨f, 0, none⟩), .int .i64 i] (w.drewN n) fun e w' => e = .returned (.bool b) ∧ w' = w.drewN n :=
  (filter_on (h.chg ((Chg.refl (fun _ => False) w).drewN n) fun _ _ h => h) i b hb).mono fun _ _ h => ⟨h.1, h.2.symm⟩
theorem law9_num (n : Int) (w : World) : Calls Try.prog 16 #[.int .i64 n] w fun e w' => e = .returned (.int .i64 n) ∧ w = w' := by
  go_enter Try.func16, Try.ntmps16
  go_wp2_with fail
  go_ret
  exact ⟨rfl, rfl⟩
theorem filter_alive (w : World) : Calls Try.prog 14 #[] w fun e w' => e = .returned (.bool true) ∧ Below w.heap.size w w' := by
  have ok0 : Ad.ok (0, 0) := ⟨by decide, by decide⟩
  have c1 := hid fun w => filter_new_no 1 0 9 (.inl (by decide)) w
  have c2 := hid fun w => filter_new 1 (by decide) 2 9 (by decide) (by decide) (by decide) (by decide) w
  have cn := hid law9_num
  have hlt : ∀ i ∈ placesN 1 ((0, 0), 3) 2 ((9 : Nat) : Int), i < 9 := placesN_lt (by decide)
  have hne : placesN 1 ((0, 0), 3) 2 ((9 : Nat) : Int) ≠ [] := by
    intro h
    have := congrArg List.length h
    unfold placesN at this
    rw [if_neg (by decide), placesOf_length] at this
    exact absurd this (by decide)
  have hm0 := mayB_zero 9 hne
  have T := (Trk.zero 9).add (placesN 1 ((0, 0), 3) 2 ((9 : Nat) : Int)) (L' := placesN 1 ((0, 0), 3) 2 ((9 : Nat) : Int)) (fun i => by simp)
  have hm1 := T.may hlt (fun i hi => List.count_pos_iff.2 hi)
  have cm0 := hid fun (w1 : World) f F (h : Flt w1 f F 1 2 (List.replicate 9 0)) => filter_may h ((0, 0), 3) ok0 false (by rw [List.length_replicate]; exact hm0)
  have ca := hid fun (w1 : World) f F (h : Flt w1 f F 1 2 (List.replicate 9 0)) => filter_add h ((0, 0), 3) ok0
  rw [List.length_replicate] at ca
  have cm1 := hid fun (w1 : World) f F (h : Flt w1 f F 1 2 (addC (placesN 1 ((0, 0), 3) 2 ((9 : Nat) : Int)) (List.replicate 9 0))) => filter_may h ((0, 0), 3) ok0 true (by rw [T.len]; exact hm1)
  have cl := hid fun (w1 : World) f F (h : Flt w1 f F 1 2 (addC (placesN 1 ((0, 0), 3) 2 ((9 : Nat) : Int)) (List.replicate 9 0))) => filter_len h
  rw [T.len] at cl
  generalize addC (placesN 1 ((0, 0), 3) 2 ((9 : Nat) : Int)) (List.replicate 9 0) = cc at ca cm1 cl
  clear hlt hne hm0 T hm1
  go_enter Try.func14, Try.ntmps14
  go_wp2_with fail
  refine (c1.out _).mono ?_
  rintro _ w1 ⟨rfl, rfl⟩
  go_wp2_with fail
  refine (c2.out _).mono ?_
  rintro _ w1 ⟨f, F, rfl, hX, hF, hb⟩
  have HX := hid hX
  have HF := hid hF
  have HB := hid hb
  clear hX hF hb c1 c2
  go_wp2_with fail
  refine (cn.out _ _).mono ?_
  rintro _ w2 ⟨rfl, rfl⟩
  go_wp2_with fail
  refine (cn.out _ _).mono ?_
  rintro _ w2 ⟨rfl, rfl⟩
  go_wp2_with fail
  refine (cm0.out _ _ _ HX.out).mono ?_
  rintro _ w2 ⟨rfl, hb2⟩
  have HX2 := hid (HX.out.below hb2)
  have HB2 := hid (held_next HB.out hb2)
  clear hb2 HX HB cm0
  go_wp2_with fail
  refine (ca.out _ _ _ HX2.out).mono ?_
  rintro _ w3 ⟨rfl, hX3, hC3⟩
  have HX3 := hid hX3
  have HB3 := hid (HB2.out.trans (hC3.below HB2.out.size fun i hi hf => by have := (HF.out i hf).1; omega))
  clear hX3 hC3 HX2 HB2 ca
  go_wp2_with fail
  refine (cm1.out _ _ _ HX3.out).mono ?_
  rintro _ w4 ⟨rfl, hb4⟩
  have HX4 := hid (HX3.out.below hb4)
  have HB4 := hid (held_next HB3.out hb4)
  clear hb4 HX3 HB3 cm1
  go_wp2_with fail
  refine (cl.out _ _ _ HX4.out).mono ?_
  rintro _ w5 ⟨rfl, rfl⟩
  go_wp2_with fail
  go_ret
  exact ⟨rfl, HB4.out⟩

end Go.Proofs.Ytpjjijhojcfmnaa
