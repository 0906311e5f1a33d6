/-
  Contracts of package filter: counters, bits, and where keys lie. No condition but that words are words.
-/
import Derived.Test.YtpjjijhojcfmnaaGreatFilM
import Derived.Test.YtpjjijhojcfmnaaGreatGBase
import Derived.Handy
namespace Go.Proofs.YtpjjijhojcfmnaaGreat
open Go.RowKit
set_option linter.unusedVariables false
set_option linter.unusedSimpArgs false
set_option maxRecDepth 100000

/-- A filter at block f: its blocks are in F. -/
structure FltX (w : World) (f g1 q1 g2 q2 : Nat) (s : Nat) (k : Int) (c : List Nat) : Prop where
  top : Blk w f 91 [.int .u64 (s : Int), .int .i64 k, .pointer (some ⟨g1, 0, none⟩), .pointer (some ⟨g2, 0, none⟩)]
  nib : NibAt w g1 q1 c
  mir : MirAt w g2 q2 (onB c)
  n1 : f ≠ q1
  n2 : f ≠ q2
  n3 : g1 ≠ q2
  n4 : g2 ≠ q1
  n5 : q1 ≠ q2
  n6 : g1 ≠ q1
  n7 : g2 ≠ q2
  le : Le15 c
  s64 : s < 2 ^ 64
  m1 : 1 ≤ c.length
  m2 : c.length ≤ 65536
def Flt (w : World) (f : Nat) (F : Nat → Prop) (s : Nat) (k : Int) (c : List Nat) : Prop :=
  ∃ g1 q1 g2 q2, FltX w f g1 q1 g2 q2 s k c ∧ F f ∧ F g1 ∧ F q1 ∧ F g2 ∧ F q2
theorem FltX.chg {w w' : World} {f g1 q1 g2 q2 s : Nat} {k : Int} {c : List Nat} {S : Nat → Prop} (h : FltX w f g1 q1 g2 q2 s k c) (hc : Chg S w w') (h1 : ¬ S f) (h2 : ¬ S g1) (h3 : ¬ S q1) (h4 : ¬ S g2) (h5 : ¬ S q2) : FltX w' f g1 q1 g2 q2 s k c :=
  { h with top := h.top.chg hc h1, nib := h.nib.chg hc h2 h3, mir := h.mir.chg hc h4 h5 }
theorem FltX.below {w w' : World} {f g1 q1 g2 q2 s : Nat} {k : Int} {c : List Nat} (h : FltX w f g1 q1 g2 q2 s k c) (hc : Below w.heap.size w w') : FltX w' f g1 q1 g2 q2 s k c := h.chg (Chg.of_below hc fun _ => False) id id id id id
theorem Flt.chg {w w' : World} {f s : Nat} {F : Nat → Prop} {k : Int} {c : List Nat} {S : Nat → Prop} (h : Flt w f F s k c) (hc : Chg S w w') (hS : ∀ x, F x → ¬ S x) : Flt w' f F s k c := by
  obtain ⟨g1, q1, g2, q2, h, f1, f2, f3, f4, f5⟩ := h
  exact ⟨g1, q1, g2, q2, h.chg hc (hS _ f1) (hS _ f2) (hS _ f3) (hS _ f4) (hS _ f5), f1, f2, f3, f4, f5⟩
theorem Flt.below {w w' : World} {f s : Nat} {F : Nat → Prop} {k : Int} {c : List Nat} (h : Flt w f F s k c) (hc : Below w.heap.size w w') : Flt w' f F s k c := h.chg (Chg.of_below hc fun _ => False) fun _ _ h => h
theorem Flt.lt {w : World} {f s : Nat} {F : Nat → Prop} {k : Int} {c : List Nat} (h : Flt w f F s k c) : f < w.heap.size := by obtain ⟨g1, q1, g2, q2, h, _⟩ := h; exact h.top.lt
theorem Flt.len {w : World} {f s : Nat} {F : Nat → Prop} {k : Int} {c : List Nat} (h : Flt w f F s k c) : 1 ≤ c.length ∧ c.length ≤ 65536 := by obtain ⟨g1, q1, g2, q2, h, _⟩ := h; exact ⟨h.m1, h.m2⟩
theorem Flt.le15 {w : World} {f s : Nat} {F : Nat → Prop} {k : Int} {c : List Nat} (h : Flt w f F s k c) : Le15 c := by obtain ⟨g1, q1, g2, q2, h, _⟩ := h; exact h.le

theorem filter_new_no (s : Nat) (k m : Int) (h : k < 1 ∨ 16 < k ∨ m < 1 ∨ 65536 < m) (w : World) :
    Calls Tryz.prog 16 #[.int .u64 (s : Int), .int .i64 k, .int .i64 m] w fun e w' => e = .returned (.tuple #[.pointer none, .int .i64 1]) ∧ w = w' := by
  by_cases h1 : k < 1
  · go_enter Tryz.func16, Tryz.ntmps16
    go_wp2_with fail
    go_ret2
    exact ⟨rfl, rfl⟩
  by_cases h2 : 16 < k
  · go_enter Tryz.func16, Tryz.ntmps16
    go_wp2_with fail
    go_ret2
    exact ⟨rfl, rfl⟩
  by_cases h3 : m < 1
  · go_enter Tryz.func16, Tryz.ntmps16
    go_wp2_with fail
    go_ret2
    exact ⟨rfl, rfl⟩
  have h4 : 65536 < m := by omega
  go_enter Tryz.func16, Tryz.ntmps16
  go_wp2_with fail
  go_ret2
  exact ⟨rfl, rfl⟩
def FNewPost (w : World) (s : Nat) (k : Int) (m : Nat) (e : Ending) (w' : World) : Prop :=
  ∃ (f : Nat) (F : Nat → Prop), e = .returned (.tuple #[.pointer (some ⟨f, 0, none⟩), .int .i64 0]) ∧ Flt w' f F s k (List.replicate m 0) ∧ (∀ x, F x → w.heap.size ≤ x ∧ x < w'.heap.size) ∧ Below w.heap.size w w'
theorem filter_new (s : Nat) (hs : s < 2 ^ 64) (k : Int) (m : Nat) (h1 : 1 ≤ k) (h2 : k ≤ 16) (h3 : 1 ≤ m) (h4 : m ≤ 65536) (w : World) :
    Calls Tryz.prog 16 #[.int .u64 (s : Int), .int .i64 k, .int .i64 (m : Int)] w (FNewPost w s k m) := by
  have c1 := hid fun w => nib_make (m : Int) w
  have c2 := hid fun w => mir_make (m : Int) w
  rw [show capN (m : Int) = m by unfold capN; omega] at c1
  rw [show mcap (m : Int) = m by unfold mcap; omega] at c2
  have HS := hid hs
  clear hs
  have d3 : decide ((m : Int) < 1) = false := decide_eq_false (by omega)
  have d4 : decide ((65536 : Int) < (m : Int)) = false := decide_eq_false (by omega)
  go_enter Tryz.func16, Tryz.ntmps16
  go_wp2_with fail
  refine (c1.out _).mono ?_
  rintro _ w1 ⟨g1, q1, rfl, a1, a2, a3, hN, hb1⟩
  have HN := hid hN
  have HB1 := hid hb1
  have hs1 := hb1.size
  clear hN hb1 c1
  go_wp2_with fail
  refine (c2.out _).mono ?_
  rintro _ w2 ⟨g2, q2, rfl, b1, b2, b3, hM, hb2⟩
  have HM := hid hM
  have HN2 := hid (HN.out.below hb2)
  have HB2 := hid (held_next HB1.out hb2)
  have hs2 := hb2.size
  have l1 := HN.out.lt
  have l2 := hM.lt
  clear hM hb2 c2 HN HB1
  go_wp2_with fail
  go_ret2
  have hal : Below w2.heap.size w2 (w2.alloc (.cells #[.int .u64 (s : Int), .int .i64 k, .pointer (some ⟨g1, 0, none⟩), .pointer (some ⟨g2, 0, none⟩)] 91)) := (Below.refl _ _).alloc (Nat.le_refl _) _
  refine ⟨w2.heap.size, fun x => w.heap.size ≤ x ∧ x < (w2.alloc (.cells #[.int .u64 (s : Int), .int .i64 k, .pointer (some ⟨g1, 0, none⟩), .pointer (some ⟨g2, 0, none⟩)] 91)).heap.size, rfl, ⟨g1, q1, g2, q2, ⟨Blk.new_at _ _ _ _ rfl, HN2.out.below hal, ?_, by omega, by omega, by omega, by omega, by omega, a3, b3, Le15.zero _, HS.out, by rw [List.length_replicate]; exact h3, by rw [List.length_replicate]; exact h4⟩, ?_, ?_, ?_, ?_, ?_⟩, fun x h => h, HB2.out.alloc (by omega) _⟩
  · rw [onB_rep]; exact HM.out.below hal
  all_goals (constructor <;> first | omega | (simp; omega) | simp)

section
variable {w : World} {f s : Nat} {F : Nat → Prop} {k : Int} {c : List Nat}
theorem filter_len (h : Flt w f F s k c) : Calls Tryz.prog 79 #[.pointer (some ⟨f, 0, none⟩)] w fun e w' => e = .returned (.int .i64 c.length) ∧ w = w' := by
  obtain ⟨g1, q1, g2, q2, h, _⟩ := h
  have c1 := hid (nib_length' h.nib _ rfl)
  have y2 := h.top.cellv (i := 2) rfl
  clear h
  go_enter Tryz.func79, Tryz.ntmps79
  go_wp2_with fail
  refine c1.out.mono ?_
  rintro _ w1 ⟨rfl, rfl⟩
  go_wp2_with fail
  go_ret
  exact ⟨rfl, rfl⟩
def PlPostF (w : World) (L : List Nat) (e : Ending) (w' : World) : Prop := ∃ v, e = .returned v ∧ Owns w' w.heap.size 3 1 v L.length (intsV L) ∧ Below w.heap.size w w'
theorem filter_places (h : Flt w f F s k c) (p : Pf) (hp : p.1.ok) :
    Calls Tryz.prog 52 #[.pointer (some ⟨f, 0, none⟩), .agg #[.int .u64 (p.1.1 : Int), .int .u64 (p.1.2 : Int), .int .i64 p.2]] w (PlPostF w (placesN s p k c.length)) := by
  have hlen := h.len
  have c0 := hid (filter_len ((h.below ((Below.refl w.heap.size w).alloc (Nat.le_refl _) (.cells #[.int .u64 (p.1.1 : Int), .int .u64 (p.1.2 : Int), .int .i64 p.2] 38))).chg ((Chg.refl (fun _ => False) _).drew) fun _ _ h => h))
  obtain ⟨g1, q1, g2, q2, h, _⟩ := h
  have hl := h.top.lt
  have ht := h.top.alloc (.cells #[.int .u64 (p.1.1 : Int), .int .u64 (p.1.2 : Int), .int .i64 p.2] 38)
  have y0 := ht.cellv (i := 0) rfl
  have y1 := ht.cellv (i := 1) rfl
  have c1 := hid fun w => pick_places s h.s64 p hp k c.length (by omega) w
  generalize placesN s p k c.length = L at c1
  clear h hp ht
  obtain ⟨n, hn⟩ : ∃ n, c.length = n := ⟨_, rfl⟩
  rw [hn] at c0 c1 hlen
  clear hn
  obtain ⟨⟨a, b⟩, i⟩ := p
  simp only at c0 y0 y1 c1
  go_enter Tryz.func52, Tryz.ntmps52
  go_wp2_with fail
  refine wp_region_tail 11 (by kernel_rfl) (by kernel_rfl) ?_
  simp only [List.take_succ_cons, List.take_zero, List.drop_succ_cons, List.drop_zero]
  repeat (first
    | still_step
    | still_call (still_of c0.out))
  refine wpStill_nil ?_
  go_wp2_with fail
  refine (c1.out _).mono ?_
  rintro _ w1 ⟨v, rfl, hO, hb⟩
  have HB := hid (Below.trans (b := _) (((Below.refl w.heap.size w).alloc (Nat.le_refl _) (.cells #[.int .u64 (a : Int), .int .u64 (b : Int), .int .i64 i] 38)).drew) (hb.mono (by simp)))
  have HO := hid hO
  clear hO hb c0 c1
  go_wp2_with fail
  go_ret
  exact ⟨v, rfl, HO.out.lower (by simp), HB.out⟩

end

def AddRel (w1 : World) (f g1 q1 g2 q2 s : Nat) (k : Int) (st : Nat → List Nat) (n : Nat) (i : Value) (wr : World) : Prop :=
  ∃ j : Nat, j ≤ n ∧ i = .int .i64 j ∧ FltX wr f g1 q1 g2 q2 s k (st j) ∧ Chg (fun x => x = q1 ∨ x = q2) w1 wr
theorem FltX.up {w w1 w2 : World} {f g1 q1 g2 q2 s : Nat} {k : Int} {c : List Nat} (h : FltX w f g1 q1 g2 q2 s k c) {i : Nat} (hi : i < c.length) (hN : NibAt w1 g1 q1 (upN c i)) (c1 : Chg (· = q1) w w1)
    (hM : MirAt w2 g2 q2 (setC (onB c) (i : Int) true)) (c2 : Chg (· = q2) w1 w2) : FltX w2 f g1 q1 g2 q2 s k (upN c i) ∧ Chg (fun x => x = q1 ∨ x = q2) w w2 := by
  rw [on_up c i hi] at hM
  refine ⟨{ h with top := (h.top.chg c1 h.n1).chg c2 h.n2, nib := hN.chg c2 h.n3 h.n5, mir := hM, le := h.le.up i, m1 := by rw [upN_len]; exact h.m1, m2 := by rw [upN_len]; exact h.m2 }, ?_⟩
  exact (c1.mono fun _ _ h => .inl h).trans c2 fun _ _ h => .inr h
theorem FltX.down {w w1 w2 : World} {f g1 q1 g2 q2 s : Nat} {k : Int} {c : List Nat} (h : FltX w f g1 q1 g2 q2 s k c) {i : Nat} (hi : i < c.length) (hN : NibAt w1 g1 q1 (downN c i)) (c1 : Chg (· = q1) w w1)
    (hM : MirAt w2 g2 q2 (setC (onB c) (i : Int) (decide (0 < (downN c i).getD i 0)))) (c2 : Chg (· = q2) w1 w2) : FltX w2 f g1 q1 g2 q2 s k (downN c i) ∧ Chg (fun x => x = q1 ∨ x = q2) w w2 := by
  rw [on_down c i hi] at hM
  refine ⟨{ h with top := (h.top.chg c1 h.n1).chg c2 h.n2, nib := hN.chg c2 h.n3 h.n5, mir := hM, le := h.le.down i, m1 := by rw [downN_len]; exact h.m1, m2 := by rw [downN_len]; exact h.m2 }, ?_⟩
  exact (c1.mono fun _ _ h => .inl h).trans c2 fun _ _ h => .inr h
def FAddPost (w : World) (f : Nat) (F : Nat → Prop) (s : Nat) (k : Int) (c' : List Nat) (e : Ending) (w' : World) : Prop := e = .returned (.tuple #[]) ∧ Flt w' f F s k c' ∧ Chg F w w'

set_option maxHeartbeats 2000000 in
theorem filter_add {w : World} {f s : Nat} {F : Nat → Prop} {k : Int} {c : List Nat} (h : Flt w f F s k c) (p : Pf) (hp : p.1.ok) :
    Calls Tryz.prog 38 #[.pointer (some ⟨f, 0, none⟩), .agg #[.int .u64 (p.1.1 : Int), .int .u64 (p.1.2 : Int), .int .i64 p.2]] w (FAddPost w f F s k (addC (placesN s p k c.length) c)) := by
  have hb0 := hid ((Below.refl w.heap.size w).alloc (Nat.le_refl _) (.cells #[.int .u64 (p.1.1 : Int), .int .u64 (p.1.2 : Int), .int .i64 p.2] 38))
  have c1 := hid (filter_places (h.below hb0.out) p hp)
  have hlt := hid (placesN_lt (s := s) (p := p) (k := k) (m := c.length) (by have := h.len; omega))
  have hl16 := placesN_le s p k c.length
  generalize placesN s p k c.length = L at c1 hlt hl16
  have hlf := h.lt
  obtain ⟨g1, q1, g2, q2, h, f1, f2, f3, f4, f5⟩ := h
  have HX := hid (h.below hb0.out)
  have hq1 := h.nib.lt
  have hq2 := h.mir.lt
  have HF := hid (And.intro f1 (And.intro f2 (And.intro f3 (And.intro f4 f5))))
  clear h f1 f2 f3 f4 f5 hp
  obtain ⟨⟨a, b⟩, n⟩ := p
  simp only at c1 HX hb0
  go_enter Tryz.func38, Tryz.ntmps38
  go_wp2_with fail
  refine c1.out.mono ?_
  rintro _ w1 ⟨v, rfl, hO, hb⟩
  have HRd := hid (Rd.of_owns (en := nEn) (l := L) (by rw [nEn_flat]; exact hO) nEn_len)
  have HV := hid (fun z (hz : v.ownBlock = some z) => (show w.heap.size ≤ z from Nat.le_trans hb0.out.size (Owns.base_le hO z hz).1))
  obtain ⟨A, cap, rfl, hnc, hcm, _⟩ := Owns.form hO
  unfold maxLen at hcm
  have HX1 := hid (HX.out.below hb)
  have HB := hid (hb0.out.trans (hb.mono hb0.out.size))
  have hs1 := HB.out.size
  clear hO hb c1 HX hb0
  obtain ⟨N, hN⟩ : ∃ N, L.length = N := ⟨_, rfl⟩
  have HL := hid hN
  rw [hN] at hnc hl16 ⊢
  clear hN
  go_wp2_with fail
  go_loopw [12] (fun i wr => AddRel w1 f g1 q1 g2 q2 s k (fun j => addC (L.take j) c) N i wr) (fun i _ => N - (intOf i).toNat)
  case atStart => exact ⟨0, Nat.zero_le _, rfl, HX1.out, Chg.refl _ _⟩
  case round =>
    clear HX1
    obtain ⟨j, hj, rfl, hX, hC⟩ := hrel
    have hX : FltX wr f g1 q1 g2 q2 s k (addC (L.take j) c) := hX
    have HX := hid hX
    have HC := hid hC
    by_cases hjN : j < N
    · obtain ⟨x, hx⟩ : ∃ x, L[j]? = some x := ⟨_, List.getElem?_eq_getElem (by rw [HL.out]; exact hjN)⟩
      obtain ⟨ba, oa, ca, hv, _, _, la, sa⟩ := (HRd.out.chg nEn_len hC (fun z hz e => by have := HV.out z hz; omega)).get nEn_len (by decide) hx
      injection hv with hA hxx hc
      subst hA hc
      have y0 : wr.cell? ⟨ba, oa + j, none⟩ = some (.int .i64 (x : Int)) := by simpa using sa 0 _ rfl
      have HBA := hid (HV.out ba rfl)
      have HS := hid (addC_snoc hx c)
      have hxl := hlt.out x (List.mem_of_getElem? hx)
      have hsl := addC_len (L.take j) c
      generalize addC (L.take j) c = cc at HX HS hX hsl
      have t2 := hX.top.cellv (i := 2) rfl
      have t3 := hX.top.cellv (i := 3) rfl
      have cU := hid (nib_up hX.nib (x : Int))
      have hfr := hX.top.lt
      have HSL := hid hsl
      have hba := la
      clear sa hxx hx hX hC hsl
      go_wp2_with fail
      refine cU.out.mono ?_
      rintro _ w2 ⟨rfl, hN2, hC2⟩
      have HN2 := hid (show NibAt w2 g1 q1 (upN cc x) from hN2)
      have HC2 := hid hC2
      have T2 := HX.out.top.chg hC2 HX.out.n1
      have t2 := T2.cellv (i := 2) rfl
      have t3 := T2.cellv (i := 3) rfl
      have HM2 := hid (HX.out.mir.chg hC2 HX.out.n4 (fun e => HX.out.n5 e.symm))
      clear hN2 hC2 cU T2 y0
      have cS := hid (mir_put HM2.out (x : Int) true)
      clear HM2
      go_wp2_with fail
      refine cS.out.mono ?_
      rintro _ w3 ⟨rfl, hM3, hC3⟩
      obtain ⟨hX3, hC3'⟩ := HX.out.up (by rw [HSL.out]; exact hxl) HN2.out HC2.out hM3 hC3
      have HX3 := hid hX3
      have HC3 := hid (HC.out.trans' hC3')
      clear hX3 hC3' hM3 hC3 t2 t3
      go_wp2_with fail
      go_roundw
      case rel => exact ⟨j + 1, by omega, by go_num, by show FltX w3 f g1 q1 g2 q2 s k (addC (L.take (j + 1)) c); rw [HS.out]; exact HX3.out, HC3.out⟩
      case measure => simp [intOf]; omega
    · have hjj : L.take j = L := List.take_of_length_le (by rw [HL.out]; omega)
      have hX2 := hX
      simp only [hjj] at hX2
      have HX2 := hid hX2
      clear hX hC hX2 HX
      go_wp2_with fail
      go_returns
      have hF := HF.out
      refine ⟨rfl, ⟨g1, q1, g2, q2, HX2.out, hF⟩, ?_⟩
      exact ((Chg.of_below HB.out _).trans HC.out fun z hz h => h).mono fun z hz h => by rcases h with h | h <;> subst h; exact hF.2.2.1; exact hF.2.2.2.2

set_option maxHeartbeats 2000000 in
theorem filter_remove {w : World} {f s : Nat} {F : Nat → Prop} {k : Int} {c : List Nat} (h : Flt w f F s k c) (p : Pf) (hp : p.1.ok) :
    Calls Tryz.prog 40 #[.pointer (some ⟨f, 0, none⟩), .agg #[.int .u64 (p.1.1 : Int), .int .u64 (p.1.2 : Int), .int .i64 p.2]] w (FAddPost w f F s k (remC (placesN s p k c.length) c)) := by
  have hb0 := hid ((Below.refl w.heap.size w).alloc (Nat.le_refl _) (.cells #[.int .u64 (p.1.1 : Int), .int .u64 (p.1.2 : Int), .int .i64 p.2] 38))
  have c1 := hid (filter_places (h.below hb0.out) p hp)
  have hlt := hid (placesN_lt (s := s) (p := p) (k := k) (m := c.length) (by have := h.len; omega))
  have hl16 := placesN_le s p k c.length
  generalize placesN s p k c.length = L at c1 hlt hl16
  have hlf := h.lt
  obtain ⟨g1, q1, g2, q2, h, f1, f2, f3, f4, f5⟩ := h
  have HX := hid (h.below hb0.out)
  have hq1 := h.nib.lt
  have hq2 := h.mir.lt
  have HF := hid (And.intro f1 (And.intro f2 (And.intro f3 (And.intro f4 f5))))
  clear h f1 f2 f3 f4 f5 hp
  obtain ⟨⟨a, b⟩, n⟩ := p
  simp only at c1 HX hb0
  go_enter Tryz.func40, Tryz.ntmps40
  go_wp2_with fail
  refine c1.out.mono ?_
  rintro _ w1 ⟨v, rfl, hO, hb⟩
  have HRd := hid (Rd.of_owns (en := nEn) (l := L) (by rw [nEn_flat]; exact hO) nEn_len)
  have HV := hid (fun z (hz : v.ownBlock = some z) => (show w.heap.size ≤ z from Nat.le_trans hb0.out.size (Owns.base_le hO z hz).1))
  obtain ⟨A, cap, rfl, hnc, hcm, _⟩ := Owns.form hO
  unfold maxLen at hcm
  have HX1 := hid (HX.out.below hb)
  have HB := hid (hb0.out.trans (hb.mono hb0.out.size))
  have hs1 := HB.out.size
  clear hO hb c1 HX hb0
  obtain ⟨N, hN⟩ : ∃ N, L.length = N := ⟨_, rfl⟩
  have HL := hid hN
  rw [hN] at hnc hl16 ⊢
  clear hN
  go_wp2_with fail
  go_loopw [12] (fun i wr => AddRel w1 f g1 q1 g2 q2 s k (fun j => remC (L.take j) c) N i wr) (fun i _ => N - (intOf i).toNat)
  case atStart => exact ⟨0, Nat.zero_le _, rfl, HX1.out, Chg.refl _ _⟩
  case round =>
    clear HX1
    obtain ⟨j, hj, rfl, hX, hC⟩ := hrel
    have hX : FltX wr f g1 q1 g2 q2 s k (remC (L.take j) c) := hX
    have HX := hid hX
    have HC := hid hC
    by_cases hjN : j < N
    · obtain ⟨x, hx⟩ : ∃ x, L[j]? = some x := ⟨_, List.getElem?_eq_getElem (by rw [HL.out]; exact hjN)⟩
      obtain ⟨ba, oa, ca, hv, _, _, la, sa⟩ := (HRd.out.chg nEn_len hC (fun z hz e => by have := HV.out z hz; omega)).get nEn_len (by decide) hx
      injection hv with hA hxx hc
      subst hA hc
      have y0 : wr.cell? ⟨ba, oa + j, none⟩ = some (.int .i64 (x : Int)) := by simpa using sa 0 _ rfl
      have HBA := hid (HV.out ba rfl)
      have HS := hid (remC_snoc hx c)
      have hxl := hlt.out x (List.mem_of_getElem? hx)
      have hsl := remC_len (L.take j) c
      generalize remC (L.take j) c = cc at HX HS hX hsl
      have t2 := hX.top.cellv (i := 2) rfl
      have t3 := hX.top.cellv (i := 3) rfl
      have cU := hid (nib_down hX.nib (x : Int))
      have hfr := hX.top.lt
      have HSL := hid hsl
      have hba := la
      clear sa hxx hx hX hC hsl
      go_wp2_with fail
      refine cU.out.mono ?_
      rintro _ w2 ⟨rfl, hN2, hC2⟩
      have HN2 := hid (show NibAt w2 g1 q1 (downN cc x) from hN2)
      have HC2 := hid hC2
      have T2 := HX.out.top.chg hC2 HX.out.n1
      have t2 := T2.cellv (i := 2) rfl
      have t3 := T2.cellv (i := 3) rfl
      have HM2 := hid (HX.out.mir.chg hC2 HX.out.n4 (fun e => HX.out.n5 e.symm))
      clear hN2 hC2 cU T2 y0
      have cG := hid (nib_at' (HN2.out.drew) (x : Int) ((((downN cc x).getD x 0 : Nat) : Int)) (by rw [at0_nat]))
      obtain ⟨z, hz⟩ : ∃ z, (downN cc x).getD x 0 = z := ⟨_, rfl⟩
      have cS := hid (mir_put (HM2.out.chg ((Chg.refl (fun _ => False) _).drew) id id) (x : Int) ((z : Int) != 0))
      have HZ := hid (show ((z : Int) != 0) = decide (0 < (downN cc x).getD x 0) by
        rw [hz]
        by_cases h : 0 < z
        · rw [decide_eq_true h]; simp; omega
        · rw [decide_eq_false h]; simp; omega)
      rw [hz] at cG
      clear hz HM2
      go_wp2_with fail
      refine wp_region_tail 12 (by kernel_rfl) (by kernel_rfl) ?_
      simp only [List.take_succ_cons, List.take_zero, List.drop_succ_cons, List.drop_zero]
      repeat (first
        | still_step
        | still_call (still_of cG.out))
      refine wpStill_nil ?_
      go_wp2_with fail
      refine cS.out.mono ?_
      rintro _ w3 ⟨rfl, hM3, hC3⟩
      rw [HZ.out] at hM3
      have hC3 := (((Chg.refl (fun x => x = q2) w2).drew).trans' hC3)
      obtain ⟨hX3, hC3'⟩ := HX.out.down (by rw [HSL.out]; exact hxl) HN2.out HC2.out hM3 hC3
      have HX3 := hid hX3
      have HC3 := hid (HC.out.trans' hC3')
      clear hX3 hC3' hM3 hC3 t2 t3
      go_wp2_with fail
      go_roundw
      case rel => exact ⟨j + 1, by omega, by go_num, by show FltX w3 f g1 q1 g2 q2 s k (remC (L.take (j + 1)) c); rw [HS.out]; exact HX3.out, HC3.out⟩
      case measure => simp [intOf]; omega
    · have hjj : L.take j = L := List.take_of_length_le (by rw [HL.out]; omega)
      have hX2 := hX
      simp only [hjj] at hX2
      have HX2 := hid hX2
      clear hX hC hX2 HX
      go_wp2_with fail
      go_returns
      have hF := HF.out
      refine ⟨rfl, ⟨g1, q1, g2, q2, HX2.out, hF⟩, ?_⟩
      exact ((Chg.of_below HB.out _).trans HC.out fun z hz h => h).mono fun z hz h => by rcases h with h | h <;> subst h; exact hF.2.2.1; exact hF.2.2.2.2

def MayRel (c L : List Nat) (n : Nat) (i : Value) : Prop := ∃ j : Nat, j ≤ n ∧ i = .int .i64 j ∧ ∀ (m x : Nat), m < j → L[m]? = some x → 0 < c.getD x 0
theorem filter_may {w : World} {f s : Nat} {F : Nat → Prop} {k : Int} {c : List Nat} (h : Flt w f F s k c) (p : Pf) (hp : p.1.ok) (B : Bool) (hB : mayB (placesN s p k c.length) c = B) :
    Calls Tryz.prog 29 #[.pointer (some ⟨f, 0, none⟩), .agg #[.int .u64 (p.1.1 : Int), .int .u64 (p.1.2 : Int), .int .i64 p.2]] w fun e w' => e = .returned (.bool B) ∧ Below w.heap.size w w' := by
  have hb0 := hid ((Below.refl w.heap.size w).alloc (Nat.le_refl _) (.cells #[.int .u64 (p.1.1 : Int), .int .u64 (p.1.2 : Int), .int .i64 p.2] 38))
  have c1 := hid (filter_places (h.below hb0.out) p hp)
  have hlt := hid (placesN_lt (s := s) (p := p) (k := k) (m := c.length) (by have := h.len; omega))
  have hl16 := placesN_le s p k c.length
  generalize placesN s p k c.length = L at c1 hlt hl16 hB
  obtain ⟨g1, q1, g2, q2, h, _⟩ := h
  have HX := hid (h.below hb0.out)
  have HBB := hid hB
  clear h hp hB
  obtain ⟨⟨a, b⟩, n⟩ := p
  simp only at c1 HX hb0
  go_enter Tryz.func29, Tryz.ntmps29
  go_wp2_with fail
  refine c1.out.mono ?_
  rintro _ w1 ⟨v, rfl, hO, hb⟩
  have HRd := hid (Rd.of_owns (en := nEn) (l := L) (by rw [nEn_flat]; exact hO) nEn_len)
  obtain ⟨A, cap, rfl, hnc, hcm, _⟩ := Owns.form hO
  unfold maxLen at hcm
  have HX1 := hid (HX.out.below hb)
  have HB := hid (hb0.out.trans (hb.mono hb0.out.size))
  have t3 := HX1.out.top.cellv (i := 3) rfl
  clear hO hb c1 HX hb0
  obtain ⟨N, hN⟩ : ∃ N, L.length = N := ⟨_, rfl⟩
  have HL := hid hN
  rw [hN] at hnc hl16 ⊢
  clear hN
  go_wp2_with fail
  go_loop [13] (fun i => MayRel c L N i) (fun i => N - (intOf i).toNat)
  case atStart => exact ⟨0, Nat.zero_le _, rfl, fun m x hm => by omega⟩
  case round =>
    obtain ⟨j, hj, rfl, hall⟩ := hrel
    have HA := hid hall
    clear hall
    by_cases hjN : j < N
    · obtain ⟨x, hx⟩ : ∃ x, L[j]? = some x := ⟨_, List.getElem?_eq_getElem (by rw [HL.out]; exact hjN)⟩
      obtain ⟨ba, oa, ca, hv, _, _, la, sa⟩ := HRd.out.get nEn_len (by decide) hx
      injection hv with hA hxx hc
      subst hA hc
      have y0 : w1.cell? ⟨ba, oa + j, none⟩ = some (.int .i64 (x : Int)) := by simpa using sa 0 _ rfl
      have HXJ := hid hx
      obtain ⟨bb, hbb⟩ : ∃ bb, decide (0 < c.getD x 0) = bb := ⟨_, rfl⟩
      have cM := hid (mir_at HX1.out.mir (x : Int) bb (by rw [on0_nat, onB_get]; exact hbb))
      have HBX := hid hbb
      clear sa hxx hx hbb
      cases bb
      · go_wp2_with fail
        refine cM.out.mono ?_
        rintro _ w2 ⟨rfl, rfl⟩
        go_wp2_with fail
        go_ret
        have e : B = false := by rw [← HBB.out]; exact mayB_no HXJ.out (of_decide_eq_false HBX.out)
        exact ⟨by rw [e]; rfl, HB.out⟩
      · go_wp2_with fail
        refine cM.out.mono ?_
        rintro _ w2 ⟨rfl, rfl⟩
        go_wp2_with fail
        go_round
        case rel =>
          refine ⟨j + 1, by omega, by go_num, fun m y hm hy => ?_⟩
          by_cases e : m = j
          · subst e; rw [HXJ.out] at hy; injection hy with hy; subst hy; exact of_decide_eq_true HBX.out
          · exact HA.out m y (by omega) hy
        case measure => simp [intOf]; omega
    · go_wp2_with fail
      go_ret
      have e : B = true := by
        rw [← HBB.out]
        exact mayB_all fun m x hm => HA.out m x (by have := (List.getElem?_eq_some_iff.1 hm).1; have := HL.out; omega) hm
      exact ⟨by rw [e]; rfl, HB.out⟩

end Go.Proofs.YtpjjijhojcfmnaaGreat
