/-
  What the laws of chapter 25 share: the document's example, a number of an error. No condition but that words are words.
-/
import Derived.Test.YtcnecjjgnnkjkaaBatch7
import Derived.Test.YtcnecjjgnnkjkaaBatchOpen
namespace Go.Proofs.Ytcnecjjgnnkjkaa
open Go.RowKit
set_option linter.unusedVariables false
set_option linter.unusedSimpArgs false
set_option maxRecDepth 100000

/-- A command of nothing but kind, prefix and hop. -/
def cmOf (k : Int) (p : Pf) (hop : Int) : Cm := ⟨k, hop, 0, p, (0, 0), 0, .slice none 0 0⟩
theorem cmOf_ok {k : Int} {p : Pf} {hop : Int} (hk : (Lit.int .i64 k).wf = true) (hp : p.1.ok) (hl : (Lit.int .i64 p.2).wf = true) (hh : (Lit.int .i64 hop).wf = true) : (cmOf k p hop).ok :=
  ⟨hk, hh, (show (Lit.int .i64 0).wf = true by decide), hp, hl, (show Ad.ok (0, 0) from ⟨by decide, by decide⟩), (show 0 < 2 ^ 64 by decide), none, 0, 0, rfl⟩
theorem law25_num (n : Int) (w : World) : Calls Try.prog 21 #[.int .i64 n] w fun e w' => e = .returned (.int .i64 n) ∧ w = w' := by
  go_enter Try.func21, Try.ntmps21
  go_wp2_with fail
  go_ret
  exact ⟨rfl, rfl⟩
theorem book_alive (w : World) : Calls Try.prog 17 #[] w fun e w' => e = .returned (.bool true) ∧ Below w.heap.size w w' := by
  have cN := hid (fun w => book_new w 8 4 2)
  have cn := hid law25_num
  have cR := hid (fun (w' : World) (b : Nat) (F : Nat → Prop) (m : Lim) (R : List Rt) (H : BookAt w' b F m R) => book_routes H)
  have cD := hid (fun (w' : World) (b : Nat) (F : Nat → Prop) (m : Lim) (R : List Rt) (H : BookAt w' b F m R) (v : Value) (cs : List Cm) (h1 : Rd cmEn 10 w' v cs) (h2 : ∀ c ∈ cs, c.ok) (h3 : cs.length ≤ 50000) (h4 : ∀ z, v.ownBlock = some z → ¬ F z ∧ z < w'.heap.size) => book_do H v cs h1 h2 h3 h4)
  have e1 : doB (limOf 8 4 2) [] [] = (-1, 0, []) := rfl
  have e2 : doB (limOf 8 4 2) [] [cmOf 1 ((0, 0), 3) 1] = (-1, 0, [(((0, 0), 3), 1)]) := by decide
  have E1 := hid e1
  have E2 := hid e2
  clear e1 e2
  generalize limOf 8 4 2 = m at *
  go_enter Try.func17, Try.ntmps17
  go_wp2_with fail
  refine (cN.out _).mono ?_
  rintro _ w1 ⟨b, rfl, hB, hb1⟩
  have HB1 := hid hb1
  have HK := hid hB
  clear hB hb1 cN
  go_wp2_with fail
  refine (cD.out _ _ _ _ _ HK.out _ [] (Rd.nil _) (by simp) (by simp) (by intro z hz; cases hz)).mono ?_
  rintro _ w2 ⟨rfl, ⟨F2, hF2, hK2⟩, hC2⟩
  have HK2 := hid hK2
  have hb2 := HB1.out.trans (hC2.below HB1.out.size (fun z hz h => by omega))
  have HB2 := hid hb2
  have HF2 := hid (show ∀ z, F2 z → w.heap.size ≤ z from fun z hz => (hF2 z hz).elim id (fun h => by have := HB1.out.size; omega))
  rw [E1.out] at HK2 ⊢
  clear hK2 hC2 hb2 hF2 HK HB1
  go_wp2_with fail
  have hbk := (Below.refl w2.heap.size w2).alloc (Nat.le_refl _) (.cells #[.int .i64 1, .int .i64 1, .int .i64 0, .int .u64 0, .int .u64 0, .int .i64 3, .int .u64 0, .int .u64 0, .int .u64 0, .slice none 0 0] 53)
  have hblk := Blk.new w2 [.int .i64 1, .int .i64 1, .int .i64 0, .int .u64 0, .int .u64 0, .int .i64 3, .int .u64 0, .int .u64 0, .int .u64 0, .slice none 0 0] 53
  have HB3 := hid (held_next HB2.out hbk)
  have hK3 := (HK2.out.mono (G := fun z => F2 z ∧ z < w2.heap.size) (fun z hz h => ⟨h, hz⟩)).below hbk
  refine (cD.out _ _ _ _ _ hK3 _ [cmOf 1 ((0, 0), 3) 1] (Rd.of_blk (en := cmEn) (l := [cmOf 1 ((0, 0), 3) 1]) hblk cmEn_len (by unfold maxLen; simp)) (by intro c hc; simp at hc; subst hc; exact cmOf_ok (by decide) ⟨by decide, by decide⟩ (by decide) (by decide)) (by simp) (fun z hz => ?_)).mono ?_
  · injection hz with hz
    have h1 : z = w2.heap.size := hz.symm
    subst h1
    refine ⟨fun h => by have := h.2; omega, by simp⟩
  rintro _ w4 ⟨rfl, ⟨F4, hF4, hK4⟩, hC4⟩
  have HK4 := hid hK4
  have hs2 := HB3.out.size
  have HB4 := hid (HB3.out.trans (hC4.below HB3.out.size (fun z hz h => by have := HF2.out z h.1; omega)))
  rw [E2.out] at HK4 ⊢
  clear hbk hblk hK3 hK4 hC4 cD HK2 HB2 HB3 hF4
  go_wp2_with fail
  refine (cn.out _ _).mono ?_
  rintro _ w5 ⟨rfl, rfl⟩
  go_wp2_with fail
  refine (cn.out _ _).mono ?_
  rintro _ w5 ⟨rfl, rfl⟩
  go_wp2_with fail
  refine (cR.out _ _ _ _ _ HK4.out).mono ?_
  rintro _ w6 ⟨v, rfl, hO, hb6⟩
  obtain ⟨A, cap, rfl⟩ := hO.form
  have HB6 := hid (held_next HB4.out hb6)
  clear hO hb6 cR
  go_wp2_with fail
  go_ret
  exact ⟨rfl, HB6.out⟩
end Go.Proofs.Ytcnecjjgnnkjkaa
