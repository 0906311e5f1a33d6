/-
  Of routes in a block that stand in order, alike neighbours left out but the first (slices.CompactFunc). No condition but that there are no more than a thousand million routes.
-/
import Derived.Test.YtcchjljdhjkmeaaSortM
namespace Go.Proofs.Ytcchjljdhjkmeaa
open Go.RowKit
set_option linter.unusedVariables false
set_option linter.unusedSimpArgs false
set_option maxRecDepth 100000
attribute [local go_sem high] eq_ad eq_pf

theorem srt_eq (x y : Rt) (b : Bool) (hb : b = decide (x.1 = y.1)) (w : World) :
    Calls Try.prog 43 #[.agg #[.int .u64 (x.1.1.1 : Int), .int .u64 (x.1.1.2 : Int), .int .i64 x.1.2, .int .i64 x.2], .agg #[.int .u64 (y.1.1.1 : Int), .int .u64 (y.1.1.2 : Int), .int .i64 y.1.2, .int .i64 y.2]] w fun e w' => e = .returned (.bool b) ∧ Below w.heap.size w w' := by
  obtain ⟨⟨⟨x1, x2⟩, x3⟩, x4⟩ := x
  obtain ⟨⟨⟨y1, y2⟩, y3⟩, y4⟩ := y
  have hg := guard_pf
  have HE := hid (pf_beq ((x1, x2), x3) ((y1, y2), y3))
  have hb1 := (Below.refl w.heap.size w).alloc (Nat.le_refl _) (.cells #[.int .u64 (x1 : Int), .int .u64 (x2 : Int), .int .i64 x3, .int .i64 x4] 39)
  have hb2 := hid (hb1.alloc hb1.size (.cells #[.int .u64 (y1 : Int), .int .u64 (y2 : Int), .int .i64 y3, .int .i64 y4] 39))
  have HB := hid hb
  clear hb1 hb
  go_enter Try.func43, Try.ntmps43
  go_wp2_with fail
  all_goals
    go_ret
    refine ⟨ret_bool ?_, ?_⟩
    · rw [HB.out, ← HE.out]
    · repeat (first | exact hb2.out | apply Below.drew | apply go_below_drewN)

/-- The first k of what is left, if k routes have been looked at. -/
structure CoSt (g : Nat) (U : List Tg) (Z : List Value) (k : Nat) (w0 wr : World) (D : List Tg) (x : Tg) (R : List Tg) : Prop where
  u : U = D ++ x :: R
  k : D.length + 1 = k
  c : compT U = D ++ x :: compA x.1.1 R
  r : RowT wr g U Z
  h : Chg (· = g) w0 wr
def CoRel (g : Nat) (U : List Tg) (Z : List Value) (w0 : World) (iv : Value) (wr : World) : Prop := ∃ (k : Nat) (D : List Tg) (x : Tg) (R : List Tg), iv = .int .i64 k ∧ CoSt g U Z k w0 wr D x R
structure CiSt (g : Nat) (U : List Tg) (Z : List Value) (k0 k j : Nat) (w0 wr : World) (K J : List Tg) (y : Tg) (R : List Tg) : Prop where
  kk : K.length = k
  jj : K.length + J.length + 1 = k0 + j
  j1 : 1 ≤ j
  n : K.length + J.length + 1 + R.length = U.length
  c : compT U = K ++ compA y.1.1 R
  r : RowT wr g (K ++ J ++ y :: R) Z
  h : Chg (· = g) w0 wr
def CiRel (g : Nat) (U : List Tg) (Z : List Value) (k0 : Nat) (w0 : World) (kv jv : Value) (wr : World) : Prop := ∃ (k j : Nat) (K J : List Tg) (y : Tg) (R : List Tg), kv = .int .i64 k ∧ jv = .int .i64 j ∧ CiSt g U Z k0 k j w0 wr K J y R
def CoPost (g cap : Nat) (U : List Tg) (Z : List Value) (w : World) (e : Ending) (w' : World) : Prop :=
  e = .returned (.slice (some ⟨g, 0, none⟩) (compT U).length cap) ∧ ∃ Z' : List Value, RowT w' g (compT U) Z' ∧ (compT U).length * 4 + Z'.length = U.length * 4 + Z.length ∧ Chg (· = g) w w'
variable {g : Nat} {U : List Tg} {Z : List Value}
theorem CoSt.next {k : Nat} {w0 wr w1 : World} {D R : List Tg} {x y : Tg} (h : CoSt g U Z k w0 wr D x (y :: R)) (hb : Below wr.heap.size wr w1) (hn : y.1.1 ≠ x.1.1) : CoSt g U Z (k + 1) w0 w1 (D ++ [x]) y R :=
  ⟨by rw [h.u]; simp, by have := h.k; simp; omega, by rw [h.c, compA_new hn]; simp, h.r.below hb, h.h.trans' (Chg.of_below hb _)⟩
theorem CoSt.inner {k : Nat} {w0 wr w1 : World} {D R : List Tg} {x y : Tg} (h : CoSt g U Z k w0 wr D x (y :: R)) (hb : Below wr.heap.size wr w1) (hn : y.1.1 = x.1.1) : CiSt g U Z k k 1 w0 w1 (D ++ [x]) [] y R :=
  ⟨by have := h.k; simp; omega, by have := h.k; simp; omega, Nat.le_refl _, by have := h.k; rw [h.u]; simp; omega, by rw [h.c, compA_same hn]; simp, by have := h.r.below hb; rw [h.u] at this; simpa using this, h.h.trans' (Chg.of_below hb _)⟩
theorem CoSt.done {k : Nat} {w0 wr : World} {D : List Tg} {x : Tg} (h : CoSt g U Z k w0 wr D x []) : compT U = U := by
  rw [h.c, h.u]; simp [compA]
theorem CiSt.same {k0 k j : Nat} {w0 wr w1 : World} {K J R : List Tg} {y z : Tg} (h : CiSt g U Z k0 k j w0 wr K J y (z :: R)) (hb : Below wr.heap.size wr w1) (hn : z.1.1 = y.1.1) : CiSt g U Z k0 k (j + 1) w0 w1 K (J ++ [y]) z R :=
  ⟨h.kk, by have := h.jj; simp; omega, by have := h.j1; omega, by have := h.n; simp at this ⊢; omega, by rw [h.c, compA_same hn], by have := h.r.below hb; simpa using this, h.h.trans' (Chg.of_below hb _)⟩
theorem head_ex (J : List Tg) (y : Tg) : ∃ h J', J ++ [y] = h :: J' ∧ J'.length = J.length := by
  cases J with
  | nil => exact ⟨y, [], rfl, rfl⟩
  | cons h J => exact ⟨h, J ++ [y], rfl, by simp⟩
theorem CiSt.new {k0 k j : Nat} {w0 wr w1 : World} {K J R : List Tg} {y z : Tg} (h : CiSt g U Z k0 k j w0 wr K J y (z :: R)) (hb : Below wr.heap.size wr w1) (hn : z.1.1 ≠ y.1.1) :
    ∃ J', CiSt g U Z k0 (k + 1) (j + 1) w0 (st4 w1 g k z.1) (K ++ [z]) J' z R := by
  obtain ⟨a, J', e, hl⟩ := head_ex J y
  have e2 : K ++ J ++ y :: z :: R = K ++ a :: (J' ++ z :: R) := by
    have : K ++ J ++ y :: z :: R = K ++ (J ++ [y]) ++ z :: R := by simp
    rw [this, e]; simp
  have hr := h.r.below hb
  rw [e2] at hr
  have hk := h.kk
  have h1 := hr.st4 (i := k) (by simp; omega) z
  rw [set_mid hk.symm] at h1
  exact ⟨J', by simp; omega, by have := h.jj; simp; omega, by have := h.j1; omega, by have := h.n; simp at this ⊢; omega, by rw [h.c, compA_new hn]; simp, by simpa using h1, (h.h.trans' (Chg.of_below hb _)).trans' (st4_chg _ _ _ _)⟩
theorem wpList_clear_m {P : Program} {ops : Array Oper} {rest : List Oper} {o : Oper} {a : Act} {Q : Exit → Act → World → Prop} {w : World} (hgd : o.guard = none) (s : Operand) (t : TypeId) (ho : o.op = .call { callee := .builtin .clear, args := #[s], argTypes := #[t] })
    (e : TypeId) (ht : P.underlying t = some (.slice e)) (z : Value) (hz : ∀ w, (zeroValue e).run P w = .ok z w) (g off m c : Nat) (hs : a.eval s = .slice (some ⟨g, off, none⟩) m c) (h0 : 0 < m) (cur : List Value) (te : TypeId) (hB : Blk w g te cur)
    (zs : List Value) (hzs : (Builtin.zeroCells z.cells m).toList = zs) (hfit : off + zs.length ≤ cur.length) (h1 : ∀ v ∈ zs, v.oneCell' = true)
    (h : ∀ w', Blk w' g te (cur.take off ++ zs ++ cur.drop (off + zs.length)) → Chg (· = g) w w' → wpList P ops Q rest (a.put o.dst (.tuple #[])) w') : wpList P ops Q (o :: rest) a w := by
  obtain ⟨q, rfl⟩ : ∃ q, m = q + 1 := ⟨m - 1, by omega⟩
  exact wpList_clear_k hgd s t ho e ht z hz g off q c hs cur te hB zs hzs hfit h1 h
theorem zeros_len (z : Array Value) (n : Nat) : ((Builtin.zeroCells z n).toList).length = n * z.size := by simp [Builtin.zeroCells]
theorem zeros_one {z : Array Value} (hz : ∀ v ∈ z.toList, v.oneCell' = true) (h0 : 0 < z.size) (n : Nat) : ∀ v ∈ (Builtin.zeroCells z n).toList, v.oneCell' = true := by
  intro v hv
  simp only [Builtin.zeroCells, Array.toList_map, List.mem_map] at hv
  obtain ⟨i, hi, rfl⟩ := hv
  have hm := Nat.mod_lt i h0
  rw [Array.getElem!_eq_getD, Array.getD_eq_getD_getElem?, Array.getElem?_eq_getElem hm]
  exact hz _ (by simp)
theorem lay_rest {P Q Z zs : List Value} {m : Nat} (hP : P.length = m) (hQ : Q.length = zs.length) : (P ++ Q ++ Z).take m ++ zs ++ (P ++ Q ++ Z).drop (m + zs.length) = P ++ (zs ++ Z) := by
  subst hP
  rw [List.append_assoc P, List.take_left' rfl, ← List.drop_drop, List.drop_left' rfl, ← hQ, List.drop_left' rfl, List.append_assoc]
/-- The rest is laid to zero. -/
theorem CiSt.fin {k0 k j : Nat} {w0 wr : World} {K J : List Tg} {y : Tg} (h : CiSt g U Z k0 k j w0 wr K J y []) {zs : List Value} (hz : zs.length = (U.length - k) * 4) {w' : World}
    (hB : Blk w' g 39 ((rtsV ((K ++ J ++ [y]).map (·.1)) ++ Z).take (k * 4) ++ zs ++ (rtsV ((K ++ J ++ [y]).map (·.1)) ++ Z).drop (k * 4 + zs.length))) (hc : Chg (· = g) wr w') :
    compT U = K ∧ RowT w' g K (zs ++ Z) ∧ k * 4 + (zs ++ Z).length = U.length * 4 + Z.length ∧ Chg (· = g) w0 w' := by
  have hk := h.kk
  have hn := h.n
  simp only [List.length_nil, Nat.add_zero] at hn
  have e1 : rtsV ((K ++ J ++ [y]).map (·.1)) = rtsV (K.map (·.1)) ++ rtsV ((J ++ [y]).map (·.1)) := by rw [List.append_assoc, List.map_append, rtsV, List.flatMap_append]; rfl
  have l1 : (rtsV (K.map (·.1))).length = k * 4 := by rw [rtsV_len, List.length_map, hk]
  have l2 : (rtsV ((J ++ [y]).map (·.1))).length = zs.length := by rw [rtsV_len, hz, List.length_map, List.length_append, List.length_singleton]; omega
  rw [e1, lay_rest l1 l2] at hB
  refine ⟨by rw [h.c]; simp [compA], hB, by rw [List.length_append, hz]; omega, h.h.trans' hc⟩
end Go.Proofs.Ytcchjljdhjkmeaa
