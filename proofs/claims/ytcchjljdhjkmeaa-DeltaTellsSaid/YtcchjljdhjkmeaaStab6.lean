/-
  Sorting routes stably, as the library does: two rows in order made one. No condition.
-/
import Derived.Test.YtcchjljdhjkmeaaStab5
namespace Go.Proofs.Ytcchjljdhjkmeaa
open Go.RowKit
set_option linter.unusedVariables false
set_option linter.unusedSimpArgs false
set_option maxRecDepth 100000

def SymAt (d : Nat) : Prop := ∀ (w : World) (g cap n a m b : Nat) (A S T B : List Tg) (Z : List Value), RowT w g (A ++ S ++ T ++ B) Z → A.length + S.length + T.length + B.length = n → A.length = a → a + S.length = m → m + T.length = b → 0 < S.length → 0 < T.length → S.Pairwise tl → T.Pairwise tl → CrossT S T → S.length + T.length ≤ d → n ≤ cap → (n ≤ 4000000000000000000 ∧ cap ≤ 9223372036854775807) →
  Calls Try.prog 69 #[.slice (some ⟨g, 0, none⟩) n cap, .int .i64 (a : Int), .int .i64 (m : Int), .int .i64 (b : Int), .func (.func 40) #[] #[]] w (SymPost g Z w A S T B)
structure SySt (S T : List Tg) (a m b mid s r : Nat) (w0 wr : World) : Prop where
  sr : s ≤ r
  sa : a ≤ s
  rm : r ≤ m
  rd : r ≤ mid
  lo : mid + m ≤ s + b
  h1 : s = a ∨ mid + m = s + b ∨ ∃ x y, S[s - a - 1]? = some x ∧ T[mid - s]? = some y ∧ ¬ y.1.1.lt x.1.1
  h2 : r = m ∨ r = mid ∨ ∃ x y, S[r - a]? = some x ∧ T[mid - r - 1]? = some y ∧ y.1.1.lt x.1.1
  b : Below w0.heap.size w0 wr
def SyRel (S T : List Tg) (a m b mid : Nat) (w0 : World) (sv rv : Value) (wr : World) : Prop := ∃ s r : Nat, sv = .int .i64 s ∧ rv = .int .i64 r ∧ SySt S T a m b mid s r w0 wr
def Sy5 (g : Nat) (Z : List Value) (w0 : World) (A S1 T1 S2 T2 B : List Tg) (w' : World) : Prop := RowT w' g (A ++ S1 ++ T1 ++ S2 ++ T2 ++ B) Z ∧ Chg (· = g) w0 w'
def Sy6 (g : Nat) (Z : List Value) (w0 : World) (A S1 T1 S2 T2 B : List Tg) (w' : World) : Prop := ∃ U1 : List Tg, U1.Perm (S1 ++ T1) ∧ U1.Pairwise tl ∧ RowT w' g (A ++ U1 ++ S2 ++ T2 ++ B) Z ∧ Chg (· = g) w0 w'
def Sy7 (g : Nat) (Z : List Value) (w0 : World) (A S1 T1 S2 T2 B : List Tg) (w' : World) : Prop := ∃ U1 U2 : List Tg, U1.Perm (S1 ++ T1) ∧ U1.Pairwise tl ∧ U2.Perm (S2 ++ T2) ∧ U2.Pairwise tl ∧ RowT w' g (A ++ U1 ++ U2 ++ B) Z ∧ Chg (· = g) w0 w'
section
variable {g : Nat} {Z : List Value} {w0 w w' : World} {A S1 T1 S2 T2 B : List Tg}
theorem Sy5.skip (h : Sy5 g Z w0 A S1 T1 S2 T2 B w) (h0 : S1 = [] ∨ T1 = []) (hS : S1.Pairwise tl) (hT : T1.Pairwise tl) : Sy6 g Z w0 A S1 T1 S2 T2 B w :=
  ⟨S1 ++ T1, List.Perm.refl _, sym_none h0 hS hT, by have := h.1; simpa using this, h.2⟩
theorem Sy6.skip (h : Sy6 g Z w0 A S1 T1 S2 T2 B w) (h0 : S2 = [] ∨ T2 = []) (hS : S2.Pairwise tl) (hT : T2.Pairwise tl) : Sy7 g Z w0 A S1 T1 S2 T2 B w := by
  obtain ⟨U1, p1, s1, r, c⟩ := h
  exact ⟨U1, S2 ++ T2, p1, s1, List.Perm.refl _, sym_none h0 hS hT, by simpa using r, c⟩
end
set_option maxHeartbeats 4000000 in
theorem sym_gen {d : Nat} (ih : SymAt d) {w : World} {g cap n a m b : Nat} {A S T B : List Tg} {Z : List Value} (H : RowT w g (A ++ S ++ T ++ B) Z) (hn : A.length + S.length + T.length + B.length = n) (ha : A.length = a) (hm : a + S.length = m) (hb : m + T.length = b)
    (h1 : 2 ≤ S.length) (h2 : 2 ≤ T.length) (hS : S.Pairwise tl) (hT : T.Pairwise tl) (hX : CrossT S T) (hd : S.length + T.length ≤ d + 1) (hc : n ≤ cap) (hcm : n ≤ 4000000000000000000 ∧ cap ≤ 9223372036854775807) :
    Calls Try.prog 69 #[.slice (some ⟨g, 0, none⟩) n cap, .int .i64 (a : Int), .int .i64 (m : Int), .int .i64 (b : Int), .func (.func 40) #[] #[]] w (SymPost g Z w A S T B) := by
  have HH := hid H
  have HS := hid hS
  have HT := hid hT
  have HX := hid hX
  have HA := hid ha
  obtain ⟨l, hl⟩ : ∃ l, S.length = l := ⟨_, rfl⟩
  obtain ⟨t, ht⟩ : ∃ t, T.length = t := ⟨_, rfl⟩
  have HL := hid hl
  have HTL := hid ht
  rw [hl] at hm hn h1 hd
  rw [ht] at hb hn h2 hd
  obtain ⟨mid, hmid⟩ : ∃ mid, (a + b) / 2 = mid := ⟨_, rfl⟩
  obtain ⟨nn, hnn⟩ : ∃ nn, mid + m = nn := ⟨_, rfl⟩
  obtain ⟨pp, hpp⟩ : ∃ pp, nn = pp + 1 := ⟨nn - 1, by omega⟩
  have k1 : (m : Int) - (a : Int) = (l : Int) := by omega
  have k0 : ¬ (l : Int) = 1 := by omega
  have k0b : ((l : Int) == 1) = false := by simpa using k0
  have k2 : (b : Int) - (m : Int) = (t : Int) := by omega
  have k3 : ¬ (t : Int) = 1 := by omega
  have k3b : ((t : Int) == 1) = false := by simpa using k3
  have k4 : ((a : Int) + (b : Int)) / 2 = (mid : Int) := by omega
  have k5 : (mid : Int) + (m : Int) = (nn : Int) := by omega
  have k6 : (nn : Int) - 1 = (pp : Int) := by omega
  have hbn : (b : Int) ≤ n := by omega
  have hmb : (m : Int) < b := by omega
  have ham : (a : Int) < m := by omega
  have hmd : (mid : Int) < b := by omega
  have had : (a : Int) < mid := by omega
  have HNUM := hid (show A.length + l + t + B.length = n ∧ a + l = m ∧ m + t = b ∧ 2 ≤ l ∧ 2 ≤ t ∧ l + t ≤ d + 1 ∧ (a + b) / 2 = mid ∧ mid + m = nn ∧ nn = pp + 1 from ⟨hn, hm, hb, h1, h2, hd, hmid, hnn, hpp⟩)
  have HIH := hid ih
  have HRT := hid (fun (w : World) (a m b : Nat) (A X Y B : List Tg) (H : RowT w g (A ++ X ++ Y ++ B) Z) h1 h2 h3 h4 h5 h6 => st_rotate (w := w) (cap := cap) (n := n) (a := a) (m := m) (b := b) H h1 h2 h3 h4 h5 h6 hc (by unfold maxLen; omega) (.func (.func 40) #[] #[]))
  have hmm : mid < m ∧ (mid : Int) < (m : Int) ∨ ¬ mid < m ∧ ¬ (mid : Int) < (m : Int) := by omega
  have hab2 : a + l = m ∧ m + t = b ∧ (a + b) / 2 = mid ∧ mid + m = nn := ⟨hm, hb, hmid, hnn⟩
  clear H hS hT hX ha hl ht hn hm hb h1 h2 hd hmid hnn hpp ih
  rcases hmm with ⟨hq, hmm⟩ | ⟨hq, hmm⟩
  · obtain ⟨s0, hs0⟩ : ∃ s0 : Nat, s0 + b = nn := ⟨nn - b, by omega⟩
    have e1 : (nn : Int) - (b : Int) = (s0 : Int) := by omega
    have HST := hid (show SySt S T a m b mid s0 mid w w from ⟨by omega, by omega, by omega, by omega, by omega, .inr (.inl (by omega)), .inr (.inl rfl), Below.refl _ _⟩)
    have hs0n : (s0 : Int) ≤ b := by omega
    clear hs0 hq hab2
    go_enter Try.func69, Try.ntmps69
    go_wp2_with fail
    go_loopw [20, 21] (fun sv rv wr => SyRel S T a m b mid w sv rv wr) (fun sv rv _ => (intOf rv).toNat - (intOf sv).toNat)
    case atStart => exact ⟨_, _, rfl, rfl, HST.out⟩
    case round =>
      obtain ⟨s, r, rfl, rfl, hY⟩ := hrel
      clear HST
      have HSS := hid hY
      have q1 := hY.sr
      have q2 := hY.sa
      have q3 := hY.rm
      have q4 := hY.rd
      have q5 := hY.lo
      obtain ⟨z1, z2, z3, z4, z5, z6, z7, z8, z9⟩ := HNUM.out
      by_cases hlt : s < r
      · obtain ⟨c, hcc⟩ : ∃ c, (s + r) / 2 = c := ⟨_, rfl⟩
        obtain ⟨q, hq⟩ : ∃ q, q + c = pp := ⟨pp - c, by omega⟩
        obtain ⟨x, hx⟩ : ∃ x, S[c - a]? = some x := ⟨_, List.getElem?_eq_getElem (by rw [HL.out]; omega)⟩
        obtain ⟨y, hy⟩ : ∃ y, T[mid - 1 - c]? = some y := ⟨_, List.getElem?_eq_getElem (by rw [HTL.out]; omega)⟩
        have hAl := HA.out
        have p1 : (A ++ S ++ T ++ B)[q]? = some y := by
          have e : q = m + (mid - 1 - c) := by omega
          have f : (A ++ S).length = m := by rw [List.length_append, HL.out]; omega
          rw [e, at_mid f (by rw [HTL.out]; omega)]; exact hy
        have p2 : (A ++ S ++ T ++ B)[c]? = some x := by
          have e : c = a + (c - a) := by omega
          have f : A ++ S ++ T ++ B = A ++ S ++ (T ++ B) := by simp
          rw [f]
          conv => lhs; rw [e]
          rw [at_mid hAl (by rw [HL.out]; omega)]; exact hx
        have HTW := hid ((HH.out.below hY.b).two p1 p2)
        have HX1 := hid hx
        have HY1 := hid hy
        have cb := hid (fun w => srt_cmp y.1 x.1 w)
        obtain ⟨z, hz⟩ : ∃ z, y.1.1.cmp x.1.1 = z := ⟨_, rfl⟩
        have hzl := srt_cmpn y.1 x.1
        rw [hz] at cb hzl
        have HZL := hid hzl
        have f1 : ((s : Int) + (r : Int)) / 2 = (c : Int) := by omega
        have f2 : IntKind.i64.wrap ((pp : Int) - (c : Int)) = (q : Int) := by rw [IntKind.wrap_i64]; omega
        have c0 : (0 : Int) ≤ (c : Int) := by omega
        have c1 : (c : Int) < (n : Int) := by omega
        have qq0 : (0 : Int) ≤ (q : Int) := by omega
        have qq1 : (q : Int) < (n : Int) := by omega
        have sr : (s : Int) < (r : Int) := by omega
        have rn : (r : Int) ≤ (n : Int) := by omega
        have HCC := hid (show s ≤ c ∧ c < r from by omega)
        obtain ⟨D, hD⟩ : ∃ D, decide (z < 0) = D := ⟨_, rfl⟩
        have HD := hid hD
        obtain ⟨⟨⟨⟨x1, x2⟩, x3⟩, x4⟩, x5⟩ := x
        obtain ⟨⟨⟨⟨y1, y2⟩, y3⟩, y4⟩, y5⟩ := y
        dsimp only at HTW cb
        clear hY hx hy p1 p2 hz hzl hcc hq hAl q1 q2 q3 q4 q5 z1 z2 z3 z4 z5 z6 z7 z8 z9 hlt
        cases D
        all_goals
          go_wp2_with fail
          refine wp_region_later (fun w' => Two g q c (((y1, y2), y3), y4) (((x1, x2), x3), x4) w') (fun z => Two.later HTW.out z) (by kernel_rfl) (by kernel_rfl) (fun HS => ?_)
          simp only [Two] at HS
          repeat (go_big_quiet_step (with_reducible exact Later.calls _ (cb.out _)))
          refine wpQuiet_nil ?_
          rintro w6 ⟨⟨_, hb6⟩, rfl⟩
          have HB6 := hid (held_next HSS.out.b hb6)
          clear hb6 HS cb HTW
          go_wp2_with fail
          go_roundw
        case rel =>
          have h1 := HCC.out
          have h2 := HSS.out
          exact ⟨c + 1, r, by go_num, rfl, by omega, by have := h2.sa; omega, h2.rm, h2.rd, by have := h2.lo; omega, .inr (.inr ⟨_, _, by rw [show c + 1 - a - 1 = c - a by have := h2.sa; omega]; exact HX1.out, by rw [show mid - (c + 1) = mid - 1 - c by omega]; exact HY1.out, fun k => of_decide_eq_false HD.out (HZL.out.2 k)⟩), h2.h2, HB6.out⟩
        case measure => have h1 := HCC.out; simp [intOf]; omega
        case rel =>
          have h1 := HCC.out
          have h2 := HSS.out
          exact ⟨s, c, rfl, by go_num, h1.1, h2.sa, by have := h2.rm; omega, by have := h2.rd; omega, h2.lo, h2.h1, .inr (.inr ⟨_, _, HX1.out, by rw [show mid - c - 1 = mid - 1 - c by omega]; exact HY1.out, HZL.out.1 (of_decide_eq_true HD.out)⟩), HB6.out⟩
        case measure => have h1 := HCC.out; simp [intOf]; omega
      · have hsr : s = r := by omega
        subst hsr
        obtain ⟨i, hi⟩ : ∃ i, a + i = s := ⟨s - a, by omega⟩
        obtain ⟨j, hj⟩ : ∃ j, s + j = mid := ⟨mid - s, by omega⟩
        obtain ⟨en, hen⟩ : ∃ en, m + j = en := ⟨_, rfl⟩
        have hil : i ≤ l := by omega
        have hjt : j ≤ t := by omega
        have hX0 := sym_search HS.out HT.out HX.out (i := i) (j := j) (by rw [HL.out]; exact hil) (by rw [HTL.out]; exact hjt)
          (by
            rcases hY.h1 with h | h | ⟨x, y, h1, h2, h3⟩
            · exact .inl (by omega)
            · exact .inr (.inl (by rw [HTL.out]; omega))
            · exact .inr (.inr ⟨x, y, by rw [show i - 1 = s - a - 1 by omega]; exact h1, by rw [show j = mid - s by omega]; exact h2, h3⟩))
          (by
            rcases hY.h2 with h | h | ⟨x, y, h1, h2, h3⟩
            · exact .inl (by rw [HL.out]; omega)
            · exact .inr (.inl (by omega))
            · exact .inr (.inr ⟨x, y, by rw [show i = s - a by omega]; exact h1, by rw [show j - 1 = mid - s - 1 by omega]; exact h2, h3⟩))
        have hAl := HA.out
        have l1 : (S.take i).length = i := by rw [List.length_take, HL.out]; omega
        have l2 : (S.drop i).length = l - i := by rw [List.length_drop, HL.out]
        have l3 : (T.take j).length = j := by rw [List.length_take, HTL.out]; omega
        have l4 : (T.drop j).length = t - j := by rw [List.length_drop, HTL.out]
        obtain ⟨sS1, sS2, _⟩ := pw_split HS.out i
        obtain ⟨sT1, sT2, _⟩ := pw_split HT.out j
        obtain ⟨x1, x2⟩ := HX.out.part i j
        have hR0 : RowT wr g (A ++ S.take i ++ S.drop i ++ T.take j ++ T.drop j ++ B) Z := by
          have h := HH.out.below hY.b
          have e : A ++ S.take i ++ S.drop i ++ T.take j ++ T.drop j ++ B = A ++ (S.take i ++ S.drop i) ++ (T.take j ++ T.drop j) ++ B := by simp
          rw [e, List.take_append_drop, List.take_append_drop]; exact h
        have hC0 : Chg (· = g) w wr := Chg.of_below hY.b _
        have HROT := hid (fun (h1 : s < m) (h2 : m < en) => HRT.out wr s m en (A ++ S.take i) (S.drop i) (T.take j) (T.drop j ++ B) (by have h := hR0; simp only [List.append_assoc] at h ⊢; exact h) (by rw [List.length_append, List.length_append, l1, l2, l3, l4]; omega) (by rw [List.length_append, l1]; omega) (by rw [List.length_append, l1, l2]; omega) (by rw [List.length_append, l1, l2, l3]; omega) (by omega) (by omega))
        have HP := hid (fun (w5 : World) (h : Sy5 g Z w A (S.take i) (T.take j) (S.drop i) (T.drop j) B w5) (h1 : a < s) (h2 : s < mid) => HIH.out w5 g cap n a s mid A (S.take i) (T.take j) (S.drop i ++ T.drop j ++ B) Z (by have := h.1; simpa using this) (by simp only [List.length_append]; rw [l1, l2, l3, l4]; omega) hAl (by omega) (by omega) (by omega) (by omega) sS1 sT1 x1 (by omega) hc hcm)
        have HQ := hid (show ∀ (w6 : World), Sy6 g Z w A (S.take i) (T.take j) (S.drop i) (T.drop j) B w6 → mid < en → en < b → Calls Try.prog 69 #[.slice (some ⟨g, 0, none⟩) n cap, .int .i64 (mid : Int), .int .i64 (en : Int), .int .i64 (b : Int), .func (.func 40) #[] #[]] w6 (fun e w' => e = .returned (.tuple #[]) ∧ Sy7 g Z w A (S.take i) (T.take j) (S.drop i) (T.drop j) B w') from fun w6 h h1 h2 => by
          obtain ⟨U1, u1, u2, u3, u4⟩ := h
          have lu : U1.length = i + j := by rw [u1.length_eq, List.length_append, l1, l3]
          refine (HIH.out w6 g cap n mid en b (A ++ U1) (S.drop i) (T.drop j) B Z u3 (by simp only [List.length_append]; rw [lu, l2, l4]; omega) (by rw [List.length_append, lu]; omega) (by omega) (by omega) (by omega) (by omega) sS2 sT2 x2 (by omega) hc hcm).mono ?_
          rintro e w' ⟨he, U2, v1, v2, v3, v4⟩
          exact ⟨he, U1, U2, u1, u2, v1, v2, v3, u4.trans' v4⟩)
        have HFIN := hid (show ∀ w' : World, Sy7 g Z w A (S.take i) (T.take j) (S.drop i) (T.drop j) B w' → SymPost g Z w A S T B (.returned (.tuple #[])) w' from fun w' h => by
          obtain ⟨U1, U2, u1, u2, v1, v2, v3, v4⟩ := h
          obtain ⟨U, e, p, q⟩ := sym_halves (A := A) (B := B) u1 v1 u2 v2 HS.out HT.out hX0.1 hX0.2
          exact ⟨rfl, U, p, q, by rw [← e]; exact v3, v4⟩)
        have HN1 := hid (show i = 0 → S.take i = [] from fun h => by rw [h]; rfl)
        have HN2 := hid (show j = 0 → T.take j = [] from fun h => by rw [h]; rfl)
        have HN3 := hid (show i = l → S.drop i = [] from fun h => by rw [h, ← HL.out]; exact List.drop_length)
        have HN4 := hid (show j = t → T.drop j = [] from fun h => by rw [h, ← HTL.out]; exact List.drop_length)
        have HR0 := hid hR0
        have HC0 := hid hC0
        have HSO := hid (And.intro sS1 (And.intro sS2 (And.intro sT1 sT2)))
        have HIJ := hid (show a + i = s ∧ s + j = mid ∧ m + j = en ∧ i ≤ l ∧ j ≤ t from ⟨hi, hj, hen, hil, hjt⟩)
        have g1 : (nn : Int) - (s : Int) = (en : Int) := by omega
        have g2 : (en : Int) ≤ n := by omega
        have hRR : ((s : Int) < (m : Int) ∧ (m : Int) < (en : Int)) ∨ ¬ ((s : Int) < (m : Int)) ∨ ((s : Int) < (m : Int) ∧ ¬ ((m : Int) < (en : Int))) := by omega
        have hPP : ((a : Int) < (s : Int) ∧ (s : Int) < (mid : Int)) ∨ ¬ ((a : Int) < (s : Int)) ∨ ((a : Int) < (s : Int) ∧ ¬ ((s : Int) < (mid : Int))) := by omega
        have hQQ : ((mid : Int) < (en : Int) ∧ (en : Int) < (b : Int)) ∨ ¬ ((mid : Int) < (en : Int)) ∨ ((mid : Int) < (en : Int) ∧ ¬ ((en : Int) < (b : Int))) := by omega
        clear hY HSS hi hj hen hil hjt hX0 l1 l2 l3 l4 sS1 sS2 sT1 sT2 x1 x2 hR0 hC0 hAl q1 q2 q3 q4 q5 z1 z2 z3 z4 z5 z6 z7 z8 z9 hlt
        rcases hRR with ⟨r1, r2⟩ | r1 | ⟨r1, r2⟩
        · go_wp2_with fail
          refine (HROT.out (by omega) (by omega)).mono ?_
          rintro _ w5 ⟨rfl, hR5, hC5⟩
          have HR5 := hid (show Sy5 g Z w A (S.take i) (T.take j) (S.drop i) (T.drop j) B w5 from ⟨by simpa using hR5, HC0.out.trans' hC5⟩)
          clear hR5 hC5 HROT
          rcases hPP with ⟨p1, p2⟩ | p1 | ⟨p1, p2⟩
          · go_wp2_with fail
            refine (HP.out _ HR5.out (by omega) (by omega)).mono ?_
            rintro _ w6 ⟨rfl, U1, u1, u2, u3, u4⟩
            have HR6 := hid (show Sy6 g Z w A (S.take i) (T.take j) (S.drop i) (T.drop j) B w6 from ⟨U1, u1, u2, by simpa using u3, HR5.out.2.trans' u4⟩)
            clear u1 u2 u3 u4
            rcases hQQ with ⟨t1, t2⟩ | t1 | ⟨t1, t2⟩
            · go_wp2_with fail
              all_goals
                refine (HQ.out _ HR6.out (by omega) (by omega)).mono ?_
                rintro _ w7 ⟨rfl, h7⟩
                have H7 := hid h7
                clear h7
                go_wp2_with fail
                go_returns
                exact HFIN.out _ H7.out
            · go_wp2_with fail
              all_goals
                go_returns
                exact HFIN.out _ (HR6.out.skip (.inl (HN3.out (by have := HIJ.out; have := HNUM.out; omega))) HSO.out.2.1 HSO.out.2.2.2)
            · go_wp2_with fail
              all_goals
                go_returns
                exact HFIN.out _ (HR6.out.skip (.inr (HN4.out (by have := HIJ.out; have := HNUM.out; omega))) HSO.out.2.1 HSO.out.2.2.2)
          · have HR6 := hid (HR5.out.skip (.inl (HN1.out (by have := HIJ.out; omega))) HSO.out.1 HSO.out.2.2.1)
            rcases hQQ with ⟨t1, t2⟩ | t1 | ⟨t1, t2⟩
            · go_wp2_with fail
              all_goals
                refine (HQ.out _ HR6.out (by omega) (by omega)).mono ?_
                rintro _ w7 ⟨rfl, h7⟩
                have H7 := hid h7
                clear h7
                go_wp2_with fail
                go_returns
                exact HFIN.out _ H7.out
            · go_wp2_with fail
              all_goals
                go_returns
                exact HFIN.out _ (HR6.out.skip (.inl (HN3.out (by have := HIJ.out; have := HNUM.out; omega))) HSO.out.2.1 HSO.out.2.2.2)
            · go_wp2_with fail
              all_goals
                go_returns
                exact HFIN.out _ (HR6.out.skip (.inr (HN4.out (by have := HIJ.out; have := HNUM.out; omega))) HSO.out.2.1 HSO.out.2.2.2)
          · have HR6 := hid (HR5.out.skip (.inr (HN2.out (by have := HIJ.out; omega))) HSO.out.1 HSO.out.2.2.1)
            rcases hQQ with ⟨t1, t2⟩ | t1 | ⟨t1, t2⟩
            · go_wp2_with fail
              all_goals
                refine (HQ.out _ HR6.out (by omega) (by omega)).mono ?_
                rintro _ w7 ⟨rfl, h7⟩
                have H7 := hid h7
                clear h7
                go_wp2_with fail
                go_returns
                exact HFIN.out _ H7.out
            · go_wp2_with fail
              all_goals
                go_returns
                exact HFIN.out _ (HR6.out.skip (.inl (HN3.out (by have := HIJ.out; have := HNUM.out; omega))) HSO.out.2.1 HSO.out.2.2.2)
            · go_wp2_with fail
              all_goals
                go_returns
                exact HFIN.out _ (HR6.out.skip (.inr (HN4.out (by have := HIJ.out; have := HNUM.out; omega))) HSO.out.2.1 HSO.out.2.2.2)
        · have HR5 := hid (show Sy5 g Z w A (S.take i) (T.take j) (S.drop i) (T.drop j) B wr from ⟨by
            have h := HR0.out
            rw [HN3.out (by have := HIJ.out; have := HNUM.out; omega)] at h ⊢
            simpa using h, HC0.out⟩)
          clear HROT
          rcases hPP with ⟨p1, p2⟩ | p1 | ⟨p1, p2⟩
          · go_wp2_with fail
            refine (HP.out _ HR5.out (by omega) (by omega)).mono ?_
            rintro _ w6 ⟨rfl, U1, u1, u2, u3, u4⟩
            have HR6 := hid (show Sy6 g Z w A (S.take i) (T.take j) (S.drop i) (T.drop j) B w6 from ⟨U1, u1, u2, by simpa using u3, HR5.out.2.trans' u4⟩)
            clear u1 u2 u3 u4
            rcases hQQ with ⟨t1, t2⟩ | t1 | ⟨t1, t2⟩
            · go_wp2_with fail
              all_goals
                refine (HQ.out _ HR6.out (by omega) (by omega)).mono ?_
                rintro _ w7 ⟨rfl, h7⟩
                have H7 := hid h7
                clear h7
                go_wp2_with fail
                go_returns
                exact HFIN.out _ H7.out
            · go_wp2_with fail
              all_goals
                go_returns
                exact HFIN.out _ (HR6.out.skip (.inl (HN3.out (by have := HIJ.out; have := HNUM.out; omega))) HSO.out.2.1 HSO.out.2.2.2)
            · go_wp2_with fail
              all_goals
                go_returns
                exact HFIN.out _ (HR6.out.skip (.inr (HN4.out (by have := HIJ.out; have := HNUM.out; omega))) HSO.out.2.1 HSO.out.2.2.2)
          · have HR6 := hid (HR5.out.skip (.inl (HN1.out (by have := HIJ.out; omega))) HSO.out.1 HSO.out.2.2.1)
            rcases hQQ with ⟨t1, t2⟩ | t1 | ⟨t1, t2⟩
            · go_wp2_with fail
              all_goals
                refine (HQ.out _ HR6.out (by omega) (by omega)).mono ?_
                rintro _ w7 ⟨rfl, h7⟩
                have H7 := hid h7
                clear h7
                go_wp2_with fail
                go_returns
                exact HFIN.out _ H7.out
            · go_wp2_with fail
              all_goals
                go_returns
                exact HFIN.out _ (HR6.out.skip (.inl (HN3.out (by have := HIJ.out; have := HNUM.out; omega))) HSO.out.2.1 HSO.out.2.2.2)
            · go_wp2_with fail
              all_goals
                go_returns
                exact HFIN.out _ (HR6.out.skip (.inr (HN4.out (by have := HIJ.out; have := HNUM.out; omega))) HSO.out.2.1 HSO.out.2.2.2)
          · have HR6 := hid (HR5.out.skip (.inr (HN2.out (by have := HIJ.out; omega))) HSO.out.1 HSO.out.2.2.1)
            rcases hQQ with ⟨t1, t2⟩ | t1 | ⟨t1, t2⟩
            · go_wp2_with fail
              all_goals
                refine (HQ.out _ HR6.out (by omega) (by omega)).mono ?_
                rintro _ w7 ⟨rfl, h7⟩
                have H7 := hid h7
                clear h7
                go_wp2_with fail
                go_returns
                exact HFIN.out _ H7.out
            · go_wp2_with fail
              all_goals
                go_returns
                exact HFIN.out _ (HR6.out.skip (.inl (HN3.out (by have := HIJ.out; have := HNUM.out; omega))) HSO.out.2.1 HSO.out.2.2.2)
            · go_wp2_with fail
              all_goals
                go_returns
                exact HFIN.out _ (HR6.out.skip (.inr (HN4.out (by have := HIJ.out; have := HNUM.out; omega))) HSO.out.2.1 HSO.out.2.2.2)
        · have HR5 := hid (show Sy5 g Z w A (S.take i) (T.take j) (S.drop i) (T.drop j) B wr from ⟨by
            have h := HR0.out
            rw [HN2.out (by have := HIJ.out; omega)] at h ⊢
            simpa using h, HC0.out⟩)
          clear HROT
          rcases hPP with ⟨p1, p2⟩ | p1 | ⟨p1, p2⟩
          · go_wp2_with fail
            refine (HP.out _ HR5.out (by omega) (by omega)).mono ?_
            rintro _ w6 ⟨rfl, U1, u1, u2, u3, u4⟩
            have HR6 := hid (show Sy6 g Z w A (S.take i) (T.take j) (S.drop i) (T.drop j) B w6 from ⟨U1, u1, u2, by simpa using u3, HR5.out.2.trans' u4⟩)
            clear u1 u2 u3 u4
            rcases hQQ with ⟨t1, t2⟩ | t1 | ⟨t1, t2⟩
            · go_wp2_with fail
              all_goals
                refine (HQ.out _ HR6.out (by omega) (by omega)).mono ?_
                rintro _ w7 ⟨rfl, h7⟩
                have H7 := hid h7
                clear h7
                go_wp2_with fail
                go_returns
                exact HFIN.out _ H7.out
            · go_wp2_with fail
              all_goals
                go_returns
                exact HFIN.out _ (HR6.out.skip (.inl (HN3.out (by have := HIJ.out; have := HNUM.out; omega))) HSO.out.2.1 HSO.out.2.2.2)
            · go_wp2_with fail
              all_goals
                go_returns
                exact HFIN.out _ (HR6.out.skip (.inr (HN4.out (by have := HIJ.out; have := HNUM.out; omega))) HSO.out.2.1 HSO.out.2.2.2)
          · have HR6 := hid (HR5.out.skip (.inl (HN1.out (by have := HIJ.out; omega))) HSO.out.1 HSO.out.2.2.1)
            rcases hQQ with ⟨t1, t2⟩ | t1 | ⟨t1, t2⟩
            · go_wp2_with fail
              all_goals
                refine (HQ.out _ HR6.out (by omega) (by omega)).mono ?_
                rintro _ w7 ⟨rfl, h7⟩
                have H7 := hid h7
                clear h7
                go_wp2_with fail
                go_returns
                exact HFIN.out _ H7.out
            · go_wp2_with fail
              all_goals
                go_returns
                exact HFIN.out _ (HR6.out.skip (.inl (HN3.out (by have := HIJ.out; have := HNUM.out; omega))) HSO.out.2.1 HSO.out.2.2.2)
            · go_wp2_with fail
              all_goals
                go_returns
                exact HFIN.out _ (HR6.out.skip (.inr (HN4.out (by have := HIJ.out; have := HNUM.out; omega))) HSO.out.2.1 HSO.out.2.2.2)
          · have HR6 := hid (HR5.out.skip (.inr (HN2.out (by have := HIJ.out; omega))) HSO.out.1 HSO.out.2.2.1)
            rcases hQQ with ⟨t1, t2⟩ | t1 | ⟨t1, t2⟩
            · go_wp2_with fail
              all_goals
                refine (HQ.out _ HR6.out (by omega) (by omega)).mono ?_
                rintro _ w7 ⟨rfl, h7⟩
                have H7 := hid h7
                clear h7
                go_wp2_with fail
                go_returns
                exact HFIN.out _ H7.out
            · go_wp2_with fail
              all_goals
                go_returns
                exact HFIN.out _ (HR6.out.skip (.inl (HN3.out (by have := HIJ.out; have := HNUM.out; omega))) HSO.out.2.1 HSO.out.2.2.2)
            · go_wp2_with fail
              all_goals
                go_returns
                exact HFIN.out _ (HR6.out.skip (.inr (HN4.out (by have := HIJ.out; have := HNUM.out; omega))) HSO.out.2.1 HSO.out.2.2.2)
  · have HST := hid (show SySt S T a m b mid a m w w from ⟨by omega, by omega, by omega, by omega, by omega, .inl rfl, .inl rfl, Below.refl _ _⟩)
    clear hq hab2
    go_enter Try.func69, Try.ntmps69
    go_wp2_with fail
    go_loopw [20, 21] (fun sv rv wr => SyRel S T a m b mid w sv rv wr) (fun sv rv _ => (intOf rv).toNat - (intOf sv).toNat)
    case atStart => exact ⟨_, _, rfl, rfl, HST.out⟩
    case round =>
      obtain ⟨s, r, rfl, rfl, hY⟩ := hrel
      clear HST
      have HSS := hid hY
      have q1 := hY.sr
      have q2 := hY.sa
      have q3 := hY.rm
      have q4 := hY.rd
      have q5 := hY.lo
      obtain ⟨z1, z2, z3, z4, z5, z6, z7, z8, z9⟩ := HNUM.out
      by_cases hlt : s < r
      · obtain ⟨c, hcc⟩ : ∃ c, (s + r) / 2 = c := ⟨_, rfl⟩
        obtain ⟨q, hq⟩ : ∃ q, q + c = pp := ⟨pp - c, by omega⟩
        obtain ⟨x, hx⟩ : ∃ x, S[c - a]? = some x := ⟨_, List.getElem?_eq_getElem (by rw [HL.out]; omega)⟩
        obtain ⟨y, hy⟩ : ∃ y, T[mid - 1 - c]? = some y := ⟨_, List.getElem?_eq_getElem (by rw [HTL.out]; omega)⟩
        have hAl := HA.out
        have p1 : (A ++ S ++ T ++ B)[q]? = some y := by
          have e : q = m + (mid - 1 - c) := by omega
          have f : (A ++ S).length = m := by rw [List.length_append, HL.out]; omega
          rw [e, at_mid f (by rw [HTL.out]; omega)]; exact hy
        have p2 : (A ++ S ++ T ++ B)[c]? = some x := by
          have e : c = a + (c - a) := by omega
          have f : A ++ S ++ T ++ B = A ++ S ++ (T ++ B) := by simp
          rw [f]
          conv => lhs; rw [e]
          rw [at_mid hAl (by rw [HL.out]; omega)]; exact hx
        have HTW := hid ((HH.out.below hY.b).two p1 p2)
        have HX1 := hid hx
        have HY1 := hid hy
        have cb := hid (fun w => srt_cmp y.1 x.1 w)
        obtain ⟨z, hz⟩ : ∃ z, y.1.1.cmp x.1.1 = z := ⟨_, rfl⟩
        have hzl := srt_cmpn y.1 x.1
        rw [hz] at cb hzl
        have HZL := hid hzl
        have f1 : ((s : Int) + (r : Int)) / 2 = (c : Int) := by omega
        have f2 : IntKind.i64.wrap ((pp : Int) - (c : Int)) = (q : Int) := by rw [IntKind.wrap_i64]; omega
        have c0 : (0 : Int) ≤ (c : Int) := by omega
        have c1 : (c : Int) < (n : Int) := by omega
        have qq0 : (0 : Int) ≤ (q : Int) := by omega
        have qq1 : (q : Int) < (n : Int) := by omega
        have sr : (s : Int) < (r : Int) := by omega
        have rn : (r : Int) ≤ (n : Int) := by omega
        have HCC := hid (show s ≤ c ∧ c < r from by omega)
        obtain ⟨D, hD⟩ : ∃ D, decide (z < 0) = D := ⟨_, rfl⟩
        have HD := hid hD
        obtain ⟨⟨⟨⟨x1, x2⟩, x3⟩, x4⟩, x5⟩ := x
        obtain ⟨⟨⟨⟨y1, y2⟩, y3⟩, y4⟩, y5⟩ := y
        dsimp only at HTW cb
        clear hY hx hy p1 p2 hz hzl hcc hq hAl q1 q2 q3 q4 q5 z1 z2 z3 z4 z5 z6 z7 z8 z9 hlt
        cases D
        all_goals
          go_wp2_with fail
          refine wp_region_later (fun w' => Two g q c (((y1, y2), y3), y4) (((x1, x2), x3), x4) w') (fun z => Two.later HTW.out z) (by kernel_rfl) (by kernel_rfl) (fun HS => ?_)
          simp only [Two] at HS
          repeat (go_big_quiet_step (with_reducible exact Later.calls _ (cb.out _)))
          refine wpQuiet_nil ?_
          rintro w6 ⟨⟨_, hb6⟩, rfl⟩
          have HB6 := hid (held_next HSS.out.b hb6)
          clear hb6 HS cb HTW
          go_wp2_with fail
          go_roundw
        case rel =>
          have h1 := HCC.out
          have h2 := HSS.out
          exact ⟨c + 1, r, by go_num, rfl, by omega, by have := h2.sa; omega, h2.rm, h2.rd, by have := h2.lo; omega, .inr (.inr ⟨_, _, by rw [show c + 1 - a - 1 = c - a by have := h2.sa; omega]; exact HX1.out, by rw [show mid - (c + 1) = mid - 1 - c by omega]; exact HY1.out, fun k => of_decide_eq_false HD.out (HZL.out.2 k)⟩), h2.h2, HB6.out⟩
        case measure => have h1 := HCC.out; simp [intOf]; omega
        case rel =>
          have h1 := HCC.out
          have h2 := HSS.out
          exact ⟨s, c, rfl, by go_num, h1.1, h2.sa, by have := h2.rm; omega, by have := h2.rd; omega, h2.lo, h2.h1, .inr (.inr ⟨_, _, HX1.out, by rw [show mid - c - 1 = mid - 1 - c by omega]; exact HY1.out, HZL.out.1 (of_decide_eq_true HD.out)⟩), HB6.out⟩
        case measure => have h1 := HCC.out; simp [intOf]; omega
      · have hsr : s = r := by omega
        subst hsr
        obtain ⟨i, hi⟩ : ∃ i, a + i = s := ⟨s - a, by omega⟩
        obtain ⟨j, hj⟩ : ∃ j, s + j = mid := ⟨mid - s, by omega⟩
        obtain ⟨en, hen⟩ : ∃ en, m + j = en := ⟨_, rfl⟩
        have hil : i ≤ l := by omega
        have hjt : j ≤ t := by omega
        have hX0 := sym_search HS.out HT.out HX.out (i := i) (j := j) (by rw [HL.out]; exact hil) (by rw [HTL.out]; exact hjt)
          (by
            rcases hY.h1 with h | h | ⟨x, y, h1, h2, h3⟩
            · exact .inl (by omega)
            · exact .inr (.inl (by rw [HTL.out]; omega))
            · exact .inr (.inr ⟨x, y, by rw [show i - 1 = s - a - 1 by omega]; exact h1, by rw [show j = mid - s by omega]; exact h2, h3⟩))
          (by
            rcases hY.h2 with h | h | ⟨x, y, h1, h2, h3⟩
            · exact .inl (by rw [HL.out]; omega)
            · exact .inr (.inl (by omega))
            · exact .inr (.inr ⟨x, y, by rw [show i = s - a by omega]; exact h1, by rw [show j - 1 = mid - s - 1 by omega]; exact h2, h3⟩))
        have hAl := HA.out
        have l1 : (S.take i).length = i := by rw [List.length_take, HL.out]; omega
        have l2 : (S.drop i).length = l - i := by rw [List.length_drop, HL.out]
        have l3 : (T.take j).length = j := by rw [List.length_take, HTL.out]; omega
        have l4 : (T.drop j).length = t - j := by rw [List.length_drop, HTL.out]
        obtain ⟨sS1, sS2, _⟩ := pw_split HS.out i
        obtain ⟨sT1, sT2, _⟩ := pw_split HT.out j
        obtain ⟨x1, x2⟩ := HX.out.part i j
        have hR0 : RowT wr g (A ++ S.take i ++ S.drop i ++ T.take j ++ T.drop j ++ B) Z := by
          have h := HH.out.below hY.b
          have e : A ++ S.take i ++ S.drop i ++ T.take j ++ T.drop j ++ B = A ++ (S.take i ++ S.drop i) ++ (T.take j ++ T.drop j) ++ B := by simp
          rw [e, List.take_append_drop, List.take_append_drop]; exact h
        have hC0 : Chg (· = g) w wr := Chg.of_below hY.b _
        have HROT := hid (fun (h1 : s < m) (h2 : m < en) => HRT.out wr s m en (A ++ S.take i) (S.drop i) (T.take j) (T.drop j ++ B) (by have h := hR0; simp only [List.append_assoc] at h ⊢; exact h) (by rw [List.length_append, List.length_append, l1, l2, l3, l4]; omega) (by rw [List.length_append, l1]; omega) (by rw [List.length_append, l1, l2]; omega) (by rw [List.length_append, l1, l2, l3]; omega) (by omega) (by omega))
        have HP := hid (fun (w5 : World) (h : Sy5 g Z w A (S.take i) (T.take j) (S.drop i) (T.drop j) B w5) (h1 : a < s) (h2 : s < mid) => HIH.out w5 g cap n a s mid A (S.take i) (T.take j) (S.drop i ++ T.drop j ++ B) Z (by have := h.1; simpa using this) (by simp only [List.length_append]; rw [l1, l2, l3, l4]; omega) hAl (by omega) (by omega) (by omega) (by omega) sS1 sT1 x1 (by omega) hc hcm)
        have HQ := hid (show ∀ (w6 : World), Sy6 g Z w A (S.take i) (T.take j) (S.drop i) (T.drop j) B w6 → mid < en → en < b → Calls Try.prog 69 #[.slice (some ⟨g, 0, none⟩) n cap, .int .i64 (mid : Int), .int .i64 (en : Int), .int .i64 (b : Int), .func (.func 40) #[] #[]] w6 (fun e w' => e = .returned (.tuple #[]) ∧ Sy7 g Z w A (S.take i) (T.take j) (S.drop i) (T.drop j) B w') from fun w6 h h1 h2 => by
          obtain ⟨U1, u1, u2, u3, u4⟩ := h
          have lu : U1.length = i + j := by rw [u1.length_eq, List.length_append, l1, l3]
          refine (HIH.out w6 g cap n mid en b (A ++ U1) (S.drop i) (T.drop j) B Z u3 (by simp only [List.length_append]; rw [lu, l2, l4]; omega) (by rw [List.length_append, lu]; omega) (by omega) (by omega) (by omega) (by omega) sS2 sT2 x2 (by omega) hc hcm).mono ?_
          rintro e w' ⟨he, U2, v1, v2, v3, v4⟩
          exact ⟨he, U1, U2, u1, u2, v1, v2, v3, u4.trans' v4⟩)
        have HFIN := hid (show ∀ w' : World, Sy7 g Z w A (S.take i) (T.take j) (S.drop i) (T.drop j) B w' → SymPost g Z w A S T B (.returned (.tuple #[])) w' from fun w' h => by
          obtain ⟨U1, U2, u1, u2, v1, v2, v3, v4⟩ := h
          obtain ⟨U, e, p, q⟩ := sym_halves (A := A) (B := B) u1 v1 u2 v2 HS.out HT.out hX0.1 hX0.2
          exact ⟨rfl, U, p, q, by rw [← e]; exact v3, v4⟩)
        have HN1 := hid (show i = 0 → S.take i = [] from fun h => by rw [h]; rfl)
        have HN2 := hid (show j = 0 → T.take j = [] from fun h => by rw [h]; rfl)
        have HN3 := hid (show i = l → S.drop i = [] from fun h => by rw [h, ← HL.out]; exact List.drop_length)
        have HN4 := hid (show j = t → T.drop j = [] from fun h => by rw [h, ← HTL.out]; exact List.drop_length)
        have HR0 := hid hR0
        have HC0 := hid hC0
        have HSO := hid (And.intro sS1 (And.intro sS2 (And.intro sT1 sT2)))
        have HIJ := hid (show a + i = s ∧ s + j = mid ∧ m + j = en ∧ i ≤ l ∧ j ≤ t from ⟨hi, hj, hen, hil, hjt⟩)
        have g1 : (nn : Int) - (s : Int) = (en : Int) := by omega
        have g2 : (en : Int) ≤ n := by omega
        have hRR : ((s : Int) < (m : Int) ∧ (m : Int) < (en : Int)) ∨ ¬ ((s : Int) < (m : Int)) ∨ ((s : Int) < (m : Int) ∧ ¬ ((m : Int) < (en : Int))) := by omega
        have hPP : ((a : Int) < (s : Int) ∧ (s : Int) < (mid : Int)) ∨ ¬ ((a : Int) < (s : Int)) ∨ ((a : Int) < (s : Int) ∧ ¬ ((s : Int) < (mid : Int))) := by omega
        have hQQ : ((mid : Int) < (en : Int) ∧ (en : Int) < (b : Int)) ∨ ¬ ((mid : Int) < (en : Int)) ∨ ((mid : Int) < (en : Int) ∧ ¬ ((en : Int) < (b : Int))) := by omega
        clear hY HSS hi hj hen hil hjt hX0 l1 l2 l3 l4 sS1 sS2 sT1 sT2 x1 x2 hR0 hC0 hAl q1 q2 q3 q4 q5 z1 z2 z3 z4 z5 z6 z7 z8 z9 hlt
        rcases hRR with ⟨r1, r2⟩ | r1 | ⟨r1, r2⟩
        · go_wp2_with fail
          refine (HROT.out (by omega) (by omega)).mono ?_
          rintro _ w5 ⟨rfl, hR5, hC5⟩
          have HR5 := hid (show Sy5 g Z w A (S.take i) (T.take j) (S.drop i) (T.drop j) B w5 from ⟨by simpa using hR5, HC0.out.trans' hC5⟩)
          clear hR5 hC5 HROT
          rcases hPP with ⟨p1, p2⟩ | p1 | ⟨p1, p2⟩
          · go_wp2_with fail
            refine (HP.out _ HR5.out (by omega) (by omega)).mono ?_
            rintro _ w6 ⟨rfl, U1, u1, u2, u3, u4⟩
            have HR6 := hid (show Sy6 g Z w A (S.take i) (T.take j) (S.drop i) (T.drop j) B w6 from ⟨U1, u1, u2, by simpa using u3, HR5.out.2.trans' u4⟩)
            clear u1 u2 u3 u4
            rcases hQQ with ⟨t1, t2⟩ | t1 | ⟨t1, t2⟩
            · go_wp2_with fail
              all_goals
                refine (HQ.out _ HR6.out (by omega) (by omega)).mono ?_
                rintro _ w7 ⟨rfl, h7⟩
                have H7 := hid h7
                clear h7
                go_wp2_with fail
                go_returns
                exact HFIN.out _ H7.out
            · go_wp2_with fail
              all_goals
                go_returns
                exact HFIN.out _ (HR6.out.skip (.inl (HN3.out (by have := HIJ.out; have := HNUM.out; omega))) HSO.out.2.1 HSO.out.2.2.2)
            · go_wp2_with fail
              all_goals
                go_returns
                exact HFIN.out _ (HR6.out.skip (.inr (HN4.out (by have := HIJ.out; have := HNUM.out; omega))) HSO.out.2.1 HSO.out.2.2.2)
          · have HR6 := hid (HR5.out.skip (.inl (HN1.out (by have := HIJ.out; omega))) HSO.out.1 HSO.out.2.2.1)
            rcases hQQ with ⟨t1, t2⟩ | t1 | ⟨t1, t2⟩
            · go_wp2_with fail
              all_goals
                refine (HQ.out _ HR6.out (by omega) (by omega)).mono ?_
                rintro _ w7 ⟨rfl, h7⟩
                have H7 := hid h7
                clear h7
                go_wp2_with fail
                go_returns
                exact HFIN.out _ H7.out
            · go_wp2_with fail
              all_goals
                go_returns
                exact HFIN.out _ (HR6.out.skip (.inl (HN3.out (by have := HIJ.out; have := HNUM.out; omega))) HSO.out.2.1 HSO.out.2.2.2)
            · go_wp2_with fail
              all_goals
                go_returns
                exact HFIN.out _ (HR6.out.skip (.inr (HN4.out (by have := HIJ.out; have := HNUM.out; omega))) HSO.out.2.1 HSO.out.2.2.2)
          · have HR6 := hid (HR5.out.skip (.inr (HN2.out (by have := HIJ.out; omega))) HSO.out.1 HSO.out.2.2.1)
            rcases hQQ with ⟨t1, t2⟩ | t1 | ⟨t1, t2⟩
            · go_wp2_with fail
              all_goals
                refine (HQ.out _ HR6.out (by omega) (by omega)).mono ?_
                rintro _ w7 ⟨rfl, h7⟩
                have H7 := hid h7
                clear h7
                go_wp2_with fail
                go_returns
                exact HFIN.out _ H7.out
            · go_wp2_with fail
              all_goals
                go_returns
                exact HFIN.out _ (HR6.out.skip (.inl (HN3.out (by have := HIJ.out; have := HNUM.out; omega))) HSO.out.2.1 HSO.out.2.2.2)
            · go_wp2_with fail
              all_goals
                go_returns
                exact HFIN.out _ (HR6.out.skip (.inr (HN4.out (by have := HIJ.out; have := HNUM.out; omega))) HSO.out.2.1 HSO.out.2.2.2)
        · have HR5 := hid (show Sy5 g Z w A (S.take i) (T.take j) (S.drop i) (T.drop j) B wr from ⟨by
            have h := HR0.out
            rw [HN3.out (by have := HIJ.out; have := HNUM.out; omega)] at h ⊢
            simpa using h, HC0.out⟩)
          clear HROT
          rcases hPP with ⟨p1, p2⟩ | p1 | ⟨p1, p2⟩
          · go_wp2_with fail
            refine (HP.out _ HR5.out (by omega) (by omega)).mono ?_
            rintro _ w6 ⟨rfl, U1, u1, u2, u3, u4⟩
            have HR6 := hid (show Sy6 g Z w A (S.take i) (T.take j) (S.drop i) (T.drop j) B w6 from ⟨U1, u1, u2, by simpa using u3, HR5.out.2.trans' u4⟩)
            clear u1 u2 u3 u4
            rcases hQQ with ⟨t1, t2⟩ | t1 | ⟨t1, t2⟩
            · go_wp2_with fail
              all_goals
                refine (HQ.out _ HR6.out (by omega) (by omega)).mono ?_
                rintro _ w7 ⟨rfl, h7⟩
                have H7 := hid h7
                clear h7
                go_wp2_with fail
                go_returns
                exact HFIN.out _ H7.out
            · go_wp2_with fail
              all_goals
                go_returns
                exact HFIN.out _ (HR6.out.skip (.inl (HN3.out (by have := HIJ.out; have := HNUM.out; omega))) HSO.out.2.1 HSO.out.2.2.2)
            · go_wp2_with fail
              all_goals
                go_returns
                exact HFIN.out _ (HR6.out.skip (.inr (HN4.out (by have := HIJ.out; have := HNUM.out; omega))) HSO.out.2.1 HSO.out.2.2.2)
          · have HR6 := hid (HR5.out.skip (.inl (HN1.out (by have := HIJ.out; omega))) HSO.out.1 HSO.out.2.2.1)
            rcases hQQ with ⟨t1, t2⟩ | t1 | ⟨t1, t2⟩
            · go_wp2_with fail
              all_goals
                refine (HQ.out _ HR6.out (by omega) (by omega)).mono ?_
                rintro _ w7 ⟨rfl, h7⟩
                have H7 := hid h7
                clear h7
                go_wp2_with fail
                go_returns
                exact HFIN.out _ H7.out
            · go_wp2_with fail
              all_goals
                go_returns
                exact HFIN.out _ (HR6.out.skip (.inl (HN3.out (by have := HIJ.out; have := HNUM.out; omega))) HSO.out.2.1 HSO.out.2.2.2)
            · go_wp2_with fail
              all_goals
                go_returns
                exact HFIN.out _ (HR6.out.skip (.inr (HN4.out (by have := HIJ.out; have := HNUM.out; omega))) HSO.out.2.1 HSO.out.2.2.2)
          · have HR6 := hid (HR5.out.skip (.inr (HN2.out (by have := HIJ.out; omega))) HSO.out.1 HSO.out.2.2.1)
            rcases hQQ with ⟨t1, t2⟩ | t1 | ⟨t1, t2⟩
            · go_wp2_with fail
              all_goals
                refine (HQ.out _ HR6.out (by omega) (by omega)).mono ?_
                rintro _ w7 ⟨rfl, h7⟩
                have H7 := hid h7
                clear h7
                go_wp2_with fail
                go_returns
                exact HFIN.out _ H7.out
            · go_wp2_with fail
              all_goals
                go_returns
                exact HFIN.out _ (HR6.out.skip (.inl (HN3.out (by have := HIJ.out; have := HNUM.out; omega))) HSO.out.2.1 HSO.out.2.2.2)
            · go_wp2_with fail
              all_goals
                go_returns
                exact HFIN.out _ (HR6.out.skip (.inr (HN4.out (by have := HIJ.out; have := HNUM.out; omega))) HSO.out.2.1 HSO.out.2.2.2)
        · have HR5 := hid (show Sy5 g Z w A (S.take i) (T.take j) (S.drop i) (T.drop j) B wr from ⟨by
            have h := HR0.out
            rw [HN2.out (by have := HIJ.out; omega)] at h ⊢
            simpa using h, HC0.out⟩)
          clear HROT
          rcases hPP with ⟨p1, p2⟩ | p1 | ⟨p1, p2⟩
          · go_wp2_with fail
            refine (HP.out _ HR5.out (by omega) (by omega)).mono ?_
            rintro _ w6 ⟨rfl, U1, u1, u2, u3, u4⟩
            have HR6 := hid (show Sy6 g Z w A (S.take i) (T.take j) (S.drop i) (T.drop j) B w6 from ⟨U1, u1, u2, by simpa using u3, HR5.out.2.trans' u4⟩)
            clear u1 u2 u3 u4
            rcases hQQ with ⟨t1, t2⟩ | t1 | ⟨t1, t2⟩
            · go_wp2_with fail
              all_goals
                refine (HQ.out _ HR6.out (by omega) (by omega)).mono ?_
                rintro _ w7 ⟨rfl, h7⟩
                have H7 := hid h7
                clear h7
                go_wp2_with fail
                go_returns
                exact HFIN.out _ H7.out
            · go_wp2_with fail
              all_goals
                go_returns
                exact HFIN.out _ (HR6.out.skip (.inl (HN3.out (by have := HIJ.out; have := HNUM.out; omega))) HSO.out.2.1 HSO.out.2.2.2)
            · go_wp2_with fail
              all_goals
                go_returns
                exact HFIN.out _ (HR6.out.skip (.inr (HN4.out (by have := HIJ.out; have := HNUM.out; omega))) HSO.out.2.1 HSO.out.2.2.2)
          · have HR6 := hid (HR5.out.skip (.inl (HN1.out (by have := HIJ.out; omega))) HSO.out.1 HSO.out.2.2.1)
            rcases hQQ with ⟨t1, t2⟩ | t1 | ⟨t1, t2⟩
            · go_wp2_with fail
              all_goals
                refine (HQ.out _ HR6.out (by omega) (by omega)).mono ?_
                rintro _ w7 ⟨rfl, h7⟩
                have H7 := hid h7
                clear h7
                go_wp2_with fail
                go_returns
                exact HFIN.out _ H7.out
            · go_wp2_with fail
              all_goals
                go_returns
                exact HFIN.out _ (HR6.out.skip (.inl (HN3.out (by have := HIJ.out; have := HNUM.out; omega))) HSO.out.2.1 HSO.out.2.2.2)
            · go_wp2_with fail
              all_goals
                go_returns
                exact HFIN.out _ (HR6.out.skip (.inr (HN4.out (by have := HIJ.out; have := HNUM.out; omega))) HSO.out.2.1 HSO.out.2.2.2)
          · have HR6 := hid (HR5.out.skip (.inr (HN2.out (by have := HIJ.out; omega))) HSO.out.1 HSO.out.2.2.1)
            rcases hQQ with ⟨t1, t2⟩ | t1 | ⟨t1, t2⟩
            · go_wp2_with fail
              all_goals
                refine (HQ.out _ HR6.out (by omega) (by omega)).mono ?_
                rintro _ w7 ⟨rfl, h7⟩
                have H7 := hid h7
                clear h7
                go_wp2_with fail
                go_returns
                exact HFIN.out _ H7.out
            · go_wp2_with fail
              all_goals
                go_returns
                exact HFIN.out _ (HR6.out.skip (.inl (HN3.out (by have := HIJ.out; have := HNUM.out; omega))) HSO.out.2.1 HSO.out.2.2.2)
            · go_wp2_with fail
              all_goals
                go_returns
                exact HFIN.out _ (HR6.out.skip (.inr (HN4.out (by have := HIJ.out; have := HNUM.out; omega))) HSO.out.2.1 HSO.out.2.2.2)
theorem sym_at : ∀ d, SymAt d
  | 0 => fun w g cap n a m b A S T B Z _ _ _ _ _ h1 h2 _ _ _ hd _ _ => by omega
  | d + 1 => fun w g cap n a m b A S T B Z H hn ha hm hb h1 h2 hS hT hX hd hc hcm => by
    by_cases e1 : S.length = 1
    · obtain ⟨x, rfl⟩ := List.length_eq_one_iff.1 e1
      exact st_sym1 H (by simpa using hn) ha (by simpa using hm) hb hT hX hc hcm
    · by_cases e2 : T.length = 1
      · obtain ⟨y, rfl⟩ := List.length_eq_one_iff.1 e2
        exact st_sym2 H (by simpa using hn) ha hm (by simpa using hb) e1 hS hX hc hcm
      · exact sym_gen (sym_at d) H hn ha hm hb (by omega) (by omega) hS hT hX hd hc hcm

end Go.Proofs.Ytcchjljdhjkmeaa
