/-
  The walk of the law NibblePlays: for every number and every row of calls it returns true and leaves memory alone. No condition but that the row is read from memory.
-/
import Derived.Test.YtgmknnmcanbfeaaNibAlive
import Derived.Test.YtgmknnmcanbfeaaOpen
import Derived.Deep.DeepCutAuto
namespace Go.Proofs.Ytgmknnmcanbfeaa
open Go.RowKit
set_option linter.unusedVariables false
set_option linter.unusedSimpArgs false
set_option maxRecDepth 100000

namespace Plays
def actEn (x : Bool × Int) : List Value := [.bool x.1] ++ [.int .i64 x.2]
def ints (c : List Nat) : List Value := c.map fun (x : Nat) => .int .i64 (x : Int)
theorem ints_get {c : List Nat} {j : Nat} (h : j < c.length) : (ints c)[j]? = some (.int .i64 ((c.getD j 0 : Nat) : Int)) := by simp [ints, h]
theorem ints_set (c : List Nat) (j v : Nat) : (ints c).set j (.int .i64 (v : Int)) = ints (c.set j v) := by simp [ints, List.map_set]

theorem out (n : Int) (A : Option Addr) (len cap : Nat) (hm : len ≤ 9223372036854775807) (h : 200 < n ∨ 400 < len) (W : World) :
    Calls Try.prog 7 #[.int .i64 n, .slice A len cap] W fun e W' => e = .returned (.bool true) ∧ Below W.heap.size W W' := by
  by_cases h1 : 200 < n
  · go_enter Try.func7, Try.ntmps7
    go_wp2_with fail
    refine (nib_alive _).mono ?_
    rintro e w1 ⟨rfl, hb⟩
    go_wp2_with fail
    all_goals (go_ret; exact ⟨rfl, hb⟩)
  · have h2 : 400 < len := by omega
    go_enter Try.func7, Try.ntmps7
    go_wp2_with fail
    refine (nib_alive _).mono ?_
    rintro e w1 ⟨rfl, hb⟩
    go_wp2_with fail
    all_goals (go_ret; exact ⟨rfl, hb⟩)

/-- The state in the rounds. -/
structure St (W : World) (gb qb go qo gc : Nat) (wr : World) (c oc cc : List Nat) : Prop where
  b : NibAt wr gb qb c
  o : NibAt wr go qo oc
  c : Blk wr gc 3 (ints cc)
  below : Below W.heap.size W wr
structure Apart (B gb qb go qo gc : Nat) : Prop where
  l1 : B ≤ gb
  l2 : B ≤ qb
  l3 : B ≤ go
  l4 : B ≤ qo
  l5 : B ≤ gc
  n1 : gb ≠ go ∧ gb ≠ qo ∧ qb ≠ go ∧ qb ≠ qo ∧ gb ≠ gc ∧ qb ≠ gc ∧ go ≠ gc ∧ qo ≠ gc ∧ gb ≠ qb ∧ go ≠ qo
theorem St.turnO {W w w' : World} {gb qb go qo gc : Nat} {c oc cc oc' : List Nat} (h : St W gb qb go qo gc w c oc cc) (ap : Apart W.heap.size gb qb go qo gc) (k : NibAt w' go qo oc') (hc : Chg (· = qo) w w') : St W gb qb go qo gc w' c oc' cc :=
  ⟨h.b.chg hc (by have := ap.n1; omega) (by have := ap.n1; omega), k, h.c.chg hc (by have := ap.n1; omega), h.below.trans (hc.below h.below.size (by have := ap.l4; omega))⟩
theorem St.turnB {W w w' : World} {gb qb go qo gc : Nat} {c oc cc c' : List Nat} (h : St W gb qb go qo gc w c oc cc) (ap : Apart W.heap.size gb qb go qo gc) (k : NibAt w' gb qb c') (hc : Chg (· = qb) w w') : St W gb qb go qo gc w' c' oc cc :=
  ⟨k, h.o.chg hc (by have := ap.n1; omega) (by have := ap.n1; omega), h.c.chg hc (by have := ap.n1; omega), h.below.trans (hc.below h.below.size (by have := ap.l2; omega))⟩
theorem St.turnC {W w : World} {gb qb go qo gc : Nat} {c oc cc : List Nat} (h : St W gb qb go qo gc w c oc cc) (ap : Apart W.heap.size gb qb go qo gc) (j v : Nat) : St W gb qb go qo gc (w.setCell ⟨gc, j, none⟩ (.int .i64 (v : Int))) c oc (cc.set j v) :=
  have hc := Chg.store w gc j (.int .i64 (v : Int))
  ⟨h.b.chg hc (by have := ap.n1; omega) (by have := ap.n1; omega), h.o.chg hc (by have := ap.n1; omega) (by have := ap.n1; omega), by have := h.c.set j (.int .i64 (v : Int)); rwa [ints_set] at this, h.below.trans (hc.below h.below.size (by have := ap.l5; omega))⟩
theorem St.drewN {W w : World} {gb qb go qo gc : Nat} {c oc cc : List Nat} (h : St W gb qb go qo gc w c oc cc) (n : Nat) : St W gb qb go qo gc (w.drewN n) c oc cc :=
  ⟨h.b.drewN n, h.o.drewN n, h.c.drewN n, ⟨h.below.os, h.below.tape, h.below.output, h.below.size, h.below.block⟩⟩
def Rel2 (W : World) (gb qb go qo gc : Nat) (c oc : List Nat) (f i : Value) (wr : World) : Prop := ∃ (k : Nat), k ≤ c.length ∧ i = .int .i64 k ∧ f = .int .i64 (fulls (c.take k)) ∧ St W gb qb go qo gc wr c oc c
def Rel (W : World) (gb qb go qo gc N len : Nat) (i : Value) (wr : World) : Prop := ∃ (k : Nat) (c oc : List Nat), k ≤ len ∧ i = .int .i64 k ∧ c.length = N ∧ St W gb qb go qo gc wr c oc c

theorem int_row_info : (Try.prog.info? 3).map (fun i => (i.zero, i.size, i.bytes)) = some (some (.int .i64 0), 1, 8) := by kernel_rfl

set_option maxHeartbeats 2000000 in
theorem inn (n : Int) (hn : n ≤ 200) (A : Option Addr) (cap : Nat) (l : List (Bool × Int)) (hl : l.length ≤ 400) (W : World) (hr : RowAt actEn 2 W A l) :
    Calls Try.prog 7 #[.int .i64 n, .slice A l.length cap] W fun e W' => e = .returned (.bool true) ∧ Below W.heap.size W W' := by
  obtain ⟨N, hN⟩ : ∃ N : Nat, N = capN n := ⟨_, rfl⟩
  have hN2 : N ≤ 200 ∧ (n < 0 ∧ N = 0 ∨ n = N) := by unfold capN at hN; omega
  have HN := hid hN
  clear hN
  go_enter Try.func7, Try.ntmps7
  go_wp2_with fail
  refine (nib_alive _).mono ?_
  rintro e w1 ⟨rfl, hb⟩
  go_wp2_with fail
  refine (nib_make _ _).mono ?_
  rintro e w2 ⟨gb, qb, rfl, hgb, hqb, hne, HB, hb2⟩
  rw [← HN.out] at HB
  go_wp2_with fail
  refine (nib_make _ _).mono ?_
  rintro e w3 ⟨go, qo, rfl, hgo, hqo, hne2, HO, hb3⟩
  have HB3 := HB.below hb3
  have hlt := HB.lt
  have hbw : Below W.heap.size W w3 := (hb.trans (hb2.mono hb.size)).trans (hb3.mono (Nat.le_trans hb.size hb2.size))
  have hs1 := hb.size
  have hs2 := hb2.size
  have hs3 := hb3.size
  clear HB hb hb2 hb3
  go_upto_if 37 with fail
  go_cut [0] (fun s wc => s = .int .i64 N ∧ wc = w3)
  case first =>
    rcases hN2 with ⟨h1, ⟨h2, rfl⟩ | rfl⟩
    · go_wp2_with fail
      go_meet
      exact ⟨rfl, rfl⟩
    · go_wp2_with fail
      go_meet
      exact ⟨rfl, rfl⟩
  case rest =>
    obtain ⟨rfl, rfl⟩ := hcut
    have hN200 : N ≤ 200 := hN2.1
    clear hN2
    have hmk := fun w => make_at (P := Try.prog) 41 3 (.int .i64 0) 8 Try.underlying41 int_row_info rfl .i64 .i64 (N : Int) N rfl (by omega) (by omega) w
    have hap : Apart W.heap.size gb qb go qo wc.heap.size := ⟨by omega, by omega, by omega, by omega, by omega, by have := HB3.lt; have := HO.lt; omega⟩
    have hST : St W gb qb go qo wc.heap.size (wc.alloc (.cells (madeCells #[.int .i64 0] N) 3)) (List.replicate N 0) (List.replicate (capN 40) 0) (List.replicate N 0) :=
      ⟨HB3.chg ((Chg.refl (fun _ => False) wc).alloc _) id id, HO.chg ((Chg.refl (fun _ => False) wc).alloc _) id id, by simpa [ints] using Blk.made wc (.int .i64 0) N 3, hbw.alloc (by omega) _⟩
    clear HB3 HO hbw hs1 hs2 hs3 hgb hqb hgo hqo hlt hne hne2
    go_wp2_with fail
    go_loopw [9] (fun i wr => Rel W gb qb go qo wc.heap.size N l.length i wr) (fun i _ => l.length - (intOf i).toNat)
    case atStart => exact ⟨0, _, _, Nat.zero_le _, rfl, by simp, hST⟩
    case round =>
      clear hST hmk
      obtain ⟨k, c, oc, hk, rfl, hc, hst⟩ := hrel
      generalize wc.heap.size = gc at *
      by_cases hlt : k < l.length
      · obtain ⟨⟨d, i⟩, hx⟩ : ∃ x, l[k]? = some x := ⟨_, List.getElem?_eq_getElem hlt⟩
        obtain ⟨b, o, rfl, hcell⟩ := hr.cell (fun _ => rfl) hx
        have s0 : wr.cell? ⟨b, o + k * 2, none⟩ = some (.bool d) := hcell _ hst.below 0 _ rfl
        have s1 : wr.cell? ⟨b, o + k * 2 + 1, none⟩ = some (.int .i64 i) := hcell _ hst.below 1 _ rfl
        have HC := hid hcell
        clear hcell
        go_wp2_with fail
        refine (nib_up hst.o _).mono ?_
        rintro e w4 ⟨rfl, HO, hcO⟩
        obtain ⟨oc4, hst4⟩ : ∃ oc4, St W gb qb go qo gc w4 c oc4 c := ⟨_, hst.turnO hap HO hcO⟩
        clear HO hcO hst s0 s1
        have s0 : w4.cell? ⟨b, o + k * 2, none⟩ = some (.bool d) := HC.out _ hst4.below 0 _ rfl
        by_cases hin : 0 ≤ i ∧ i < N
        · obtain ⟨hi0, hi1⟩ := hin
          obtain ⟨j, rfl⟩ := Int.eq_ofNat_of_zero_le hi0
          have hjN : j < N := by omega
          have sx := hst4.c.cellv (i := j) (ints_get (by omega))
          generalize hX : c.getD j 0 = X at sx
          have HX := hid hX
          have hjc := hid hc
          clear hX hi0
          cases d
          · by_cases hx : X < 15
            · skip
              have hf := hst4.c.frozen j
              have hst5 : St W gb qb go qo gc (w4.setCell ⟨gc, j, none⟩ (.int .i64 ((X : Int) + 1))) c oc4 (c.set j (X + 1)) := by
                have := hst4.turnC hap j (X + 1)
                rwa [show ((X + 1 : Nat) : Int) = (X : Int) + 1 from by omega] at this
              have s0' : (w4.setCell ⟨gc, j, none⟩ (.int .i64 ((X : Int) + 1))).cell? ⟨b, o + k * 2, none⟩ = some (.bool false) := HC.out _ hst5.below 0 _ rfl
              go_wp2_with fail
              refine (nib_up hst5.b _).mono ?_
              rintro e w5 ⟨rfl, HB, hcB⟩
              have e1 : upB c (j : Int) = true := by unfold upB; rw [at0_nat, HX.out]; exact decide_eq_true (by omega)
              have e2 : upC c (j : Int) = c.set j (X + 1) := by unfold upC; rw [at0_nat, HX.out, if_pos (by omega)]; rfl
              rw [e1]
              rw [e2] at HB
              have hst6 := hst5.turnB hap HB hcB
              clear hst4 hst5 HB hcB s0 s0' sx hf e1 e2
              have s0 : w5.cell? ⟨b, o + k * 2, none⟩ = some (.bool false) := HC.out _ hst6.below 0 _ rfl
              go_wp2_with fail
              go_roundw
              case rel => exact ⟨k + 1, _, _, by omega, by go_num, by simpa using hc, hst6⟩
              case measure => simp [intOf]; omega
            · skip
              go_wp2_with fail
              refine (nib_up hst4.b _).mono ?_
              rintro e w5 ⟨rfl, HB, hcB⟩
              have e1 : upB c (j : Int) = false := by unfold upB; rw [at0_nat, HX.out]; exact decide_eq_false (by omega)
              have e2 : upC c (j : Int) = c := by unfold upC; rw [at0_nat, HX.out, if_neg (by omega)]
              rw [e1]
              rw [e2] at HB
              have hst5 := hst4.turnB hap HB hcB
              clear hst4 HB hcB s0 sx e1 e2
              have s0 : w5.cell? ⟨b, o + k * 2, none⟩ = some (.bool false) := HC.out _ hst5.below 0 _ rfl
              go_wp2_with fail
              go_roundw
              case rel => exact ⟨k + 1, c, _, by omega, by go_num, hc, hst5⟩
              case measure => simp [intOf]; omega
          · by_cases hx : X < 15
            · by_cases hx0 : 0 < X
              · skip
                have hf := hst4.c.frozen j
                have hst5 : St W gb qb go qo gc (w4.setCell ⟨gc, j, none⟩ (.int .i64 ((X : Int) - 1))) c oc4 (c.set j (X - 1)) := by
                  have := hst4.turnC hap j (X - 1)
                  rwa [show ((X - 1 : Nat) : Int) = (X : Int) - 1 from by omega] at this
                have s0' : (w4.setCell ⟨gc, j, none⟩ (.int .i64 ((X : Int) - 1))).cell? ⟨b, o + k * 2, none⟩ = some (.bool true) := HC.out _ hst5.below 0 _ rfl
                go_wp2_with fail
                refine (nib_down hst5.b _).mono ?_
                rintro e w5 ⟨rfl, HB, hcB⟩
                have e1 : downB c (j : Int) = true := by unfold downB; rw [at0_nat, HX.out]; exact decide_eq_true (by omega)
                have e2 : downC c (j : Int) = c.set j (X - 1) := by unfold downC; rw [at0_nat, HX.out, if_pos (by omega)]; rfl
                rw [e1]
                rw [e2] at HB
                have hst6 := hst5.turnB hap HB hcB
                clear hst4 hst5 HB hcB s0 s0' sx hf e1 e2
                have s0 : w5.cell? ⟨b, o + k * 2, none⟩ = some (.bool true) := HC.out _ hst6.below 0 _ rfl
                go_wp2_with fail
                go_roundw
                case rel => exact ⟨k + 1, _, _, by omega, by go_num, by simpa using hc, hst6⟩
                case measure => simp [intOf]; omega
              · skip
                go_wp2_with fail
                refine (nib_down hst4.b _).mono ?_
                rintro e w5 ⟨rfl, HB, hcB⟩
                have e1 : downB c (j : Int) = false := by unfold downB; rw [at0_nat, HX.out]; exact decide_eq_false (by omega)
                have e2 : downC c (j : Int) = c := by unfold downC; rw [at0_nat, HX.out, if_neg (by omega)]
                rw [e1]
                rw [e2] at HB
                have hst5 := hst4.turnB hap HB hcB
                clear hst4 HB hcB s0 sx e1 e2
                have s0 : w5.cell? ⟨b, o + k * 2, none⟩ = some (.bool true) := HC.out _ hst5.below 0 _ rfl
                go_wp2_with fail
                go_roundw
                case rel => exact ⟨k + 1, c, _, by omega, by go_num, hc, hst5⟩
                case measure => simp [intOf]; omega
            · skip
              go_wp2_with fail
              refine (nib_down hst4.b _).mono ?_
              rintro e w5 ⟨rfl, HB, hcB⟩
              have e1 : downB c (j : Int) = false := by unfold downB; rw [at0_nat, HX.out]; exact decide_eq_false (by omega)
              have e2 : downC c (j : Int) = c := by unfold downC; rw [at0_nat, HX.out, if_neg (by omega)]
              rw [e1]
              rw [e2] at HB
              have hst5 := hst4.turnB hap HB hcB
              clear hst4 HB hcB s0 sx e1 e2
              have s0 : w5.cell? ⟨b, o + k * 2, none⟩ = some (.bool true) := HC.out _ hst5.below 0 _ rfl
              go_wp2_with fail
              go_roundw
              case rel => exact ⟨k + 1, c, _, by omega, by go_num, hc, hst5⟩
              case measure => simp [intOf]; omega
        · have hd : upB c i = false ∧ upC c i = c ∧ downB c i = false ∧ downC c i = c := by
            rw [← hc] at hin
            refine ⟨by simp [upB]; omega, by unfold upC; rw [if_neg (by omega)], by simp [downB]; omega, by unfold downC; rw [if_neg (by omega)]⟩
          obtain ⟨hu1, hu2, hd1, hd2⟩ := hd
          have hin' : i < 0 ∨ ¬ i < N ∧ ¬ i < 0 := by omega
          cases d
          · rcases hin' with h | ⟨h, h'⟩
            all_goals
              go_wp2_with fail
              refine (nib_up hst4.b _).mono ?_
              rintro e w5 ⟨rfl, HB, hcB⟩
              rw [hu1]
              rw [hu2] at HB
              have hst5 := hst4.turnB hap HB hcB
              clear hst4 HB hcB s0
              have s0 : w5.cell? ⟨b, o + k * 2, none⟩ = some (.bool false) := HC.out _ hst5.below 0 _ rfl
              go_wp2_with fail
              go_roundw
              case rel => exact ⟨k + 1, c, _, by omega, by go_num, hc, hst5⟩
              case measure => simp [intOf]; omega
          · rcases hin' with h | ⟨h, h'⟩
            all_goals
              go_wp2_with fail
              refine (nib_down hst4.b _).mono ?_
              rintro e w5 ⟨rfl, HB, hcB⟩
              rw [hd1]
              rw [hd2] at HB
              have hst5 := hst4.turnB hap HB hcB
              clear hst4 HB hcB s0
              have s0 : w5.cell? ⟨b, o + k * 2, none⟩ = some (.bool true) := HC.out _ hst5.below 0 _ rfl
              go_wp2_with fail
              go_roundw
              case rel => exact ⟨k + 1, c, _, by omega, by go_num, hc, hst5⟩
              case measure => simp [intOf]; omega
      · go_wp2_with fail
        clear hlt
        go_loopw [12, 13] (fun f i wr => Rel2 W gb qb go qo gc c oc f i wr) (fun _ i _ => N - (intOf i).toNat)
        case atStart => exact ⟨0, Nat.zero_le _, rfl, rfl, hst⟩
        case round =>
          clear hst
          obtain ⟨m, hm, rfl, rfl, hst⟩ := hrel
          by_cases hlt : m < c.length
          · have hmN : m < N := by omega
            have hs := hid (fulls_snoc c m hlt)
            have hle := fulls_le (c.take m)
            have hl2 : (c.take m).length ≤ m := List.length_take_le _ _
            have sx := hst.c.cellv (i := m) (ints_get hlt)
            have hq := fun n => nib_quiet hst.b (m : Int) ((c.getD m 0 : Nat) : Int) (by rw [at0_nat]) n
            generalize hX : c.getD m 0 = X at sx hq
            have HX := hid hX
            have hjc := hid hc
            have HQ := hid hq
            clear hX hc hq
            by_cases h15 : X = 15
            · have e15 : ((X : Int) == 15) = true := by rw [h15]; rfl
              have H15 := hid h15
              clear h15
              go_wp2_with fail
              go_quiet ((go_at_call 32; exact Calls.quiet_of_same (HQ.out _)))
              go_wp2_with fail
              go_roundw
              case rel => exact ⟨m + 1, by omega, by go_num, by rw [hs.out, HX.out, if_pos H15.out]; go_num, hst.drewN _⟩
              case measure => simp [intOf]; omega
            · have e15 : ((X : Int) == 15) = false := beq_eq_false_iff_ne.2 (by omega)
              have H15 := hid h15
              clear h15
              go_wp2_with fail
              go_quiet ((go_at_call 32; exact Calls.quiet_of_same (HQ.out _)))
              go_wp2_with fail
              go_roundw
              case rel => exact ⟨m + 1, by omega, by go_num, by rw [hs.out, HX.out, if_neg H15.out]; go_num, hst.drewN _⟩
              case measure => simp [intOf]; omega
          · have hfin : fulls (c.take m) = fulls c := by rw [List.take_of_length_le (by omega)]
            rw [hfin]
            have hjc := hid hc
            clear hfin
            have hNm : ¬ m < N := by omega
            clear hm hlt
            have hb := hid hst.below
            have g1 := nib_length' hst.b N (by rw [hjc.out])
            have g2 := nib_fulls hst.b
            have g3 := nib_at' hst.b (-1) 0 (by rw [at0_out _ _ (by omega)]; rfl)
            have g4 := nib_at' hst.b (N : Int) 0 (by rw [at0_out _ _ (by omega)]; rfl)
            have G1 := hid g1
            have G2 := hid g2
            have G3 := hid g3
            have G4 := hid g4
            clear g1 g2 g3 g4 hc
            go_wp2_with fail
            refine G1.out.mono ?_
            rintro e w5 ⟨rfl, rfl⟩
            go_wp2_with fail
            refine G2.out.mono ?_
            rintro e w5 ⟨rfl, rfl⟩
            go_wp2_with fail
            refine G3.out.mono ?_
            rintro e w5 ⟨rfl, rfl⟩
            go_wp2_with fail
            refine G4.out.mono ?_
            rintro e w5 ⟨rfl, rfl⟩
            go_wp2_with fail
            go_ret
            exact ⟨rfl, hb.out⟩
end Plays

theorem Plays.opens : Opens Try.prog 43 (Bool × Int) Plays.actEn (fun x => True ∧ (Lit.int .i64 x.2).wf = true) :=
  Opens.struct2 Try.underlying43 (Opens.bool Try.underlying4 (by kernel_rfl)) (Opens.int Try.underlying3 (by kernel_rfl)) ⟨rfl, by kernel_rfl, by kernel_rfl⟩
theorem Plays.cells : Try.prog.cellsOf 43 = 2 := by kernel_rfl

theorem nibblePlays_walk (W : World) (n : Int) (wn : (Lit.int .i64 n).wf = true) (A : Option Addr) (cap : Nat) (l : List (Bool × Int)) (hle : l.length ≤ cap) (hmax : cap ≤ maxLen) (hr : RowAt Plays.actEn (Try.prog.cellsOf 43) W A l) :
    Calls Try.prog 7 #[.int .i64 n, .slice A l.length cap] W fun e W' => e = .returned (.bool true) ∧ Below W.heap.size W W' := by
  rw [Plays.cells] at hr
  unfold maxLen at hmax
  by_cases h : 200 < n ∨ 400 < l.length
  · exact Plays.out n A l.length cap (by omega) h W
  · exact Plays.inn n (by omega) A cap l (by omega) W hr

end Go.Proofs.Ytgmknnmcanbfeaa
