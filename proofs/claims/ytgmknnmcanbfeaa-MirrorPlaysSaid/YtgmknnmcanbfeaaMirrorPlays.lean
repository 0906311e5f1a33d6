/-
  The walk of the law MirrorPlays: for every number and every row of calls it returns true and leaves memory alone. No condition but that the row is read from memory.
-/
import Derived.Test.YtgmknnmcanbfeaaMirAlive
import Derived.Test.YtgmknnmcanbfeaaLater
import Derived.Test.YtgmknnmcanbfeaaOpen
import Derived.Deep.DeepCutAuto
namespace Go.Proofs.Ytgmknnmcanbfeaa
open Go.RowKit
set_option linter.unusedVariables false
set_option linter.unusedSimpArgs false
set_option maxRecDepth 100000

namespace MPlays
def actEn (x : Int × Bool) : List Value := [.int .i64 x.1] ++ [.bool x.2]
def bools (c : List Bool) : List Value := c.map fun (x : Bool) => .bool x
theorem bools_get {c : List Bool} {j : Nat} (h : j < c.length) : (bools c)[j]? = some (.bool (c.getD j false)) := by simp [bools, h]
theorem bools_set (c : List Bool) (j : Nat) (v : Bool) : (bools c).set j (.bool v) = bools (c.set j v) := by simp [bools, List.map_set]

theorem out (n : Int) (A : Option Addr) (len cap : Nat) (hm : len ≤ 9223372036854775807) (h : 300 < n ∨ 300 < len) (W : World) :
    Calls Try.prog 13 #[.int .i64 n, .slice A len cap] W fun e W' => e = .returned (.bool true) ∧ Below W.heap.size W W' := by
  by_cases h1 : 300 < n
  · go_enter Try.func13, Try.ntmps13
    go_wp2_with fail
    refine (mir_alive _).mono ?_
    rintro e w1 ⟨rfl, hb⟩
    go_wp2_with fail
    all_goals (go_ret; exact ⟨rfl, hb⟩)
  · have h2 : 300 < len := by omega
    go_enter Try.func13, Try.ntmps13
    go_wp2_with fail
    refine (mir_alive _).mono ?_
    rintro e w1 ⟨rfl, hb⟩
    go_wp2_with fail
    all_goals (go_ret; exact ⟨rfl, hb⟩)

theorem mir_quiet {w : World} {g q : Nat} {c : List Bool} (H : MirAt w g q c) (i : Int) (x : Bool) (hx : on0 c i = x) (n : Nat) :
    Calls Try.prog 50 #[.pointer (some ⟨g, 0, none⟩), .int .i64 i] (w.drewN n) fun e w' => e = .returned (.bool x) ∧ w' = w.drewN n :=
  (mir_at (H.drewN n) i x hx).mono fun _ _ ⟨h1, h2⟩ => ⟨h1, h2.symm⟩
/-- The state in the rounds. -/
structure St (W : World) (gb qb go qo gc : Nat) (wr : World) (c oc cc : List Bool) : Prop where
  b : MirAt wr gb qb c
  o : MirAt wr go qo oc
  c : Blk wr gc 4 (bools cc)
  below : Below W.heap.size W wr
structure Apart (B gb qb go qo gc : Nat) : Prop where
  l1 : B ≤ gb
  l2 : B ≤ qb
  l3 : B ≤ go
  l4 : B ≤ qo
  l5 : B ≤ gc
  n1 : gb ≠ go ∧ gb ≠ qo ∧ qb ≠ go ∧ qb ≠ qo ∧ gb ≠ gc ∧ qb ≠ gc ∧ go ≠ gc ∧ qo ≠ gc ∧ gb ≠ qb ∧ go ≠ qo
theorem St.turnO {W w w' : World} {gb qb go qo gc : Nat} {c oc cc oc' : List Bool} (h : St W gb qb go qo gc w c oc cc) (ap : Apart W.heap.size gb qb go qo gc) (k : MirAt w' go qo oc') (hc : Chg (· = qo) w w') : St W gb qb go qo gc w' c oc' cc :=
  ⟨h.b.chg hc (by have := ap.n1; omega) (by have := ap.n1; omega), k, h.c.chg hc (by have := ap.n1; omega), h.below.trans (hc.below h.below.size (by have := ap.l4; omega))⟩
theorem St.turnB {W w w' : World} {gb qb go qo gc : Nat} {c oc cc c' : List Bool} (h : St W gb qb go qo gc w c oc cc) (ap : Apart W.heap.size gb qb go qo gc) (k : MirAt w' gb qb c') (hc : Chg (· = qb) w w') : St W gb qb go qo gc w' c' oc cc :=
  ⟨k, h.o.chg hc (by have := ap.n1; omega) (by have := ap.n1; omega), h.c.chg hc (by have := ap.n1; omega), h.below.trans (hc.below h.below.size (by have := ap.l2; omega))⟩
theorem St.turnC {W w : World} {gb qb go qo gc : Nat} {c oc cc : List Bool} (h : St W gb qb go qo gc w c oc cc) (ap : Apart W.heap.size gb qb go qo gc) (j : Nat) (v : Bool) : St W gb qb go qo gc (w.setCell ⟨gc, j, none⟩ (.bool v)) c oc (cc.set j v) :=
  have hc := Chg.store w gc j (.bool v)
  ⟨h.b.chg hc (by have := ap.n1; omega) (by have := ap.n1; omega), h.o.chg hc (by have := ap.n1; omega) (by have := ap.n1; omega), by have := h.c.set j (.bool v); rwa [bools_set] at this, h.below.trans (hc.below h.below.size (by have := ap.l5; omega))⟩
theorem St.drewN {W w : World} {gb qb go qo gc : Nat} {c oc cc : List Bool} (h : St W gb qb go qo gc w c oc cc) (n : Nat) : St W gb qb go qo gc (w.drewN n) c oc cc :=
  ⟨h.b.drewN n, h.o.drewN n, h.c.drewN n, ⟨h.below.os, h.below.tape, h.below.output, h.below.size, h.below.block⟩⟩
theorem St.drew {W w : World} {gb qb go qo gc : Nat} {c oc cc : List Bool} (h : St W gb qb go qo gc w c oc cc) : St W gb qb go qo gc w.drew c oc cc :=
  ⟨h.b.chg ((Chg.refl (fun _ => False) w).drew) id id, h.o.chg ((Chg.refl (fun _ => False) w).drew) id id, h.c.drew, ⟨h.below.os, h.below.tape, h.below.output, h.below.size, h.below.block⟩⟩
def Rel2 (W : World) (gb qb go qo gc : Nat) (c oc : List Bool) (f i : Value) (wr : World) : Prop := ∃ (k : Nat), k ≤ c.length ∧ i = .int .i64 k ∧ f = .int .i64 ((c.take k).countP id : Nat) ∧ St W gb qb go qo gc wr c oc c
def Rel (W : World) (gb qb go qo gc N len : Nat) (i : Value) (wr : World) : Prop := ∃ (k : Nat) (c oc : List Bool), k ≤ len ∧ i = .int .i64 k ∧ c.length = N ∧ St W gb qb go qo gc wr c oc c

theorem bool_row_info : (Try.prog.info? 4).map (fun i => (i.zero, i.size, i.bytes)) = some (some (.bool false), 1, 1) := by kernel_rfl

set_option maxHeartbeats 2000000 in
theorem inn (n : Int) (hn : n ≤ 300) (A : Option Addr) (cap : Nat) (l : List (Int × Bool)) (hl : l.length ≤ 300) (W : World) (hr : RowAt actEn 2 W A l) :
    Calls Try.prog 13 #[.int .i64 n, .slice A l.length cap] W fun e W' => e = .returned (.bool true) ∧ Below W.heap.size W W' := by
  obtain ⟨N, hN⟩ : ∃ N : Nat, N = mcap n := ⟨_, rfl⟩
  have hN2 : N ≤ 300 ∧ (n < 0 ∧ N = 0 ∨ n = N) := by unfold mcap at hN; omega
  have HN := hid hN
  clear hN
  go_enter Try.func13, Try.ntmps13
  go_wp2_with fail
  refine (mir_alive _).mono ?_
  rintro e w1 ⟨rfl, hb⟩
  go_wp2_with fail
  refine (mir_make _ _).mono ?_
  rintro e w2 ⟨gb, qb, rfl, hgb, hqb, hne, HB, hb2⟩
  rw [← HN.out] at HB
  go_wp2_with fail
  refine (mir_make _ _).mono ?_
  rintro e w3 ⟨go, qo, rfl, hgo, hqo, hne2, HO, hb3⟩
  have HB3 := HB.below hb3
  have hlt := HB.lt
  have hbw : Below W.heap.size W w3 := (hb.trans (hb2.mono hb.size)).trans (hb3.mono (Nat.le_trans hb.size hb2.size))
  have hs1 := hb.size
  have hs2 := hb2.size
  have hs3 := hb3.size
  clear HB hb hb2 hb3
  go_upto_if 35 with fail
  go_cut [0] (fun s wc => s = .int .i64 N ∧ wc = w3)
  case first =>
    rcases hN2 with ⟨h1, ⟨h2, rfl⟩ | rfl⟩
    · go_wp2_with fail
      go_meet
      exact ⟨rfl, rfl⟩
    · go_wp2_with fail
      go_meet
      exact ⟨rfl, rfl⟩
  case rest =>
    obtain ⟨rfl, rfl⟩ := hcut
    have hN200 : N ≤ 300 := hN2.1
    clear hN2
    have hmk := fun w => make_at (P := Try.prog) 71 4 (.bool false) 1 Try.underlying71 bool_row_info rfl .i64 .i64 (N : Int) N rfl (by omega) (by omega) w
    have hap : Apart W.heap.size gb qb go qo wc.heap.size := ⟨by omega, by omega, by omega, by omega, by omega, by have := HB3.lt; have := HO.lt; omega⟩
    have hST : St W gb qb go qo wc.heap.size (wc.alloc (.cells (madeCells #[.bool false] N) 4)) (List.replicate N false) (List.replicate (mcap 70) false) (List.replicate N false) :=
      ⟨HB3.chg ((Chg.refl (fun _ => False) wc).alloc _) id id, HO.chg ((Chg.refl (fun _ => False) wc).alloc _) id id, by simpa [bools] using Blk.made wc (.bool false) N 4, hbw.alloc (by omega) _⟩
    clear HB3 HO hbw hs1 hs2 hs3 hgb hqb hgo hqo hlt hne hne2
    go_wp2_with fail
    go_loopw [9] (fun i wr => Rel W gb qb go qo wc.heap.size N l.length i wr) (fun i _ => l.length - (intOf i).toNat)
    case atStart => exact ⟨0, _, _, Nat.zero_le _, rfl, by simp, hST⟩
    case round =>
      clear hST hmk
      obtain ⟨k, c, oc, hk, rfl, hc, hst⟩ := hrel
      generalize wc.heap.size = gc at *
      by_cases hlt : k < l.length
      · obtain ⟨⟨i, d⟩, hx⟩ : ∃ x, l[k]? = some x := ⟨_, List.getElem?_eq_getElem hlt⟩
        obtain ⟨b, o, rfl, hcell⟩ := hr.cell (fun _ => rfl) hx
        have HC := hid hcell
        clear hcell hx
        go_wp2_with fail
        refine (mir_put hst.o _ _).mono ?_
        rintro e w4 ⟨rfl, HO, hcO⟩
        obtain ⟨oc4, hst4⟩ : ∃ oc4, St W gb qb go qo gc w4 c oc4 c := ⟨_, hst.turnO hap HO hcO⟩
        clear HO hcO hst
        have s0 : w4.cell? ⟨b, o + k * 2, none⟩ = some (.int .i64 i) := HC.out _ hst4.below 0 _ rfl
        have s1 : w4.cell? ⟨b, o + k * 2 + 1, none⟩ = some (.bool d) := HC.out _ hst4.below 1 _ rfl
        go_wp2_with fail
        refine wp_region_tail 11 (by kernel_rfl) (by kernel_rfl) ?_
        simp only [List.take_succ_cons, List.take_zero, List.drop_succ_cons, List.drop_zero]
        repeat still_step
        refine wpStill_nil ?_
        have hst4 := hst4.drew
        go_wp2_with fail
        refine (mir_put hst4.b _ _).mono ?_
        rintro e w5 ⟨rfl, HB, hcB⟩
        have hst5 := hst4.turnB hap HB hcB
        clear hst4 HB hcB s0 s1
        have s0 : w5.cell? ⟨b, o + k * 2, none⟩ = some (.int .i64 i) := HC.out _ hst5.below 0 _ rfl
        have s1 : w5.cell? ⟨b, o + k * 2 + 1, none⟩ = some (.bool d) := HC.out _ hst5.below 1 _ rfl
        by_cases hin : 0 ≤ i ∧ i < N
        · obtain ⟨hi0, hi1⟩ := hin
          obtain ⟨j, rfl⟩ := Int.eq_ofNat_of_zero_le hi0
          have hjN : j < N := by omega
          rw [setC_nat] at hst5
          have sx := hst5.c.cellv (i := j) (bools_get (by omega))
          generalize hX : c.getD j false = X at sx
          clear hX hi0
          have hf := hst5.c.frozen j
          have hst6 := hst5.turnC hap j d
          have hjc := hid hc
          clear hst5
          go_wp2_with fail
          go_region
          go_wp2_with fail
          go_roundw
          case rel => exact ⟨k + 1, c.set j d, _, by omega, by go_num, by simpa using hjc.out, hst6.drew⟩
          case measure => simp [intOf]; omega
        · have hin' : i < 0 ∨ ¬ i < N ∧ ¬ i < 0 := by omega
          have e : setC c i d = c := by unfold setC; rw [if_neg (by omega)]
          rw [e] at hst5
          clear e
          have hjc := hid hc
          rcases hin' with h | ⟨h, h'⟩
          all_goals
            go_wp2_with fail
            go_roundw
            case rel => exact ⟨k + 1, c, _, by omega, by go_num, hjc.out, hst5⟩
            case measure => simp [intOf]; omega
      · go_wp2_with fail
        clear hlt
        go_loopw [10, 11] (fun f i wr => Rel2 W gb qb go qo gc c oc f i wr) (fun _ i _ => N - (intOf i).toNat)
        case atStart => exact ⟨0, Nat.zero_le _, rfl, rfl, hst⟩
        case round =>
          clear hst
          obtain ⟨m, hm, rfl, rfl, hst⟩ := hrel
          by_cases hlt : m < c.length
          · have hmN : m < N := by omega
            have hle2 : (c.take m).countP id ≤ m := Nat.le_trans List.countP_le_length (List.length_take_le _ _)
            have hs : (c.take (m + 1)).countP id = (c.take m).countP id + if c.getD m false = true then 1 else 0 := by
              rw [List.take_succ_eq_append_getElem hlt, List.countP_append]
              have : c.getD m false = c[m] := by simp [hlt]
              rw [this]; cases c[m] <;> simp
            have HS := hid hs
            clear hs
            have sx := hst.c.cellv (i := m) (bools_get hlt)
            have hq := fun n => mir_quiet hst.b (m : Int) (c.getD m false) (by rw [on0_nat]) n
            generalize hX : c.getD m false = X at sx hq
            have HX := hid hX
            have hjc := hid hc
            have HQ := hid hq
            clear hX hc hq
            cases X
            · go_wp2_with fail
              go_quiet ((go_at_call 50; exact Calls.quiet_of_same (HQ.out _)))
              go_wp2_with fail
              go_roundw
              case rel => exact ⟨m + 1, by omega, by go_num, by rw [HS.out, HX.out]; rfl, hst.drewN _⟩
              case measure => simp [intOf]; omega
            · go_wp2_with fail
              go_quiet ((go_at_call 50; exact Calls.quiet_of_same (HQ.out _)))
              go_wp2_with fail
              go_roundw
              case rel => exact ⟨m + 1, by omega, by go_num, by rw [HS.out, HX.out]; go_num, hst.drewN _⟩
              case measure => simp [intOf]; omega
          · have hfin : (c.take m).countP id = c.countP id := by rw [List.take_of_length_le (by omega)]
            rw [hfin]
            have hjc := hid hc
            clear hfin
            have hNm : ¬ m < N := by omega
            clear hm hlt
            have hb := hid hst.below
            have g1 := mir_length hst.b N (by rw [hjc.out])
            have g2 := mir_counts hst.b (c.countP id : Nat) rfl
            have g3 := mir_at hst.b (-1) false (by rw [on0_out _ _ (by omega)])
            have g4 := mir_at hst.b (N : Int) false (by rw [on0_out _ _ (by omega)])
            have G1 := hid g1
            have G2 := hid g2
            have G3 := hid g3
            have G4 := hid g4
            clear g1 g2 g3 g4 hc
            generalize c.countP id = cc at *
            go_wp2_with fail
            refine G1.out.mono ?_
            rintro e w5 ⟨rfl, rfl⟩
            go_wp2_with fail
            refine G2.out.mono ?_
            rintro e w5 ⟨rfl, rfl⟩
            go_wp2_with fail
            refine G3.out.mono ?_
            rintro e w5 ⟨rfl, rfl⟩
            go_wp2_with fail
            refine G4.out.mono ?_
            rintro e w5 ⟨rfl, rfl⟩
            go_wp2_with fail
            go_ret
            exact ⟨rfl, hb.out⟩
end MPlays

theorem MPlays.opens : Opens Try.prog 74 (Int × Bool) MPlays.actEn (fun x => (Lit.int .i64 x.1).wf = true ∧ True) :=
  Opens.struct2 Try.underlying74 (Opens.int Try.underlying3 (by kernel_rfl)) (Opens.bool Try.underlying4 (by kernel_rfl)) ⟨rfl, by kernel_rfl, by kernel_rfl⟩
theorem MPlays.cells : Try.prog.cellsOf 74 = 2 := by kernel_rfl

theorem mirrorPlays_walk (W : World) (n : Int) (wn : (Lit.int .i64 n).wf = true) (A : Option Addr) (cap : Nat) (l : List (Int × Bool)) (hle : l.length ≤ cap) (hmax : cap ≤ maxLen) (hr : RowAt MPlays.actEn (Try.prog.cellsOf 74) W A l) :
    Calls Try.prog 13 #[.int .i64 n, .slice A l.length cap] W fun e W' => e = .returned (.bool true) ∧ Below W.heap.size W W' := by
  rw [MPlays.cells] at hr
  unfold maxLen at hmax
  by_cases h : 300 < n ∨ 300 < l.length
  · exact MPlays.out n A l.length cap (by omega) h W
  · exact MPlays.inn n (by omega) A cap l (by omega) W hr

end Go.Proofs.Ytgmknnmcanbfeaa
