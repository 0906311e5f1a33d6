/-
  Sharing out as one contract, the program's and the document's; the laws' common words. No condition.
-/
import Derived.Test.YtcnecjjgnnkjkaaWeighF
import Derived.Test.YtcnecjjgnnkjkaaRefPick
namespace Go.Proofs.Ytcnecjjgnnkjkaa
open Go.RowKit
set_option linter.unusedVariables false
set_option linter.unusedSimpArgs false
set_option maxRecDepth 100000

theorem trod_fl {H : Type} {enc : TypeId × Value → H} {P : Program} {w : World} {base : Nat} {spare : Nat → Bool} {held : Bool} {fuel : Nat} {t : TypeId} {cs : List Value} {x : DataW H × List MemPlace} {k : FloatKind} (ht : P.underlying t = some (.float k)) (h : DataW.trod enc P w base spare held fuel t cs = some x) : ∃ n, cs = [.float k n] ∧ (Lit.float k n).wf = true := by
  cases fuel with
  | zero => simp [DataW.trod] at h
  | succ n =>
    unfold DataW.trod at h
    rw [ht] at h
    split at h <;> simp_all
theorem open_fl : Opens Try.prog 23 Nat flEn (fun x => (Lit.float .f64 x).wf = true) := ⟨fun h => trod_fl Try.underlying23 h, fun _ => (show 1 = Try.prog.cellsOf 23 by kernel_rfl)⟩
theorem fl_cells : Try.prog.cellsOf 23 = 1 := by kernel_rfl
theorem fl_row : (Try.prog.info? 23).map (fun i => (i.zero, i.size, i.bytes)) = some (some (.float .f64 0), 1, 8) := by kernel_rfl
theorem cells_fl (r : Nat) : ∀ u ∈ flEn r, u.oneCell' = true := by intro u hu; simp [flEn] at hu; subst hu; rfl

instance (a b c : Int) : Decidable (WrongP a b c) := by unfold WrongP; infer_instance
def shOut (total least : Int) (xs : List Nat) : List Nat := if WrongP total least xs.length then [] else shareL total.toNat least.toNat (xs.map wN)
def shErr (total least : Int) (xs : List Nat) : Int := if WrongP total least xs.length then 1 else 0
def ShPost (w : World) (total least : Int) (xs : List Nat) (e : Ending) (w' : World) : Prop :=
  (∃ vo, e = .returned (.tuple #[vo, .int .i64 (shErr total least xs)]) ∧ Owns w' w.heap.size 3 1 vo (shOut total least xs).length (intsV (shOut total least xs))) ∧ Below w.heap.size w w'
theorem weigh_all (w : World) (v : Value) (xs : List Nat) (R : Rd flEn 1 w v xs) (total least : Int) : Calls Try.prog 11 #[.int .i64 total, .int .i64 least, v] w (ShPost w total least xs) := by
  unfold ShPost shOut shErr
  by_cases h : WrongP total least xs.length
  · rw [if_pos h, if_pos h]
    obtain ⟨A, cap, rfl, n1, m1⟩ := R.form
    exact (weigh_shares_no A xs.length cap total least h w).mono fun e w' ⟨h1, h2⟩ => ⟨⟨_, h1, Owns.nil _ _ _ _⟩, h2⟩
  · rw [if_neg h, if_neg h]
    have h' := h
    unfold WrongP at h'
    obtain ⟨t, rfl⟩ := Int.eq_ofNat_of_zero_le (show 0 ≤ total by omega)
    obtain ⟨l, rfl⟩ := Int.eq_ofNat_of_zero_le (show 0 ≤ least by omega)
    refine (weigh_shares w v xs R t l h).mono fun e w' ⟨⟨vo, h1, h2⟩, h3⟩ => ⟨⟨vo, h1, ?_⟩, h3⟩
    rw [Int.toNat_natCast, Int.toNat_natCast, share_len, List.length_map]; exact h2
theorem ref_all (w : World) (v : Value) (xs : List Nat) (R : Rd flEn 1 w v xs) (total least : Int) : Calls Try.prog 12 #[.int .i64 total, .int .i64 least, v] w (ShPost w total least xs) := by
  unfold ShPost shOut shErr
  by_cases h : WrongP total least xs.length
  · rw [if_pos h, if_pos h]
    obtain ⟨A, cap, rfl, n1, m1⟩ := R.form
    exact (ref_shares_no A xs.length cap (by omega) total least h w).mono fun e w' ⟨h1, h2⟩ => ⟨⟨_, h1, Owns.nil _ _ _ _⟩, h2⟩
  · rw [if_neg h, if_neg h]
    have h' := h
    unfold WrongP at h'
    obtain ⟨t, rfl⟩ := Int.eq_ofNat_of_zero_le (show 0 ≤ total by omega)
    obtain ⟨l, rfl⟩ := Int.eq_ofNat_of_zero_le (show 0 ≤ least by omega)
    refine (ref_shares w v xs R t l h).mono fun e w' ⟨⟨vo, h1, h2⟩, h3⟩ => ⟨⟨vo, h1, ?_⟩, h3⟩
    rw [Int.toNat_natCast, Int.toNat_natCast, share_len, List.length_map]; exact h2
theorem law10_num (n : Int) (w : World) : Calls Try.prog 15 #[.int .i64 n] w fun e w' => e = .returned (.int .i64 n) ∧ w = w' := by
  go_enter Try.func15, Try.ntmps15
  go_wp2_with fail
  go_ret
  exact ⟨rfl, rfl⟩
theorem wN_one : wN 4607182418800017408 = 1 := by decide +kernel
theorem wN_two : wN 4612811918334230528 = 2 := by decide +kernel
theorem wd_two : wd 2 = 4611686018427387904 := by decide +kernel
theorem law10_alive (w : World) : Calls Try.prog 10 #[] w fun e w' => e = .returned (.bool true) ∧ Below w.heap.size w w' := by
  have cS := hid (weigh_all (w.alloc (.cells #[.float .f64 4607182418800017408] 23)) (.slice (some ⟨w.heap.size, 0, none⟩) 1 1) [4607182418800017408] (Rd.of_blk (en := flEn) (l := [4607182418800017408]) (Blk.new w [.float .f64 4607182418800017408] 23) flEn_len (by unfold maxLen; simp)) 10 1)
  have hsh : shOut 10 1 [4607182418800017408] = [10] := by
    unfold shOut
    rw [if_neg (by decide)]
    simp only [List.map_cons, List.map_nil, wN_one]
    rfl
  have hse : shErr 10 1 [4607182418800017408] = 0 := by
    unfold shErr
    rw [if_neg (by decide)]
  have cN := hid (fun n w => law10_num n w)
  have cW := hid (fun w => weight 4612811918334230528 w)
  rw [wN_two, wd_two] at cW
  have hF : FloatKind.f64.format = Ieee.double := rfl
  have ho : (Ieee.double.order 4611686018427387904 4611686018427387904 == some .eq) = true := by decide +kernel
  unfold ShPost at cS
  rw [hsh, hse] at cS
  clear hsh hse
  go_enter Try.func10, Try.ntmps10
  go_wp2_with fail
  refine cS.out.mono ?_
  rintro _ w2 ⟨⟨vo, rfl, hO⟩, hb⟩
  obtain ⟨A, cap, rfl, n1, m1, hc⟩ := hO.form
  obtain ⟨g, rfl, _, hg, hcell⟩ := hc (by decide)
  have y0 : w2.cell? ⟨g, 0, none⟩ = some (.int .i64 10) := hcell 0 (by decide)
  have HB := hid (Below.trans ((Below.refl w.heap.size w).alloc (Nat.le_refl _) (.cells #[.float .f64 4607182418800017408] 23)) (hb.mono (by simp)))
  clear hO hb hc hcell cS hg n1
  go_wp2_with fail
  refine (cN.out _ _).mono ?_
  rintro _ w3 ⟨rfl, rfl⟩
  go_wp2_with fail
  refine (cW.out _).mono ?_
  rintro _ w3 ⟨rfl, hb⟩
  have HB2 := hid (held_next HB.out hb)
  clear hb
  go_wp2_with fail
  go_ret
  exact ⟨rfl, HB2.out⟩
end Go.Proofs.Ytcnecjjgnnkjkaa
