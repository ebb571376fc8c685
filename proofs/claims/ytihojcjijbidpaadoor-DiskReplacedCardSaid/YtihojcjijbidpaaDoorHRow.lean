/- DiskReplaced: whatever bytes a synced file and the one that takes its place have, and wherever the power fails, the law answers true, and each argument reads behind the call as before. Conditions: the listed tables of Go's library read as the program's text lays them (the card ties them). -/
import Derived.Test.YtihojcjijbidpaaDoorH2
import Derived.Test.YtihojcjijbidpaaDoorZ0
import Derived.Test.YtihojcjijbidpaaDoorRows
import Derived.Test.YtihojcjijbidpaaDoorTie
import Derived.Test.YtihojcjijbidpaaDoorCards
import Derived.Lay
import Derived.Carry
import Derived.ProofKit
import Derived.ShutString
import Derived.SevenTiedAt
import Derived.LaidMore
namespace Go.Proofs.YtihojcjijbidpaaDoor
open Go.RowKit Go.ChangeShapes Go.WideShapes Go.ChangeAt
set_option linter.unusedVariables false

theorem own : ownKnob Tryd.prog.godebug = none := by kernel_rfl
theorem laidOut : laidOutB Tryd.prog = true := by kernel_rfl
theorem cellsHow : Tryd.prog.cellsOf 23 = 3 := by kernel_rfl
theorem cellsU8 : Tryd.prog.cellsOf 5 = 1 := by kernel_rfl
theorem underU8 : Tryd.prog.underlying 5 = some (.int .u8) := by kernel_rfl
theorem list3 {α : Type} (l : List α) (h : (⟨l⟩ : Array α).size = 3) : ∃ a b c, l = [a, b, c] := by
  match l, h with
  | [a, b, c], _ => exact ⟨a, b, c, rfl⟩
def lst : List (String × DataW Unit) := Rows.diskReplacedRow.laid

set_option maxHeartbeats 1000000 in
set_option maxRecDepth 100000 in
theorem lifted (os : Os) (started : os.Started) (H : Type) (enc : TypeId × Value → H) :
    ReturnsInHanded {} Tryd.checked os 3 .any (fun w args => (Rows.diskReplacedSpec.pre enc Tryd.prog Tryd.f3 [] false w args ∧ laidMetH Tryd.prog lst w) ∧ sizedMet enc Tryd.prog Tryd.f3 (OpenSpec.ofChange Rows.diskReplacedSpec) false w args)
      (Rows.diskReplacedSpec.post enc Tryd.prog Tryd.f3 false true false false) := by
  refine returns_both (C := Tryd.checked) (X := fun w _ => laidMetH Tryd.prog lst w) (fun _ _ _ hh h => h.of_heap hh) own started (by kernel_rfl) Tryd.func3
    (ChangeSpec.witness_shaped (enc := enc) (C := Tryd.checked) (os := os) (X := fun w _ => laidMetH Tryd.prog lst w) false (World.laidAll Tryd.prog os lst) #[.slice none 0 0, .slice none 0 0, .agg #[.int .u8 0, .int .u8 0, .int .u8 0]] 8 (World.laidAll_os _ _ _)
      (World.shaped_of_ZipB (by kernel_rfl) (by kernel_rfl)) (by kernel_rfl) (by kernel_rfl) (by kernel_rfl)
      (by rw [MakeChecks.laidMetH_plain _ _ _ (by kernel_rfl)]; exact laidMet_laidAll _ (by kernel_rfl) (by kernel_rfl))) ?_
  intro W base args ds gs before hval0 hW hsz0 hL hsh
  have hval : ∀ (j : Nat) t v, Tryd.f3.params[j]? = some t → args[j]? = some v → Value.okWide Tryd.prog W .any base t v := hval0
  have hW' := hW
  obtain ⟨p, q, hA0, hV, rfl, hfz, hnd⟩ := hW
  have hA : DataW.TrodAll enc Tryd.prog W 0 (fun _ => true) true Tryd.f3.params.toList args.toList ds p := hA0
  rw [Tryd.params3] at hA hval
  obtain ⟨v0, vs0, d0, ds0, p0, q0, hargs, rfl, rfl, h0, r0⟩ := trodAll_cons hA
  obtain ⟨v1, vs1, d1, ds1, p1, q1, rfl, rfl, rfl, h1, r1⟩ := trodAll_cons r0
  obtain ⟨v2, vs2, d2, ds2, p2, q2, rfl, rfl, rfl, h2, r2⟩ := trodAll_cons r1
  obtain ⟨rfl, rfl, rfl⟩ := trodAll_nil r2
  obtain rfl : args = #[v0, v1, v2] := by cases args; simp_all
  obtain ⟨rfl, rfl⟩ := trodVars_none hV
  obtain ⟨a0, len0, cap0, rfl⟩ := okWide_slice Tryd.underlying22 (hval 0 22 v0 rfl rfl)
  obtain ⟨a1, len1, cap1, rfl⟩ := okWide_slice Tryd.underlying22 (hval 1 22 v1 rfl rfl)
  obtain ⟨cs, rfl, hcs, _⟩ : ∃ cs, v2 = .agg cs ∧ cs.size = Tryd.prog.cellsOf 23 ∧ Row.okWide Tryd.prog W .any base 23 cs := by
    have := hval 2 23 v2 rfl rfl
    simpa [Value.okWide, Tryd.underlying23] using this
  rw [cellsHow] at hcs
  obtain ⟨lcs⟩ := cs
  obtain ⟨y0, y1, y2, rfl⟩ := list3 lcs hcs
  have k0 := h0
  have lt0 : ∀ x ∈ p0, x.block < W.heap.size := by obtain ⟨m, hm⟩ := k0; exact DataW.trod_lt m _ _ _ hm
  have k1 := h1
  have lt1 : ∀ x ∈ p1, x.block < W.heap.size := by obtain ⟨m, hm⟩ := k1; exact DataW.trod_lt m _ _ _ hm
  have k2 := h2
  have lt2 : ∀ x ∈ p2, x.block < W.heap.size := by obtain ⟨m, hm⟩ := k2; exact DataW.trod_lt m _ _ _ hm
  obtain ⟨x0, x1, x2, e0, e1, e2, w0, w1, w2⟩ : ∃ x0 x1 x2 : Int, y0 = .int .u8 x0 ∧ y1 = .int .u8 x1 ∧ y2 = .int .u8 x2 ∧ (0 ≤ x0 ∧ x0 ≤ 255) ∧ (0 ≤ x1 ∧ x1 ≤ 255) ∧ (0 ≤ x2 ∧ x2 ≤ 255) := by
    obtain ⟨fuel, hf⟩ := h2
    obtain ⟨z0, z1, z2, m, hx, hz0, hz1, hz2⟩ := trod_array3 Tryd.underlying23 cellsU8 hf
    obtain ⟨x0, e0, _, w0⟩ := DataW.trod_int underU8 hz0
    obtain ⟨x1, e1, _, w1⟩ := DataW.trod_int underU8 hz1
    obtain ⟨x2, e2, _, w2⟩ := DataW.trod_int underU8 hz2
    simp at e0 e1 e2
    have g : ∀ x : Int, (Lit.int .u8 x).wf = true → 0 ≤ x ∧ x ≤ 255 := fun x h => by simpa [Lit.wf, IntKind.min, IntKind.max, IntKind.signed, IntKind.bits] using h
    exact ⟨x0, x1, x2, e0, e1, e2, g _ w0, g _ w1, g _ w2⟩
  subst e0 e1 e2
  obtain ⟨old, rfl, hb0⟩ := open_bytes Tryd.underlying22 underU8 cellsU8 h0
  obtain ⟨fresh, rfl, hb1⟩ := open_bytes Tryd.underlying22 underU8 cellsU8 h1
  have hAmb : Amb W := cell_of_shapedOpen_int (P := Tryd.prog) (g := 0) (t := 3) (zero := #[.int .i64 0]) hsh (of_decide_eq_true (by kernel_rfl)) (by kernel_rfl) rfl (by kernel_rfl) (by kernel_rfl) Tryd.underlying3
  clear hA0 hval0 hsz0
  have key : Calls Tryd.prog 3 #[.slice a0 old.length cap0, .slice a1 fresh.length cap1, .agg #[.int .u8 x0, .int .u8 x1, .int .u8 x2]] W fun e w' => e = .returned (.bool true) ∧ Below W.heap.size W w' := by
    by_cases hl : old.length ≤ 500 ∧ fresh.length ≤ 500
    · exact DiskReplaced_go W hAmb a0 a1 cap0 cap1 old fresh x0 x1 x2 w0.1 w0.2 w1.1 w1.2 w2.1 w2.2 hb0 hb1 hl.1 hl.2
    · exact DiskReplaced_long W hAmb a0 a1 _ _ cap0 cap1 x0 x1 x2 (by omega)
  refine key.mono fun e W' ⟨he, bel⟩ => ?_
  subst he
  exact ⟨_, rfl, _, _, _, [], _, [], hW', trodAll_mk1 (shut_bool Tryd.underlying4 _), trodAll_cons_mk (Below.trod laidOut (by kernel_rfl) (of_decide_eq_true (by kernel_rfl)) k0 bel lt0) (trodAll_cons_mk (Below.trod laidOut (by kernel_rfl) (of_decide_eq_true (by kernel_rfl)) k1 bel lt1) (trodAll_cons_mk (Below.trod laidOut (by kernel_rfl) (of_decide_eq_true (by kernel_rfl)) k2 bel lt2) trodAll_mk0)), rfl, bel.frame _, fun h => by cases h⟩

theorem row_holds : Rows.DiskReplacedSaid :=
  OpenClaim.holds_of_wide 3 Tryd.f3 rfl rfl rfl rfl rfl rfl rfl ⟨rfl, rfl, rfl, rfl, rfl⟩ rfl rfl rfl rfl rfl (by kernel_rfl) Tryd.func3 (by kernel_rfl)
    (of_decide_eq_true (by kernel_rfl)) (by unfold Func.isWrapper; first | (rw [if_pos (by decide +kernel)]; kernel_rfl) | (rw [if_neg (by decide +kernel)]; exact ⟨rfl, rfl⟩))
    (fun os started H enc _ => lifted os started H enc)

theorem diskReplaced_holds : Rows.DiskReplacedCardSaid :=
  Claim7.holds_tied_plain_at .later [] [.data, .pinned] true (true, "020ffd94aae043a68d306eb2c5484eb17bdcc3ce4662f45941fdc0712bb209ac") true row_holds (fun _ h => by cases h) (by kernel_rfl) (fun _ h => by cases h) diskReplaced_row_tie rfl ⟨rfl, rfl⟩ (by kernel_rfl) rfl
    (fun f fn hf hfn => by
      obtain rfl : f = 3 := Option.some.inj ((show Tryd.prog.funcNamed "sumpter/sumpterlaw14.DiskReplaced" = some 3 by kernel_rfl).symm.trans hf) |>.symm
      obtain rfl : fn = Tryd.f3 := (Option.some.inj (Tryd.func3.symm.trans hfn)).symm
      exact ⟨by kernel_rfl, fun j t ht => by
        rw [Tryd.params3] at ht
        have hm : t ∈ [22, 22, 23] := by simpa using Array.mem_of_getElem? ht
        have hall : ([22, 22, 23].all fun u => !Tryd.prog.wantsStandIn u) = true := by kernel_rfl
        exact (show Tryd.prog.wantsStandIn t = false by simpa using List.all_eq_true.1 hall t hm)⟩)
    (by kernel_rfl)
#print axioms diskReplaced_holds
end Go.Proofs.YtihojcjijbidpaaDoor
