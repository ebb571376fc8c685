/- The walks of file and parent. -/
import Derived.Test.YtihojcjijbidpaaDoorD0
import Derived.Test.YtihojcjijbidpaaDoorM
namespace Go.Proofs.YtihojcjijbidpaaDoor
open Go.RowKit Go.Shelf Go.Sort

def zNd : Nd := ⟨false, 0⟩
theorem zeroNode (w : World) : (zeroValue 60).run Tryd.prog w = .ok zNd.val w := by kernel_rfl
theorem MapAt.look_is {w : World} {b : Nat} {m : Names} (h : MapAt w b m) (p : ByteArray) :
    (Instr.lookup 42 (.map (some b)) (.string p) true).run Tryd.prog w = .ok (.tuple #[.agg #[.bool ((lookupM m p).getD zNd).dir, .int .i64 (((lookupM m p).getD zNd).id : Int)], .bool (lookupM m p).isSome]) w := by
  rw [h.look Tryd.underlying42 Tryd.underlying9 (zeroNode w) p]
  cases lookupM m p <;> rfl
theorem MapAt.look1_is {w : World} {b : Nat} {m : Names} (h : MapAt w b m) (p : ByteArray) :
    (Instr.lookup 42 (.map (some b)) (.string p) false).run Tryd.prog w = .ok (.agg #[.bool ((lookupM m p).getD zNd).dir, .int .i64 (((lookupM m p).getD zNd).id : Int)]) w := by
  rw [h.look1 Tryd.underlying42 Tryd.underlying9 (zeroNode w) p]
  cases lookupM m p <;> rfl

def fileE (m : Names) (p : ByteArray) : Int := match lookupM m p with | none => 8 | some x => if x.dir then 9 else 0

/-- file, where there is an error. -/
theorem file_err (bd bn : Nat) (m : Names) (p : ByteArray) (w : World) (hn : w.cell? ⟨bd, 2, none⟩ = some (.map (some bn))) (hm : MapAt w bn m) (he : fileE m p ≠ 0) :
    Calls Tryd.prog 30 #[.pointer (some ⟨bd, 0, none⟩), .string p] w fun e w' => e = .returned (.tuple #[.pointer none, .int .i64 (fileE m p)]) ∧ Below w.heap.size w w' := by
  have hlk := hm.look_is p
  have hE : Hid (fileE m p = match lookupM m p with | none => 8 | some x => if x.dir then 9 else 0) := rfl
  have he' := Lib.hid he
  clear hm he
  cases hx : lookupM m p with
  | none =>
    rw [hx] at hlk hE
    clear hx
    simp only [Option.getD_none, Option.isSome_none] at hlk
    go_enter Tryd.func30, Tryd.ntmps30
    go_wp2
    go_ret2
    exact ⟨by rw [hE.out]; rfl, (Below.refl _ _).alloc (Nat.le_refl _) _⟩
  | some x =>
    rw [hx] at hlk hE
    clear hx
    simp only [Option.getD_some, Option.isSome_some] at hlk
    obtain ⟨dir, id⟩ := x
    cases dir with
    | false => exact absurd hE.out he'.out
    | true =>
      go_enter Tryd.func30, Tryd.ntmps30
      go_wp2
      go_ret2
      exact ⟨by rw [hE.out]; rfl, (Below.refl _ _).alloc (Nat.le_refl _) _⟩

/-- file, where there is one. -/
theorem file_ok (bd bn : Nat) (m : Names) (p : ByteArray) (id : Nat) (w : World) (hn : w.cell? ⟨bd, 2, none⟩ = some (.map (some bn))) (hm : MapAt w bn m) (he : lookupM m p = some ⟨false, id⟩)
    (g n c : Nat) (hf : w.cell? ⟨bd, 4, none⟩ = some (.slice (some ⟨g, 0, none⟩) n c)) (hid : id < n) (hbig : n ≤ 1000000) :
    Calls Tryd.prog 30 #[.pointer (some ⟨bd, 0, none⟩), .string p] w fun e w' => e = .returned (.tuple #[.pointer (some ⟨g, id * 2, none⟩), .int .i64 0]) ∧ Below w.heap.size w w' := by
  have hlk := hm.look_is p
  rw [he] at hlk
  simp only [Option.getD_some, Option.isSome_some] at hlk
  clear hm he
  have hlt := World.block_lt_of_cell? _ _ hn
  go_enter Tryd.func30, Tryd.ntmps30
  go_wp2
  go_quiet (fail)
  go_wp2
  go_ret2
  exact ⟨rfl, below_drewN ((Below.refl _ _).alloc (Nat.le_refl _) _) _⟩

def parentE (m : Names) (p : ByteArray) : Int := if (parentB p).toList.isEmpty then 0 else match lookupM m (parentB p) with | none => 8 | some x => if x.dir then 0 else 9

theorem parent_calls (bd bn : Nat) (m : Names) (p : ByteArray) (w : World) (hs : p.size ≤ 1000000) (hn : w.cell? ⟨bd, 2, none⟩ = some (.map (some bn))) (hm : MapAt w bn m) :
    Calls Tryd.prog 31 #[.pointer (some ⟨bd, 0, none⟩), .string p] w fun e w' => e = .returned (.int .i64 (parentE m p)) ∧ Below w.heap.size w w' := by
  have HP := Parent_is p w hs
  have hlk := fun k => (show MapAt (w.drewN k) bn m from hm).look_is (parentB p)
  have hE : Hid (parentE m p = if (parentB p).toList.isEmpty then 0 else match lookupM m (parentB p) with | none => 8 | some x => if x.dir then 0 else 9) := rfl
  clear hm
  generalize parentB p = up at *
  by_cases h0 : up.toList.isEmpty = true
  · clear hlk
    have hx : parentE m p = 0 := by rw [hE.out, if_pos h0]
    have HX := Lib.hid hx; clear hx hE
    go_enter Tryd.func31, Tryd.ntmps31
    go_wp2_with (go_at_call 42; refine HP.mono ?_; rintro e w' ⟨rfl, n, rfl⟩)
    go_ret
    exact ⟨by rw [HX.out]; rfl, below_drewN (Below.refl _ _) _⟩
  · have h0' : up.toList.isEmpty = false := by simpa using h0
    have hx : parentE m p = match lookupM m up with | none => 8 | some x => if x.dir then 0 else 9 := by rw [hE.out, if_neg h0]
    have HX := Lib.hid hx; clear hx hE h0
    cases hl : lookupM m up with
    | none =>
      rw [hl] at hlk HX
      clear hl
      simp only [Option.getD_none, Option.isSome_none] at hlk
      have HK := Lib.hid hlk; clear hlk
      go_enter Tryd.func31, Tryd.ntmps31
      go_wp2_with fail
      refine HP.mono ?_
      rintro e w1 ⟨rfl, n, hw⟩
      have hlk1 := HK.out n
      rw [← hw] at hlk1
      have hn1 : w1.cell? ⟨bd, 2, none⟩ = some (.map (some bn)) := by rw [hw]; exact hn
      have HB : Hid (Below w.heap.size w w1) := by rw [hw]; exact below_drewN (Below.refl _ _) _
      clear hw
      go_wp2
      go_ret
      exact ⟨by rw [HX.out]; rfl, HB.out.alloc HB.out.size _⟩
    | some x =>
      rw [hl] at hlk HX
      clear hl
      simp only [Option.getD_some, Option.isSome_some] at hlk
      have HK := Lib.hid hlk; clear hlk
      obtain ⟨dir, id⟩ := x
      cases dir with
      | false =>
        go_enter Tryd.func31, Tryd.ntmps31
        go_wp2_with fail
        refine HP.mono ?_
        rintro e w1 ⟨rfl, n, hw⟩
        have hlk1 := HK.out n
        rw [← hw] at hlk1
        have hn1 : w1.cell? ⟨bd, 2, none⟩ = some (.map (some bn)) := by rw [hw]; exact hn
        have HB : Hid (Below w.heap.size w w1) := by rw [hw]; exact below_drewN (Below.refl _ _) _
        clear hw
        go_wp2
        go_ret
        exact ⟨by rw [HX.out]; rfl, HB.out.alloc HB.out.size _⟩
      | true =>
        go_enter Tryd.func31, Tryd.ntmps31
        go_wp2_with fail
        refine HP.mono ?_
        rintro e w1 ⟨rfl, n, hw⟩
        have hlk1 := HK.out n
        rw [← hw] at hlk1
        have hn1 : w1.cell? ⟨bd, 2, none⟩ = some (.map (some bn)) := by rw [hw]; exact hn
        have HB : Hid (Below w.heap.size w w1) := by rw [hw]; exact below_drewN (Below.refl _ _) _
        clear hw
        go_wp2
        go_ret
        exact ⟨by rw [HX.out]; rfl, HB.out.alloc HB.out.size _⟩
end Go.Proofs.YtihojcjijbidpaaDoor
