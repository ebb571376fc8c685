/- The walks of apply and rename. -/
import Derived.Test.YtihojcjijbidpaaDoorD1
namespace Go.Proofs.YtihojcjijbidpaaDoor
open Go.RowKit Go.Shelf Go.Sort

def apply1 (m : Names) (q : ByteArray × Option Nd) : Names := match q.2 with | none => delM m q.1 | some x => setM m q.1 x
def applyM (m : Names) (c : Change) : Names := c.foldl apply1 m
theorem applyM_snoc (m : Names) (c : Change) (k : Nat) (h : k < c.length) : applyM m (c.take (k + 1)) = apply1 (applyM m (c.take k)) c[k] := by
  unfold applyM
  rw [List.take_succ_eq_append_getElem h, List.foldl_append]
  rfl

theorem MapAt.delete_is {w : World} {b : Nat} {m : Names} {ty : TypeId} (h : MapAt w b m) (p : ByteArray) :
    ∃ w', (Builtin.delete_ #[42, 9] ty #[.map (some b), .string p]).run Tryd.prog w = .ok (.tuple #[]) w' ∧ MapAt w' b (delM m p) ∧ w.grownBy w' (some b) ∧ w'.heap.size = w.heap.size :=
  h.delete Tryd.underlying42 Tryd.underlying9 p
theorem MapAt.update_is {w : World} {b : Nat} {m : Names} (h : MapAt w b m) (p : ByteArray) (x : Nd) :
    ∃ w', (Instr.mapUpdate 42 (.map (some b)) (.string p) (.agg #[.bool x.dir, .int .i64 x.id])).run Tryd.prog w = .ok () w' ∧ MapAt w' b (setM m p x) ∧ w.grownBy w' (some b) ∧ w'.heap.size = w.heap.size :=
  h.update Tryd.underlying42 Tryd.underlying9 p x

set_option maxHeartbeats 1000000 in
theorem apply_calls (bn : Nat) (m : Names) (c : Change) (vp vn : Value) (M : Nat → Prop) (w : World) (hm : MapAt w bn m) (hM : M bn) (hc : ChangeAt w M vp vn c) (hl : c.length ≤ 1000) :
    Calls Tryd.prog 34 #[.map (some bn), .agg #[vp, vn]] w fun e w' => e = .returned (.tuple #[]) ∧ MapAt w' bn (applyM m c) ∧ w.grownBy w' (some bn) := by
  obtain ⟨bp, bv, cp, cn, rfl, rfl, _, _, hp1, hp2, hp3, hp4, hcs⟩ := hc
  have HC := Lib.hid hcs; clear hcs
  have nep : bp ≠ bn := fun e => hp3 (e ▸ hM)
  have nev : bv ≠ bn := fun e => hp4 (e ▸ hM)
  have hbn := hm.lt
  obtain ⟨n, hn⟩ : ∃ n, n = c.length := ⟨_, rfl⟩
  rw [← hn] at hl ⊢
  have HN := Lib.hid hn; clear hn
  go_enter Tryd.func34, Tryd.ntmps34
  go_wp2
  have HM : Hid (MapAt (w.alloc (.cells #[.slice (some ⟨bp, 0, none⟩) n cp, .slice (some ⟨bv, 0, none⟩) n cn] 69)) bn m) := hm.kept (Below.heap_alloc _ _ _ hbn)
  clear hm
  obtain ⟨w1, hw1⟩ : ∃ w1, w1 = w.alloc (.cells #[.slice (some ⟨bp, 0, none⟩) n cp, .slice (some ⟨bv, 0, none⟩) n cn] 69) := ⟨_, rfl⟩
  rw [← hw1] at HM ⊢
  have b0 : w1.cell? ⟨w.heap.size, 0, none⟩ = some (.slice (some ⟨bp, 0, none⟩) n cp) := by rw [hw1]; simp
  have b1 : w1.cell? ⟨w.heap.size, 1, none⟩ = some (.slice (some ⟨bv, 0, none⟩) n cn) := by rw [hw1]; simp
  have hs1 : w1.heap.size = w.heap.size + 1 := by rw [hw1]; simp
  have HS1 := Lib.hid hs1; clear hs1
  have HG : Hid (w.grownBy w1 (some bn)) := by rw [hw1]; exact World.grownBy_alloc _ _ _
  clear hw1
  go_loopw [4, 5, 9] (fun _ _ t wr => ∃ k : Nat, k ≤ n ∧ t = .int .i64 k ∧ Hid (MapAt wr bn (applyM m (c.take k))) ∧ Hid (w1.grownBy wr (some bn))) (fun _ _ t _ => n - (intOf t).toNat)
  case atStart => exact ⟨0, Nat.zero_le _, rfl, HM.out, World.grownBy.refl _ _⟩
  case round =>
    obtain ⟨k, hk, rfl, HR, HW⟩ := hrel
    have r0 : wr.cell? ⟨w.heap.size, 0, none⟩ = some (.slice (some ⟨bp, 0, none⟩) n cp) := HW.out.cell b0 (by simp; omega)
    have r1 : wr.cell? ⟨w.heap.size, 1, none⟩ = some (.slice (some ⟨bv, 0, none⟩) n cn) := HW.out.cell b1 (by simp; omega)
    by_cases hlt : k < n
    · have hk' : k < c.length := by rw [← HN.out]; exact hlt
      obtain ⟨e1, v, e2, e3⟩ := HC.out k hk'
      have g1 : wr.cell? ⟨bp, k, none⟩ = some (.string c[k].1) := HW.out.cell (HG.out.cell e1 (by simp; exact nep)) (by simp; exact nep)
      have g2 : wr.cell? ⟨bv, k, none⟩ = some v := HW.out.cell (HG.out.cell e2 (by simp; exact nev)) (by simp; exact nev)
      have hap := applyM_snoc m c k hk'
      clear e1 e2
      have HAP := Lib.hid hap; clear hap
      generalize c[k] = q at *
      obtain ⟨p, x⟩ := q
      simp only at g1 e3
      cases x with
      | none =>
        simp only [NodeAt] at e3
        subst e3
        obtain ⟨w2, hrun, hm2, hg2, hs2⟩ := HR.out.delete_is (ty := 0) p
        have HM2 := Lib.hid hm2; clear hm2
        have HG2 := Lib.hid hg2; clear hg2
        clear hs2
        go_wp2
        go_roundw
        case rel => exact ⟨k + 1, by omega, by go_num, by rw [HAP.out]; exact HM2.out, HW.out.trans HG2.out⟩
        case measure => simp [intOf]; omega
      | some x =>
        obtain ⟨bx, rfl, e4, e5, e6, e7⟩ := e3
        have nex : bx ≠ bn := fun e => e5 (e ▸ hM)
        have g6 : wr.cell? ⟨bx, 0, none⟩ = some (.bool x.dir) := HW.out.cell (HG.out.cell e6 (by simp; exact nex)) (by simp; exact nex)
        have g7 : wr.cell? ⟨bx, 1, none⟩ = some (.int .i64 x.id) := HW.out.cell (HG.out.cell e7 (by simp; exact nex)) (by simp; exact nex)
        clear e6 e7
        obtain ⟨w2, hrun, hm2, hg2, hs2⟩ := HR.out.update_is p x
        have HM2 := Lib.hid hm2; clear hm2
        have HG2 := Lib.hid hg2; clear hg2
        clear hs2
        go_wp2
        go_roundw
        case rel => exact ⟨k + 1, by omega, by go_num, by rw [HAP.out]; exact HM2.out, HW.out.trans HG2.out⟩
        case measure => simp [intOf]; omega
    · have hx : applyM m (c.take k) = applyM m c := by rw [List.take_of_length_le (by rw [← HN.out]; omega)]
      have HX := Lib.hid hx; clear hx
      go_wp2
      go_end0
      exact ⟨rfl, by rw [← HX.out]; exact HR.out, HG.out.trans HW.out⟩
end Go.Proofs.YtihojcjijbidpaaDoor
