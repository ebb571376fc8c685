/- A disk that a law made and calls, and nobody else: the calls' contracts once more. -/
import Derived.Test.YtihojcjijbidpaaDoorD30
import Derived.Test.YtihojcjijbidpaaDoorF1
namespace Go.Proofs.YtihojcjijbidpaaDoor
open Go.RowKit Go.Shelf Go.Sort

/-- Behind n calls that brought at most b bytes; nothing that lay in w0 has turned. -/
def Runs (w0 w : World) (bd : Nat) (D : PD) (n b : Nat) : Prop :=
  ∃ O M, DiskIs w bd O M D ∧ D.Inv n b ∧ Below w0.heap.size w0 w ∧ ∀ k, M k → w0.heap.size ≤ k

theorem Runs.wBelow {w0 w : World} {bd : Nat} {D : PD} {n b : Nat} (h : Runs w0 w bd D n b) : Below w0.heap.size w0 w := by
  obtain ⟨O, M, _, _, h3, _⟩ := h
  exact h3
theorem Runs.inv {w0 w : World} {bd : Nat} {D : PD} {n b : Nat} (h : Runs w0 w bd D n b) : D.Inv n b := by
  obtain ⟨O, M, _, h2, _⟩ := h
  exact h2
theorem Runs.below {w0 w w' : World} {bd : Nat} {D : PD} {n b : Nat} (h : Runs w0 w bd D n b) (hb : Below w.heap.size w w') : Runs w0 w' bd D n b := by
  obtain ⟨O, M, h1, h2, h3, h4⟩ := h
  exact ⟨O, M, h1.below hb, h2, h3.trans (hb.mono h3.size), h4⟩
theorem Runs.leaves {w0 w w' : World} {bd : Nat} {O M : Nat → Prop} {D D' : PD} {n b : Nat} (h1 : DiskIs w bd O M D) (h3 : Below w0.heap.size w0 w) (h4 : ∀ k, M k → w0.heap.size ≤ k) (hL : Leaves w bd O M D' w') (hI : D'.Inv n b) : Runs w0 w' bd D' n b := by
  obtain ⟨O', M', g1, g2⟩ := hL
  refine ⟨O', M', g1, hI, ⟨g2.goes.os.trans h3.os, g2.goes.tape.trans h3.tape, g2.goes.output.trans h3.output, Nat.le_trans h3.size g2.goes.size, fun k hk => ?_⟩, fun k q => ?_⟩
  · exact (g2.goes.block k (Nat.lt_of_lt_of_le hk h3.size) (fun q => by have := h4 k (h1.ownM k q); omega)).trans (h3.block k hk)
  · rcases g2.goes.back k q with q | q
    · exact h4 k q
    · exact Nat.le_trans h3.size q.1

section
variable {w0 w : World} {bd : Nat} {D : PD} {n b : Nat}
theorem New_run (c : Int) (w : World) : Calls Tryd.prog 5 #[.int .i64 c] w fun e w' => ∃ bd, e = .returned (.pointer (some ⟨bd, 0, none⟩)) ∧ Runs w w' bd (newD c) 0 0 :=
  (New_calls c w (fun _ => False) (fun _ q => q.elim)).mono fun e w' ⟨bd, O, M', he, h1, h2, h3⟩ =>
    ⟨bd, he, O, M', h1, newD_inv c, h2.below (fun _ _ q => q) (Nat.le_refl _), fun k q => by
      rcases h2.back k q with q | q
      · exact q.elim
      · exact q.1⟩
theorem Create_run (hA : Amb w0) (h : Runs w0 w bd D n b) (hn : n ≤ 100000) (hb : b ≤ 16777216) (p : ByteArray) (hs : p.size ≤ 1000000) :
    Calls Tryd.prog 6 #[.pointer (some ⟨bd, 0, none⟩), .string p] w fun e w' => e = .returned (.int .i64 (putR D p false).2) ∧ Runs w0 w' bd (putR D p false).1 (n + 1) b := by
  obtain ⟨O, M, h1, h2, h3, h4⟩ := h
  exact (Create_calls h1 (h2.fine hn hb) (hA.below h3) p hs).mono fun e w' ⟨he, hL⟩ => ⟨he, Runs.leaves h1 h3 h4 hL (putR_inv h2 p false)⟩
theorem Append_run (hA : Amb w0) (h : Runs w0 w bd D n b) (hn : n ≤ 100000) (hb : b ≤ 16777216) (p : ByteArray) (hs : p.size ≤ 1000000) (v : Value) (l : List UInt8) (hv : ∀ M : Nat → Prop, (∀ k, M k → w0.heap.size ≤ k) → (∀ k, M k → k < w.heap.size) → (∃ O, DiskIs w bd O M D) → BytesAt w M v l) :
    Calls Tryd.prog 7 #[.pointer (some ⟨bd, 0, none⟩), .string p, v] w fun e w' => e = .returned (.int .i64 (appendR D p l).2) ∧ Runs w0 w' bd (appendR D p l).1 (n + 1) (b + l.length) := by
  obtain ⟨O, M, h1, h2, h3, h4⟩ := h
  exact (Append_calls h1 (h2.fine hn hb) (hA.below h3) p hs v l (hv M h4 h1.mlt ⟨O, h1⟩)).mono fun e w' ⟨he, hL⟩ => ⟨he, Runs.leaves h1 h3 h4 hL (appendR_inv h2 p l)⟩
theorem Sync_run (hA : Amb w0) (h : Runs w0 w bd D n b) (hn : n ≤ 100000) (hb : b ≤ 16777216) (p : ByteArray) (hs : p.size ≤ 1000000) :
    Calls Tryd.prog 8 #[.pointer (some ⟨bd, 0, none⟩), .string p] w fun e w' => e = .returned (.int .i64 (syncR D p).2) ∧ Runs w0 w' bd (syncR D p).1 (n + 1) b := by
  obtain ⟨O, M, h1, h2, h3, h4⟩ := h
  exact (Sync_calls h1 (h2.fine hn hb) (hA.below h3) p hs).mono fun e w' ⟨he, hL⟩ => ⟨he, Runs.leaves h1 h3 h4 hL (syncR_inv h2 p)⟩
theorem SyncDirs_run (h : Runs w0 w bd D n b) (hn : n ≤ 100000) (hb : b ≤ 16777216) :
    Calls Tryd.prog 9 #[.pointer (some ⟨bd, 0, none⟩)] w fun e w' => e = .returned (.int .i64 (syncDirsR D).2) ∧ Runs w0 w' bd (syncDirsR D).1 (n + 1) b := by
  obtain ⟨O, M, h1, h2, h3, h4⟩ := h
  exact (SyncDirs_calls h1 (h2.fine hn hb)).mono fun e w' ⟨he, hL⟩ => ⟨he, Runs.leaves h1 h3 h4 hL (syncDirsR_inv h2)⟩
theorem Rename_run (hA : Amb w0) (h : Runs w0 w bd D n b) (hn : n ≤ 100000) (hb : b ≤ 16777216) (p q : ByteArray) (hs : p.size ≤ 1000000) (hs2 : q.size ≤ 1000000) :
    Calls Tryd.prog 13 #[.pointer (some ⟨bd, 0, none⟩), .string p, .string q] w fun e w' => e = .returned (.int .i64 (renameR D p q).2) ∧ Runs w0 w' bd (renameR D p q).1 (n + 1) b := by
  obtain ⟨O, M, h1, h2, h3, h4⟩ := h
  exact (Rename_calls h1 (h2.fine hn hb) (hA.below h3) p q hs hs2).mono fun e w' ⟨he, hL⟩ => ⟨he, Runs.leaves h1 h3 h4 hL (renameR_inv h2 p q)⟩
theorem Fail_run (h : Runs w0 w bd D n b) (k : Int) (done : Bool) (hk : k ≤ 9223372036854775807) :
    Calls Tryd.prog 10 #[.pointer (some ⟨bd, 0, none⟩), .int .i64 k, .bool done] w fun e w' => e = .returned (.int .i64 (failR D k done).2) ∧ Runs w0 w' bd (failR D k done).1 (n + 1) b := by
  obtain ⟨O, M, h1, h2, h3, h4⟩ := h
  exact (Fail_calls h1 k done).mono fun e w' ⟨he, hL⟩ => ⟨he, Runs.leaves h1 h3 h4 hL (failR_inv h2 k done hk)⟩
theorem Crash_run (hA : Amb w0) (h : Runs w0 w bd D n b) (hn : n ≤ 100000) (hb : b ≤ 16777216) (count : Int) (hc0 : -9223372036854775808 ≤ count) (hc1 : count ≤ 9223372036854775807) (v : Value) (keep : List UInt8)
    (hv : ∀ M : Nat → Prop, (∀ k, M k → w0.heap.size ≤ k) → (∀ k, M k → k < w.heap.size) → (∃ O, DiskIs w bd O M D) → BytesAt w M v keep) :
    Calls Tryd.prog 14 #[.pointer (some ⟨bd, 0, none⟩), .int .i64 count, v] w fun e w' => e = .returned (.tuple #[]) ∧ Runs w0 w' bd (crashR D count keep) n b := by
  obtain ⟨O, M, h1, h2, h3, h4⟩ := h
  have hMx : ¬ M 0 := fun q => by
    obtain ⟨m, hm⟩ := hA
    have a := World.block_lt_of_cell? _ _ hm
    have c := h4 _ q
    simp only at a
    omega
  exact (Crash_calls h1 (h2.fine hn hb) count ((crashN_inv h2 count).fine hn hb) (hA.below h3) hMx hc0 hc1 v keep (hv M h4 h1.mlt ⟨O, h1⟩)).mono fun e w' ⟨he, hL⟩ => ⟨he, Runs.leaves h1 h3 h4 hL (crashR_inv h2 count keep)⟩
theorem Down_run (h : Runs w0 w bd D n b) : Calls Tryd.prog 12 #[.pointer (some ⟨bd, 0, none⟩)] w fun e w' => e = .returned (.bool D.down) ∧ w' = w := by
  obtain ⟨O, M, h1, h2, h3, h4⟩ := h
  exact Down_calls h1
theorem Safe_run (h : Runs w0 w bd D n b) (hn : n ≤ 100000) (hb : b ≤ 16777216) (p : ByteArray) :
    Calls Tryd.prog 11 #[.pointer (some ⟨bd, 0, none⟩), .string p] w fun e w' => e = .returned (.int .i64 (safeR D p : Nat)) ∧ Runs w0 w' bd D n b ∧ Below w.heap.size w w' := by
  obtain ⟨O, M, h1, h2, h3, h4⟩ := h
  exact (Safe_calls h1 (h2.fine hn hb) p).mono fun e w' ⟨he, hB⟩ => ⟨he, Runs.below ⟨O, M, h1, h2, h3, h4⟩ hB, hB⟩
theorem Read_run (h : Runs w0 w bd D n b) (hn : n ≤ 100000) (hb : b ≤ 16777216) (p : ByteArray) :
    Calls Tryd.prog 15 #[.pointer (some ⟨bd, 0, none⟩), .string p] w fun e w' => ∃ v, e = .returned (.tuple #[v, .int .i64 (readE D p)]) ∧ w'.ownsRow w.heap.size 5 1 v (readB D p).length ((readB D p).map b8) ∧ Runs w0 w' bd D n b ∧ Below w.heap.size w w' := by
  obtain ⟨O, M, h1, h2, h3, h4⟩ := h
  exact (Read_calls h1 (h2.fine hn hb) p).mono fun e w' ⟨v, he, hr, hB⟩ => ⟨v, he, hr, Runs.below ⟨O, M, h1, h2, h3, h4⟩ hB, hB⟩
end
end Go.Proofs.YtihojcjijbidpaaDoor
