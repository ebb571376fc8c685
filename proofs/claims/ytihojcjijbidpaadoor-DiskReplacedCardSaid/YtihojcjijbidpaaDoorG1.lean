/- Two disks side by side (a disk and its fork). -/
import Derived.Test.YtihojcjijbidpaaDoorG0
namespace Go.Proofs.YtihojcjijbidpaaDoor
open Go.RowKit Go.Shelf Go.Sort

def Two (K : Nat → Prop) (w0 w : World) (bd : Nat) (D : PD) (bd2 : Nat) (D2 : PD) (n b : Nat) : Prop :=
  ∃ O O2 M, DiskIs w bd O M D ∧ DiskIs w bd2 O2 M D2 ∧ (∀ k, O k → ¬ O2 k) ∧ D.Inv n b ∧ D2.Inv n b ∧ Below w0.heap.size w0 w ∧ (∀ k, M k → w0.heap.size ≤ k) ∧ ∀ k, K k → k < w.heap.size ∧ ¬ M k

section
variable {K : Nat → Prop} {w0 w : World} {bd bd2 : Nat} {D D2 : PD} {n b : Nat}
theorem Two.symm (h : Two K w0 w bd D bd2 D2 n b) : Two K w0 w bd2 D2 bd D n b := by
  obtain ⟨O, O2, M, h1, h2, h3, h4, h5, h6, h7, h8⟩ := h
  exact ⟨O2, O, M, h2, h1, fun k q q' => h3 k q' q, h5, h4, h6, h7, h8⟩
theorem Two.one (h : Two K w0 w bd D bd2 D2 n b) : Runs w0 w bd D n b := by
  obtain ⟨O, O2, M, h1, h2, h3, h4, h5, h6, h7, h8⟩ := h
  exact ⟨O, M, h1, h4, h6, h7⟩
theorem Two.below {w' : World} (h : Two K w0 w bd D bd2 D2 n b) (hb : Below w.heap.size w w') : Two K w0 w' bd D bd2 D2 n b := by
  obtain ⟨O, O2, M, h1, h2, h3, h4, h5, h6, h7, h8⟩ := h
  exact ⟨O, O2, M, h1.below hb, h2.below hb, h3, h4, h5, h6.trans (hb.mono h6.size), h7, fun k q => ⟨Nat.lt_of_lt_of_le (h8 k q).1 hb.size, (h8 k q).2⟩⟩
theorem Two.leaves {O O2 M : Nat → Prop} {D' : PD} {n' b' : Nat} {w' : World} (h1 : DiskIs w bd O M D) (h2 : DiskIs w bd2 O2 M D2) (h3 : ∀ k, O k → ¬ O2 k) (h5 : D2.Inv n' b') (h6 : Below w0.heap.size w0 w) (h7 : ∀ k, M k → w0.heap.size ≤ k) (h8 : ∀ k, K k → k < w.heap.size ∧ ¬ M k)
    (hL : Leaves w bd O M D' w') (hI : D'.Inv n' b') : Two K w0 w' bd D' bd2 D2 n' b' ∧ ∀ k, K k → w'.heap[k]? = w.heap[k]? := by
  obtain ⟨O', M', g1, g2⟩ := hL
  refine ⟨⟨O', O2, M', g1, h2.goes g2.goes h1.ownM (fun k q q' => h3 k q' q), fun k q q2 => ?_, hI, h5, ?_, ?_, fun k q => ⟨Nat.lt_of_lt_of_le (h8 k q).1 g2.goes.size, fun q2 => (h8 k q).2 (g2.goes.old k (h8 k q).1 q2)⟩⟩, fun k q => g2.goes.block k (h8 k q).1 (fun q2 => (h8 k q).2 (h1.ownM k q2))⟩
  · have hk := h2.mlt k (h2.ownM k q2)
    exact h3 k (g2.own k hk q) q2
  · refine ⟨g2.goes.os.trans h6.os, g2.goes.tape.trans h6.tape, g2.goes.output.trans h6.output, Nat.le_trans h6.size g2.goes.size, fun k hk => ?_⟩
    exact (g2.goes.block k (Nat.lt_of_lt_of_le hk h6.size) (fun q => by have := h7 k (h1.ownM k q); omega)).trans (h6.block k hk)
  · intro k q
    rcases g2.goes.back k q with q | q
    · exact h7 k q
    · exact Nat.le_trans h6.size q.1

theorem Two.more {w' : World} (h : Two K w0 w bd D bd2 D2 n b) (hb : Below w.heap.size w w') : Two (fun k => K k ∨ (w.heap.size ≤ k ∧ k < w'.heap.size)) w0 w' bd D bd2 D2 n b := by
  obtain ⟨O, O2, M, h1, h2, h3, h4, h5, h6, h7, h8⟩ := h
  refine ⟨O, O2, M, h1.below hb, h2.below hb, h3, h4, h5, h6.trans (hb.mono h6.size), h7, fun k q => ?_⟩
  rcases q with q | q
  · exact ⟨Nat.lt_of_lt_of_le (h8 k q).1 hb.size, (h8 k q).2⟩
  · exact ⟨q.2, fun q2 => by have := h1.mlt k q2; omega⟩
theorem Fork_run (h : Runs w0 w bd D n b) (hn : n ≤ 100000) (hb : b ≤ 16777216) :
    Calls Tryd.prog 16 #[.pointer (some ⟨bd, 0, none⟩)] w fun e w' => ∃ bd2, e = .returned (.pointer (some ⟨bd2, 0, none⟩)) ∧ Two (fun _ => False) w0 w' bd D bd2 D n b := by
  obtain ⟨O, M, h1, h2, h3, h4⟩ := h
  refine (Fork_calls h1 (h2.fine hn hb)).mono fun e w' ⟨bd2, O2, M', he, g1, g2, g3, g4⟩ => ⟨bd2, he, O, O2, M', g2, g1, fun k q q2 => ?_, h2, h2, h3.trans ((g3.below (fun _ _ q => q) (Nat.le_refl _)).mono h3.size), fun k q => ?_, fun _ q => q.elim⟩
  · have a := h1.mlt k (h1.ownM k q)
    have c := g4 k q2
    omega
  · rcases g3.back k q with q | q
    · exact h4 k q
    · exact Nat.le_trans h3.size q.1
theorem SyncDirs_two (h : Two K w0 w bd D bd2 D2 n b) (hn : n ≤ 100000) (hb : b ≤ 16777216) :
    Calls Tryd.prog 9 #[.pointer (some ⟨bd, 0, none⟩)] w fun e w' => e = .returned (.int .i64 (syncDirsR D).2) ∧ Two K w0 w' bd (syncDirsR D).1 bd2 D2 (n + 1) b ∧ ∀ k, K k → w'.heap[k]? = w.heap[k]? := by
  obtain ⟨O, O2, M, h1, h2, h3, h4, h5, h6, h7, h8⟩ := h
  exact (SyncDirs_calls h1 (h4.fine hn hb)).mono fun e w' ⟨he, hL⟩ => ⟨he, Two.leaves h1 h2 h3 (h5.mono (by omega) (Nat.le_refl _)) h6 h7 h8 hL (syncDirsR_inv h4)⟩
theorem Create_two (hA : Amb w0) (h : Two K w0 w bd D bd2 D2 n b) (hn : n ≤ 100000) (hb : b ≤ 16777216) (p : ByteArray) (hs : p.size ≤ 1000000) :
    Calls Tryd.prog 6 #[.pointer (some ⟨bd, 0, none⟩), .string p] w fun e w' => e = .returned (.int .i64 (putR D p false).2) ∧ Two K w0 w' bd (putR D p false).1 bd2 D2 (n + 1) b ∧ ∀ k, K k → w'.heap[k]? = w.heap[k]? := by
  obtain ⟨O, O2, M, h1, h2, h3, h4, h5, h6, h7, h8⟩ := h
  exact (Create_calls h1 (h4.fine hn hb) (hA.below h6) p hs).mono fun e w' ⟨he, hL⟩ => ⟨he, Two.leaves h1 h2 h3 (h5.mono (by omega) (Nat.le_refl _)) h6 h7 h8 hL (putR_inv h4 p false)⟩
theorem Crash_two (hA : Amb w0) (h : Two K w0 w bd D bd2 D2 n b) (hn : n ≤ 100000) (hb : b ≤ 16777216) (count : Int) (hc0 : -9223372036854775808 ≤ count) (hc1 : count ≤ 9223372036854775807) (v : Value) (keep : List UInt8)
    (hv : ∀ M : Nat → Prop, (∀ k, M k → w0.heap.size ≤ k) → (∀ k, M k → k < w.heap.size) → (∃ O, DiskIs w bd O M D) → BytesAt w M v keep) :
    Calls Tryd.prog 14 #[.pointer (some ⟨bd, 0, none⟩), .int .i64 count, v] w fun e w' => e = .returned (.tuple #[]) ∧ Two K w0 w' bd (crashR D count keep) bd2 D2 n b ∧ ∀ k, K k → w'.heap[k]? = w.heap[k]? := by
  obtain ⟨O, O2, M, h1, h2, h3, h4, h5, h6, h7, h8⟩ := h
  have hMx : ¬ M 0 := fun q => by
    obtain ⟨m, hm⟩ := hA
    have a := World.block_lt_of_cell? _ _ hm
    have c := h7 _ q
    simp only at a
    omega
  exact (Crash_calls h1 (h4.fine hn hb) count ((crashN_inv h4 count).fine hn hb) (hA.below h6) hMx hc0 hc1 v keep (hv M h7 h1.mlt ⟨O, h1⟩)).mono fun e w' ⟨he, hL⟩ => ⟨he, Two.leaves h1 h2 h3 h5 h6 h7 h8 hL (crashR_inv h4 count keep)⟩
theorem List_run (hA : Amb w0) (h : Runs w0 w bd D n b) (hn : n ≤ 100000) (hb : b ≤ 16777216) :
    Calls Tryd.prog 17 #[.pointer (some ⟨bd, 0, none⟩)] w fun e w' => ∃ v cs, e = .returned v ∧ w'.ownsRow w.heap.size 73 3 v (listB D).length cs ∧ EntriesAt w' w.heap.size (listB D) cs ∧ Below w.heap.size w w' := by
  obtain ⟨O, M, h1, h2, h3, h4⟩ := h
  exact List_calls h1 (h2.fine hn hb) (hA.below h3)
end
end Go.Proofs.YtihojcjijbidpaaDoor
