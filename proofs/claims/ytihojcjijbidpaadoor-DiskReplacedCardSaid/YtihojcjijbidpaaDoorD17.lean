/- Append. -/
import Derived.Test.YtihojcjijbidpaaDoorD16
namespace Go.Proofs.YtihojcjijbidpaaDoor
open Go.RowKit Go.Shelf Go.Sort

set_option maxHeartbeats 2000000 in
theorem Append_calls {w : World} {bd : Nat} {O M : Nat → Prop} {D : PD} (h : DiskIs w bd O M D) (hF : D.Fine) (hA : Amb w) (p : ByteArray) (hs : p.size ≤ 1000000) (v : Value) (b : List UInt8) (hv : BytesAt w M v b) :
    Calls Tryd.prog 7 #[.pointer (some ⟨bd, 0, none⟩), .string p, v] w fun e w' => e = .returned (.int .i64 (appendR D p b).2) ∧ Leaves w bd O M (appendR D p b).1 w' := by
  obtain ⟨bs, bn, vl, vf, hd, hO⟩ := h
  obtain ⟨a2, c2, hv2⟩ := hv.slice
  obtain ⟨W0, hW0⟩ : ∃ W0, W0 = w.alloc (.cells #[.pointer (some ⟨bd, 0, none⟩)] 25) := ⟨_, rfl⟩
  obtain ⟨W1, hW1⟩ : ∃ W1, W1 = W0.alloc (.cells #[v] 22) := ⟨_, rfl⟩
  have hb0 : Below w.heap.size w W0 := by rw [hW0]; exact (Below.refl _ _).alloc (Nat.le_refl _) _
  have s0 : W0.heap.size = w.heap.size + 1 := by rw [hW0]; simp
  have hb1 : Below w.heap.size w W1 := by rw [hW1]; exact hb0.alloc hb0.size _
  have s1 : W1.heap.size = w.heap.size + 2 := by rw [hW1]; simp [s0]
  have x0 : W1.cell? ⟨w.heap.size, 0, none⟩ = some (.pointer (some ⟨bd, 0, none⟩)) := by
    rw [hW1, World.cell?_alloc_lt _ _ _ (by simp [s0]), hW0, World.cell?_alloc_new]; rfl
  have x1 : W1.cell? ⟨w.heap.size + 1, 0, none⟩ = some v := by
    rw [hW1, ← s0, World.cell?_alloc_new]; rfl
  have hd1 : DiskAt W1 bd bs bn vl vf D M := hd.goes (Goes.of_below hb1 (fun _ => False) M) (fun _ q => q.elim) (fun _ _ q => q)
  have hv1 : BytesAt W1 M v b := hv.goes (Goes.of_below hb1 (fun _ => False) M) (fun _ q => q.elim)
  have hno0 : ¬ Own bd bn vf w.heap.size := fun q => by have := hd.ownLt _ q; omega
  have hno1 : ¬ Own bd bn vf (w.heap.size + 1) := fun q => by have := hd.ownLt _ q; omega
  have l0 : w.heap.size < W1.heap.size := by omega
  have l1 : w.heap.size + 1 < W1.heap.size := by omega
  have hW := with_calls hd1 hF (hA.below hb1) p hs 20 22 #[.pointer (some ⟨w.heap.size + 1, 0, none⟩), .pointer (some ⟨w.heap.size, 0, none⟩)] #[.pointer (some ⟨w.heap.size + 1, 0, none⟩)] (enters_of Tryd.func20 (by kernel_rfl) rfl) (enters_of Tryd.func22 (by kernel_rfl) rfl)
    (appendE D b.length) ((stepD D).setFile p ⟨(fileOf D p).b ++ b, (fileOf D p).safe⟩) (fun _ => True)
    (fun id g cap vb W hl hfa hD hB => by
      refine Append1_calls hD hF _ (w.heap.size + 1) w.heap.size b.length c2 a2 ?_ ((hB.cell (p := ⟨w.heap.size, 0, none⟩) l0).trans x0)
      rw [← hv2]
      exact (hB.cell (p := ⟨w.heap.size + 1, 0, none⟩) l1).trans x1)
    (fun hz id g cap vb W hl hfa hD hG => by
      have hfa2 := hfa.step
      obtain ⟨av, cv, hvb⟩ := hfa.bytes.slice
      have hid : fileId D p = id := by simp [fileId, hl]
      have hfo : fileOf D p = D.files.getD id ⟨[], 0⟩ := by unfold fileOf; rw [hid]
      rw [hfo]
      have hmem : D.files.getD id ⟨[], 0⟩ ∈ D.files := by rw [← List.getElem_eq_getD (h := hfa.lt)]; exact List.getElem_mem _
      have hlen := (hF.bytes _ hmem).1
      have hcapb := hF.cap
      have hbl : b.length ≤ 16777216 := by
        unfold appendE at hz
        split at hz
        · cases hz
        · omega
      have hgM := hd1.filesM g (by rw [hfa.slice]; rfl)
      have hgl := hd.mlt g hgM.1
      have hcb := hfa.cellB
      rw [hvb] at hcb
      have hbx : W.cell? ⟨w.heap.size + 1, 0, none⟩ = some (.slice a2 b.length c2) := by rw [← hv2]; exact (hG.cell (a := ⟨w.heap.size + 1, 0, none⟩) l1 hno1).trans x1
      have hby := hfa.bytes
      rw [hvb] at hby
      have hvW : BytesAt W M (.slice a2 b.length c2) b := by rw [← hv2]; exact hv1.goes hG (fun k q => hd1.ownM k q)
      refine (Append2_calls g id _ cv (w.heap.size + 1) b.length c2 av a2 _ b W hcb hbx hfa.free hby hvW (by omega) (by omega)).mono ?_
      rintro e w' ⟨he, w2, v2, hb2, hr2, rfl⟩
      refine ⟨he, ?_⟩
      have s1 := hD.fileB (v := v2) (l := (D.files.getD id ⟨[], 0⟩).b ++ b) hfa2 hb2 (bytesAt_of_row hr2 (fun k q => hD.mlt k q))
      unfold PD.setFile
      rw [show fileId (stepD D) p = id by unfold fileId; rw [stepD_now]; simp [hl]]
      rw [stepD_files] at s1 ⊢
      exact s1)
  have HW : Calls _ _ _ _ (fun e w' => e = .returned (.int .i64 (appendR D p b).2) ∧ Leaves w bd O M (appendR D p b).1 w') := hW.mono fun e w' ⟨he, h1, h2⟩ => ⟨he, leaves_of_at hO h1 ((Goes.of_below hb1 _ _).trans h2 (fun _ _ q => q))⟩
  have HS : Hid (w.heap.size + 1 = W0.heap.size) := s0.symm
  clear hW hd hd1 hO hF hA hv hv1 hb0 hb1 hno0 hno1
  have HW0 := Lib.hid hW0
  have HW1 := Lib.hid hW1
  have X0 := Lib.hid x0
  have L0 := Lib.hid l0
  clear hW0 hW1 x0 x1 l0 l1 s0 s1
  subst hv2
  go_enter Tryd.func7, Tryd.ntmps7
  go_wp2_with fail
  rw [← HW0.out, ← HW1.out]
  have x0 := X0.out
  have l0 := L0.out
  go_wp2_with fail
  first | rw [← HS.out] | skip
  refine HW.mono ?_
  rintro e w' ⟨rfl, hL⟩
  have HL := Lib.hid hL
  clear hL HW
  go_wp2
  go_ret
  exact ⟨rfl, HL.out⟩
end Go.Proofs.YtihojcjijbidpaaDoor
