/- The closures of Rename and Remove. -/
import Derived.Test.YtihojcjijbidpaaDoorD20
namespace Go.Proofs.YtihojcjijbidpaaDoor
open Go.RowKit Go.Shelf Go.Sort

def PD.changed (D : PD) (c : Change) : PD := { D with now := applyM D.now c, loose := D.loose ++ [c] }

theorem change_gone {W : World} {M : Nat → Prop} (hM : ∀ k, M k → k < W.heap.size) (p : ByteArray) :
    ChangeAt ((W.alloc (.cells #[.string p] 9)).alloc (.cells #[.pointer none] 66)) M (.slice (some ⟨W.heap.size, 0, none⟩) 1 1) (.slice (some ⟨W.heap.size + 1, 0, none⟩) 1 1) [(p, none)] := by
  have e1 : ((W.alloc (.cells #[.string p] 9)).alloc (.cells #[.pointer none] 66)).heap.size = W.heap.size + 2 := by simp
  refine ⟨W.heap.size, W.heap.size + 1, 1, 1, rfl, rfl, by simp, by simp, by omega, by omega, (fun q => by have := hM _ q; omega), (fun q => by have := hM _ q; omega), fun i hi => ?_⟩
  obtain rfl : i = 0 := by simpa using hi
  refine ⟨?_, .pointer none, ?_, rfl⟩
  · rw [World.cell?_alloc_lt _ _ _ (by simp), World.cell?_alloc_new]; rfl
  · have := World.cell?_alloc_new (W.alloc (.cells #[.string p] 9)) #[.pointer none] 66 0
    rw [World.size_alloc] at this
    rw [this]; rfl

theorem change_two {W : World} {M : Nat → Prop} (hM : ∀ k, M k → k < W.heap.size) (a b : ByteArray) (x : Nd) (bx : Nat) (hb : bx < W.heap.size) (hx : ¬ M bx) (h0 : W.cell? ⟨bx, 0, none⟩ = some (.bool x.dir)) (h1 : W.cell? ⟨bx, 1, none⟩ = some (.int .i64 x.id)) :
    ChangeAt ((W.alloc (.cells #[.string a, .string b] 9)).alloc (.cells #[.pointer none, .pointer (some ⟨bx, 0, none⟩)] 66)) M (.slice (some ⟨W.heap.size, 0, none⟩) 2 2) (.slice (some ⟨W.heap.size + 1, 0, none⟩) 2 2) [(a, none), (b, some x)] := by
  obtain ⟨W1, hW1⟩ : ∃ W1, W1 = W.alloc (.cells #[.string a, .string b] 9) := ⟨_, rfl⟩
  have s1 : W1.heap.size = W.heap.size + 1 := by rw [hW1]; simp
  rw [← hW1]
  obtain ⟨W2, hW2⟩ : ∃ W2, W2 = W1.alloc (.cells #[.pointer none, .pointer (some ⟨bx, 0, none⟩)] 66) := ⟨_, rfl⟩
  have s2 : W2.heap.size = W.heap.size + 2 := by rw [hW2]; simp [s1]
  rw [← hW2]
  have c0 : ∀ i, W2.cell? ⟨bx, i, none⟩ = W.cell? ⟨bx, i, none⟩ := fun i => by
    rw [hW2, World.cell?_alloc_lt _ _ _ (by simp [s1]; omega), hW1, World.cell?_alloc_lt _ _ _ hb]
  have cs : ∀ i, W2.cell? ⟨W.heap.size, i, none⟩ = (#[.string a, .string b] : Array Value)[i]? := fun i => by
    rw [hW2, World.cell?_alloc_lt _ _ _ (by simp [s1]), hW1, World.cell?_alloc_new]
  have cn : ∀ i, W2.cell? ⟨W.heap.size + 1, i, none⟩ = (#[.pointer none, .pointer (some ⟨bx, 0, none⟩)] : Array Value)[i]? := fun i => by
    rw [hW2, ← s1, World.cell?_alloc_new]
  refine ⟨W.heap.size, W.heap.size + 1, 2, 2, rfl, rfl, by simp, by simp, by omega, by omega, (fun q => by have := hM _ q; omega), (fun q => by have := hM _ q; omega), fun i hi => ?_⟩
  have hi2 : i = 0 ∨ i = 1 := by simp at hi; omega
  rcases hi2 with rfl | rfl
  · exact ⟨(cs 0).trans rfl, .pointer none, (cn 0).trans rfl, rfl⟩
  · exact ⟨(cs 1).trans rfl, .pointer (some ⟨bx, 0, none⟩), (cn 1).trans rfl, bx, rfl, by omega, hx, (c0 0).trans h0, (c0 1).trans h1⟩

section
variable {w : World} {bd bs bn : Nat} {vl vf : Value} {D : PD} {M : Nat → Prop}
set_option maxHeartbeats 1000000 in
theorem Rename1_calls (h : DiskAt w bd bs bn vl vf D M) (hll : D.loose.length ≤ 1000000) (a b : ByteArray) (x : Nd) (b1 b2 b3 b4 : Nat) (h1 : w.cell? ⟨b1, 0, none⟩ = some (.pointer (some ⟨bd, 0, none⟩))) (h2 : w.cell? ⟨b2, 0, none⟩ = some (.string a)) (h3 : w.cell? ⟨b3, 0, none⟩ = some (.string b))
    (h4 : w.cell? ⟨b4, 0, none⟩ = some (.bool x.dir)) (h5 : w.cell? ⟨b4, 1, none⟩ = some (.int .i64 x.id)) (hM : ¬ M b4) :
    Calls Tryd.prog 32 #[.pointer (some ⟨b1, 0, none⟩), .pointer (some ⟨b2, 0, none⟩), .pointer (some ⟨b3, 0, none⟩), .pointer (some ⟨b4, 0, none⟩)] w fun e w' => e = .returned (.tuple #[]) ∧
      ∃ vl', DiskAt w' bd bs bn vl' vf (D.changed [(a, none), (b, some x)]) M ∧ Goes (Own bd bn vf) M M w w' := by
  have l1 := World.block_lt_of_cell? _ _ h1
  have l2 := World.block_lt_of_cell? _ _ h2
  have l3 := World.block_lt_of_cell? _ _ h3
  have l4 := World.block_lt_of_cell? _ _ h4
  have hg : ∀ o1 o2 : Obj, Goes (fun _ => False) M M w ((w.alloc o1).alloc o2) := fun o1 o2 => Goes.of_below (((Below.refl _ w).alloc (Nat.le_refl _) _).alloc (by simp) _) _ _
  have hR := rename_calls (w := (w.alloc (.cells #[.string a, .string b] 9)).alloc (.cells #[.pointer none, .pointer (some ⟨b4, 0, none⟩)] 66))
    (h.goes (hg _ _) (fun _ q => q.elim) (fun _ _ q => q)) (vp := .slice (some ⟨w.heap.size, 0, none⟩) 2 2) (vn := .slice (some ⟨w.heap.size + 1, 0, none⟩) 2 2) (change_two (W := w) h.mlt a b x b4 l4 hM h4 h5) (by simp) hll
  have HG := Lib.hid (hg (.cells #[.string a, .string b] 9) (.cells #[.pointer none, .pointer (some ⟨b4, 0, none⟩)] 66))
  clear hg h h4 h5 hM
  go_enter Tryd.func32, Tryd.ntmps32
  go_wp2_with fail
  refine hR.mono ?_
  rintro e w1 ⟨rfl, vl', hD, hG⟩
  have HD := Lib.hid hD
  have HG2 := Lib.hid hG
  clear hD hG
  go_wp2
  go_end0
  exact ⟨rfl, vl', HD.out, HG.out.quietly HG2.out⟩
end
end Go.Proofs.YtihojcjijbidpaaDoor
