/- New. -/
import Derived.Test.YtihojcjijbidpaaDoorD24
import Derived.Carry
namespace Go.Proofs.YtihojcjijbidpaaDoor
open Go.RowKit Go.Shelf Go.Sort

def newD (c : Int) : PD := ⟨(max 0 (min c 16777216)).toNat, [], [], [], [], false, 0, -1, false, -1⟩
theorem newD_fine (c : Int) : (newD c).Fine := by
  constructor
  case cap => show (max 0 (min c 16777216)).toNat ≤ 16777216; omega
  all_goals first | (intro p hp; exact absurd hp List.not_mem_nil) | (simp [newD])

theorem heap_new (w : World) (o : Obj) : (w.alloc o).heap[w.heap.size]? = some o := Array.getElem?_push_size

set_option maxHeartbeats 1000000 in
theorem New_calls (c : Int) (w : World) (M : Nat → Prop) (hM : ∀ k, M k → k < w.heap.size) :
    Calls Tryd.prog 5 #[.int .i64 c] w fun e w' => ∃ bd O M', e = .returned (.pointer (some ⟨bd, 0, none⟩)) ∧ DiskIs w' bd O M' (newD c) ∧ Goes (fun _ => False) M M' w w' ∧ (∀ k, O k → w.heap.size ≤ k) := by
  obtain ⟨k, hk⟩ : ∃ k : Nat, k = (max 0 (min c 16777216)).toNat := ⟨_, rfl⟩
  have e1 : max 0 (min c 16777216) = (k : Int) := by omega
  have HK := Lib.hid hk
  obtain ⟨W1, hW1⟩ : ∃ W1, W1 = (w.alloc (.map #[] 0)).alloc (.map #[] 0) := ⟨_, rfl⟩
  have hs1 : W1.heap.size = w.heap.size + 1 + 1 := by rw [hW1]; simp
  have m0 : W1.heap[w.heap.size]? = some (.map #[] 0) := by rw [hW1]; exact (Below.heap_alloc _ _ _ (by simp)).trans (heap_new _ _)
  have m1 : W1.heap[w.heap.size + 1]? = some (.map #[] 0) := by rw [hW1]; have := heap_new (w.alloc (.map #[] 0)) (.map #[] 0); rw [World.size_alloc] at this; exact this
  have fin : DiskAt (W1.alloc (.cells (diskCells (newD c) w.heap.size (w.heap.size + 1) (.slice none 0 0) (.slice none 0 0)) 46)) (w.heap.size + 1 + 1) w.heap.size (w.heap.size + 1) (.slice none 0 0) (.slice none 0 0) (newD c) (fun k => M k ∨ k = w.heap.size + 1 ∨ k = w.heap.size + 1 + 1) := by
    refine ⟨by rw [← hs1]; exact heap_new _ _, ⟨#[], 0, (Below.heap_alloc _ _ _ (by omega)).trans m0, rfl, by constructor <;> simp, by simp [newD]⟩, ?_, ⟨#[], 0, (Below.heap_alloc _ _ _ (by omega)).trans m1, rfl, by constructor <;> simp, by simp [newD]⟩, .inr (.inl rfl), by omega, .inr (.inr rfl), .inl ⟨rfl, rfl⟩, ⟨[], World.ownsRow_nil _ _ _ _, rfl, fun i hi => by simp [newD] at hi⟩, fun g q => by simp [Value.ownBlock] at q, ?_⟩
    · rintro (q | q | q)
      · have := hM _ q; omega
      · omega
      · omega
    · rintro k (q | q | q)
      · have := hM _ q; simp [hs1]; omega
      · simp [hs1]; omega
      · simp [hs1]; omega
  have hg : Goes (fun _ => False) M (fun k => M k ∨ k = w.heap.size + 1 ∨ k = w.heap.size + 1 + 1) w (W1.alloc (.cells (diskCells (newD c) w.heap.size (w.heap.size + 1) (.slice none 0 0) (.slice none 0 0)) 46)) := by
    have hb : Below w.heap.size w (W1.alloc (.cells (diskCells (newD c) w.heap.size (w.heap.size + 1) (.slice none 0 0) (.slice none 0 0)) 46)) := by
      rw [hW1]; exact (((Below.refl _ _).alloc (Nat.le_refl _) _).alloc (by simp) _).alloc (by simp; omega) _
    refine ⟨hb.os, hb.tape, hb.output, hb.size, fun k hk _ => hb.block k hk, fun k q => ?_, fun k q => .inl q⟩
    rcases q with q | q | q
    · exact .inl q
    · exact .inr ⟨by omega, by simp [hs1]; omega⟩
    · exact .inr ⟨by omega, by simp [hs1]; omega⟩
  have hc : diskCells (newD c) w.heap.size (w.heap.size + 1) (.slice none 0 0) (.slice none 0 0) = #[.int .i64 k, .map (some w.heap.size), .map (some (w.heap.size + 1)), .slice none 0 0, .slice none 0 0, .bool false, .int .i64 0, .int .i64 (-1), .bool false, .int .i64 (-1)] := by
    rw [hk]; rfl
  have HC := Lib.hid hc
  have HO : Hid (∀ k, Own (w.heap.size + 1 + 1) (w.heap.size + 1) (.slice none 0 0) k → w.heap.size ≤ k) := by
    rintro k (q | q | q)
    · omega
    · omega
    · simp [Value.ownBlock] at q
  have FIN := Lib.hid fin
  have HG := Lib.hid hg
  have HW1 := Lib.hid hW1
  clear fin hg hc hW1 m0 m1 hs1 hk hM
  go_enter Tryd.func5, Tryd.ntmps5
  go_wp2
  rw [run_makeMap]
  simp only [Result.andThen_ok]
  go_wp2
  rw [run_makeMap]
  simp only [Result.andThen_ok]
  go_wp2
  go_ret
  have f := FIN.out
  have g := HG.out
  rw [HC.out, HW1.out] at f g
  exact ⟨_, _, _, rfl, ⟨_, _, _, _, f, fun _ => Iff.rfl⟩, g, HO.out⟩
end Go.Proofs.YtihojcjijbidpaaDoor
