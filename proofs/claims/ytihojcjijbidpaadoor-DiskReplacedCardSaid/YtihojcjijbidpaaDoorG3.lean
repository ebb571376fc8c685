/- The walk of awake. -/
import Derived.Test.YtihojcjijbidpaaDoorG2
namespace Go.Proofs.YtihojcjijbidpaaDoor
open Go.RowKit Go.Shelf Go.Sort

theorem Append_run2 {w0 w w2 : World} {bd : Nat} {D : PD} {n b : Nat} (hA : Amb w0) (h : Runs w0 w bd D n b) (hB : Below w.heap.size w w2) (hn : n ≤ 100000) (hb : b ≤ 16777216) (p : ByteArray) (hs : p.size ≤ 1000000) (v : Value) (l : List UInt8)
    (hv : ∀ M : Nat → Prop, (∀ k, M k → w0.heap.size ≤ k) → (∀ k, M k → k < w.heap.size) → BytesAt w2 M v l) :
    Calls Tryd.prog 7 #[.pointer (some ⟨bd, 0, none⟩), .string p, v] w2 fun e w' => e = .returned (.int .i64 (appendR D p l).2) ∧ Runs w0 w' bd (appendR D p l).1 (n + 1) (b + l.length) := by
  obtain ⟨O, M, h1, h2, h3, h4⟩ := h
  have h3' := h3.trans (hB.mono h3.size)
  exact (Append_calls (h1.below hB) (h2.fine hn hb) (hA.below h3') p hs v l (hv M h4 h1.mlt)).mono fun e w' ⟨he, hL⟩ => ⟨he, Runs.leaves (h1.below hB) h3' h4 hL (appendR_inv h2 p l)⟩
theorem Crash_run2 {w0 w w2 : World} {bd : Nat} {D : PD} {n b : Nat} (hA : Amb w0) (h : Runs w0 w bd D n b) (hB : Below w.heap.size w w2) (hn : n ≤ 100000) (hb : b ≤ 16777216) (count : Int) (hc0 : -9223372036854775808 ≤ count) (hc1 : count ≤ 9223372036854775807) (v : Value) (keep : List UInt8)
    (hv : ∀ M : Nat → Prop, (∀ k, M k → w0.heap.size ≤ k) → (∀ k, M k → k < w.heap.size) → BytesAt w2 M v keep) :
    Calls Tryd.prog 14 #[.pointer (some ⟨bd, 0, none⟩), .int .i64 count, v] w2 fun e w' => e = .returned (.tuple #[]) ∧ Runs w0 w' bd (crashR D count keep) n b := by
  obtain ⟨O, M, h1, h2, h3, h4⟩ := h
  have h3' := h3.trans (hB.mono h3.size)
  have hMx : ¬ M 0 := fun q => by
    obtain ⟨m, hm⟩ := hA
    have a := World.block_lt_of_cell? _ _ hm
    have c := h4 _ q
    simp only at a
    omega
  exact (Crash_calls (h1.below hB) (h2.fine hn hb) count ((crashN_inv h2 count).fine hn hb) (hA.below h3') hMx hc0 hc1 v keep (hv M h4 h1.mlt)).mono fun e w' ⟨he, hL⟩ => ⟨he, Runs.leaves (h1.below hB) h3' h4 hL (crashR_inv h2 count keep)⟩

theorem lit_bytes {w : World} {M : Nat → Prop} (hM : ∀ k, M k → k < w.heap.size) (x y : UInt8) (fr : Nat × Nat) : BytesAt (w.alloc (.cells #[b8 x, b8 y] 5 fr)) M (.slice (some ⟨w.heap.size, 0, none⟩) 2 2) [x, y] := by
  refine .inr ⟨w.heap.size, 0, 2, rfl, Nat.le_refl _, by simp, fun q => by have := hM _ q; omega, fun i hi => ?_⟩
  have hi2 : i = 0 ∨ i = 1 := by simp at hi; omega
  have h := heap_new w (.cells #[b8 x, b8 y] 5 fr)
  rcases hi2 with rfl | rfl
  · simp only [World.cell?, h]; rfl
  · simp only [World.cell?, h]; rfl
theorem heap_freeze {w : World} {c : Array Value} {ty : TypeId} {i n : Nat} (hn : n ≠ 0) : (w.alloc (.cells c ty)).freeze ⟨w.heap.size, i, none⟩ n = w.alloc (.cells c ty (i, i + n)) := by
  unfold World.freeze
  rw [if_neg hn]
  show World.mk _ _ _ _ _ = World.mk _ _ _ _ _
  congr 1
  apply Array.ext_getElem?
  intro k
  rw [Array.getElem?_modify]
  show _ = (w.heap.push _)[k]?
  show (if w.heap.size = k then Option.map _ (w.heap.push _)[k]? else (w.heap.push _)[k]?) = _
  simp only [Array.getElem?_push]
  by_cases e : k = w.heap.size
  · subst e; simp
  · rw [if_neg (fun h => e h.symm), if_neg e, if_neg e]
theorem conv_lit (w : World) (c : Array Value) (n m : Nat) : (convert 22 22 (.slice (some ⟨w.heap.size, 0, none⟩) n m)).run Tryd.prog (w.alloc (.cells c 5)) = .ok (.slice (some ⟨w.heap.size, 0, none⟩) n m) (w.alloc (.cells c 5 (c.size, c.size + 1))) := by
  have hs : (w.alloc (.cells c 5)).shape? w.heap.size = some (5, c.size) := by
    unfold World.shape?
    rw [heap_new]
  simp [convert, run_underlying Tryd.underlying22, run_underlying Tryd.underlying5, markStringish, hs]
  exact heap_freeze (by decide)
theorem row_string {w : World} {base : Nat} {v : Value} {l : List UInt8} (h : w.ownsRow base 5 1 v l.length (l.map b8)) : (convert 22 9 v).run Tryd.prog w = .ok (.string ⟨l.toArray⟩) w := by
  rcases h.2 with ⟨rfl, e⟩ | ⟨g, cap, cur, rfl, _, q2, q3, q4, q5, q6⟩
  · have : l = [] := List.length_eq_zero_iff.1 e
    subst this
    rw [run_convert_bytes_string w 22 9 5 none 0 0 Tryd.underlying22 (by kernel_rfl) Tryd.underlying9]
    rfl
  · refine run_convert_bytes_back (P := Tryd.prog) w 22 9 5 ⟨g, 0, none⟩ cap l Tryd.underlying22 (by kernel_rfl) Tryd.underlying9 (fun j hj => ?_)
    have ha : (⟨g, 0, none⟩ : Addr).add j = ⟨g, j, none⟩ := by unfold Addr.add; split <;> simp_all
    rw [ha]
    have e1 : (l.map b8)[j]? = some (b8 l[j]) := by rw [List.getElem?_map, List.getElem?_eq_getElem hj]; rfl
    rw [← q6, List.getElem?_take] at e1
    split at e1
    · simp only [World.cell?, q2]
      show cur[j]? = some (b8 l[j])
      simpa using e1
    · cases e1

theorem row_kept {w w' : World} {base : Nat} {e : TypeId} {size n : Nat} {v : Value} {xs : List Value} (h : w.ownsRow base e size v n xs) (hk : ∀ k, base ≤ k → k < w.heap.size → w'.heap[k]? = w.heap[k]?) : w'.ownsRow base e size v n xs := by
  refine ⟨h.1, ?_⟩
  rcases h.2 with q | ⟨g, cap, cur, e1, q1, q2, q3⟩
  · exact .inl q
  · exact .inr ⟨g, cap, cur, e1, q1, (hk g q1 (Array.getElem?_eq_some_iff.1 q2).1).trans q2, q3⟩

set_option maxHeartbeats 4000000 in
set_option maxRecDepth 10000 in
theorem awake_calls (w : World) (hA : Amb w) : Calls Tryd.prog 4 #[] w fun e w' => e = .returned (.bool true) ∧ Below w.heap.size w w' := by
  have hN := New_run 100 w
  have HA := Lib.hid hA
  clear hA
  go_enter Tryd.func4, Tryd.ntmps4
  go_wp2_with fail
  refine hN.mono ?_
  rintro e w1 ⟨bd, rfl, hR⟩
  clear hN
  have HC := Create_run HA.out hR (by omega) (by omega) ⟨#[116]⟩ (by decide)
  rw [show putR (newD 100) ⟨#[116]⟩ false = (aw1, 0) from aw1_is] at HC
  clear hR
  go_wp2_with fail
  refine HC.mono ?_
  rintro e w2 ⟨rfl, hR⟩
  clear HC
  have HAp := Append_run2 HA.out hR ((Below.refl _ w2).alloc (Nat.le_refl _) (.cells #[.int .u8 97, .int .u8 98] 5 (2, 3))) (by omega) (by omega) ⟨#[116]⟩ (by decide) (.slice (some ⟨w2.heap.size, 0, none⟩) 2 2) [97, 98] (fun M h1 h2 => lit_bytes h2 97 98 (2, 3))
  rw [show appendR aw1 ⟨#[116]⟩ [97, 98] = (aw2, 0) from aw2_is] at HAp
  have hcv : (convert 22 22 (.slice (some ⟨w2.heap.size, 0, none⟩) 2 2)).run Tryd.prog (w2.alloc (.cells #[.int .u8 97, .int .u8 98] 5)) = .ok (.slice (some ⟨w2.heap.size, 0, none⟩) 2 2) (w2.alloc (.cells #[.int .u8 97, .int .u8 98] 5 (2, 3))) := conv_lit w2 _ 2 2
  clear hR
  go_wp2_with fail
  refine HAp.mono ?_
  rintro e w3 ⟨rfl, hR⟩
  clear HAp hcv
  have HSy := Sync_run HA.out hR (by omega) (by simp) ⟨#[116]⟩ (by decide)
  rw [show syncR aw2 ⟨#[116]⟩ = (aw3, 0) from aw3_is] at HSy
  clear hR
  go_wp2_with fail
  refine HSy.mono ?_
  rintro e w4 ⟨rfl, hR⟩
  clear HSy
  have HRe := Rename_run HA.out hR (by omega) (by simp) ⟨#[116]⟩ ⟨#[97]⟩ (by decide) (by decide)
  rw [show renameR aw3 ⟨#[116]⟩ ⟨#[97]⟩ = (aw4, 0) from aw4_is] at HRe
  clear hR
  go_wp2_with fail
  refine HRe.mono ?_
  rintro e w5 ⟨rfl, hR⟩
  clear HRe
  have HFo := Fork_run hR (by omega) (by simp)
  clear hR
  go_wp2_with fail
  refine HFo.mono ?_
  rintro e w6 ⟨bf, rfl, hT⟩
  clear HFo
  have HCr := Crash_two HA.out hT (by omega) (by simp) 1 (by omega) (by omega) (.slice none 0 0) [] (fun _ _ _ _ => .inl ⟨none, 0, rfl, rfl, fun _ => rfl⟩)
  rw [aw5_is] at HCr
  clear hT
  go_wp2_with fail
  refine HCr.mono ?_
  rintro e w7 ⟨rfl, hT, _⟩
  clear HCr
  have HRd := Read_run hT.one (by omega) (by simp) ⟨#[116]⟩
  rw [show readE aw5 ⟨#[116]⟩ = 0 from read5.1, show readB aw5 ⟨#[116]⟩ = ab from read5.2] at HRd
  have HT := Lib.hid hT
  clear hT
  go_wp2_with fail
  refine HRd.mono ?_
  rintro e w8 ⟨v8, rfl, hr8, _, hb8⟩
  clear HRd
  have HT8 := Lib.hid (HT.out.more hb8)
  have HB8 := Lib.hid hb8
  have HR8 := Lib.hid hr8
  clear hb8 hr8
  obtain ⟨a8, c8, hv8⟩ := ownsRow_slice HR8.out
  have HSd := SyncDirs_two HT8.out.symm (by omega) (by simp)
  rw [show syncDirsR aw4 = (af1, 0) from af1_is] at HSd
  go_wp2_with fail
  refine HSd.mono ?_
  rintro e w9 ⟨rfl, hT, hk9⟩
  have HK9 := Lib.hid hk9
  clear hk9
  clear HSd
  have HCr := Crash_two HA.out hT (by omega) (by simp) 0 (by omega) (by omega) (.slice none 0 0) [] (fun _ _ _ _ => .inl ⟨none, 0, rfl, rfl, fun _ => rfl⟩)
  rw [af2_is] at HCr
  clear hT
  go_wp2_with fail
  refine HCr.mono ?_
  rintro e w10 ⟨rfl, hT, hk10⟩
  have HK10 := Lib.hid hk10
  clear hk10
  clear HCr
  have HRd := Read_run hT.one (by omega) (by simp) ⟨#[97]⟩
  rw [show readE af1 ⟨#[97]⟩ = 0 from readf.1, show readB af1 ⟨#[97]⟩ = ab from readf.2] at HRd
  have HT10 := Lib.hid hT
  clear hT
  go_wp2_with fail
  refine HRd.mono ?_
  rintro e w11 ⟨v11, rfl, hr11, _, hb11⟩
  clear HRd
  have HT11 := Lib.hid (HT10.out.below hb11)
  have HB11 := Lib.hid hb11
  have HR11 := Lib.hid hr11
  clear hr11 hb11
  obtain ⟨a11, c11, hv11⟩ := ownsRow_slice HR11.out
  have r8 : w11.ownsRow w7.heap.size 5 1 v8 ab.length (ab.map b8) := row_below (row_kept (w' := w10) HR8.out (fun k h1 h2 => (HK10.out k (.inr ⟨h1, h2⟩)).trans (HK9.out k (.inr ⟨h1, h2⟩)))) HB11.out
  have s8 := row_string r8
  have s11 := row_string HR11.out
  have HCx := Create_two HA.out HT11.out.symm (by omega) (by simp) ⟨#[120, 47, 121]⟩ (by decide)
  rw [show putR aw5 ⟨#[120, 47, 121]⟩ false = (aw5, 8) from putXY] at HCx
  subst hv8 hv11
  clear r8
  rw [show (⟨ab.toArray⟩ : ByteArray) = ⟨#[97, 98]⟩ from rfl] at s8 s11
  go_wp2_with fail
  refine HCx.mono ?_
  rintro e w12 ⟨rfl, hT, _⟩
  clear HCx s8 s11
  have HLi := List_run HA.out hT.one (by omega) (by simp)
  have HT12 := Lib.hid hT
  clear hT
  rw [list5] at HLi
  go_wp2_with fail
  refine HLi.mono ?_
  rintro e w13 ⟨v13, cs, rfl, hrl, _, hbl⟩
  obtain ⟨al, cl, rfl⟩ := ownsRow_slice hrl
  obtain ⟨_, _, _, _, _, _, _, _, hbw, _, _⟩ := HT12.out
  have HF : Hid (Below w.heap.size w w13) := hbw.trans (hbl.mono hbw.size)
  clear HLi hrl hbl hbw
  go_wp2
  go_ret
  exact ⟨rfl, HF.out⟩
end Go.Proofs.YtihojcjijbidpaaDoor
