/- The walk of Used. -/
import Derived.Test.YtihojcjijbidpaaDoorD7
import Derived.Test.YtihojcjijbidpaaDoorM2
import Derived.Deep.LoopGhost
namespace Go.Proofs.YtihojcjijbidpaaDoor
open Go.RowKit Go.Shelf Go.Sort

def lenOf (D : PD) (x : Nd) : Nat := if x.dir then 0 else (D.files.getD x.id ⟨[], 0⟩).b.length
def sumL (D : PD) (l : Names) : Nat := (l.map (fun p => lenOf D p.2)).sum
def usedN (D : PD) : Nat := sumL D D.now
theorem sumL_perm {D : PD} {l l' : Names} (h : l.Perm l') : sumL D l = sumL D l' := by
  unfold sumL; exact (h.map _).sum_nat
theorem sumL_le {D : PD} (hF : D.Fine) : ∀ l : Names, sumL D l ≤ l.length * 16777216
  | [] => by simp [sumL]
  | p :: l => by
    have ih := sumL_le hF l
    have : lenOf D p.2 ≤ 16777216 := by
      unfold lenOf
      split
      · omega
      · by_cases h : p.2.id < D.files.length
        · have := (hF.bytes _ (List.getElem_mem h)).1
          simpa [List.getD, h] using this
        · simp [List.getD, List.getElem?_eq_none (Nat.not_lt.1 h)]
    simp only [sumL, List.map_cons, List.sum_cons, List.length_cons] at ih ⊢
    omega

theorem used_le {D : PD} (hF : D.Fine) : usedN D ≤ 16777216000000 := by
  have h1 := sumL_le hF D.now
  have h2 := hF.now
  have h3 : sumL D D.now ≤ 16777216000000 := by omega
  exact h3

theorem Used_nil (w : World) : Calls Tryd.prog 21 #[.pointer none] w fun e w' => e = .returned (.int .i64 0) ∧ w = w' := by
  go_enter Tryd.func21, Tryd.ntmps21
  go_wp2
  go_ret
  exact ⟨rfl, rfl⟩

theorem MapAt.ranges_is {w : World} {b : Nat} {m : Names} (h : MapAt w b m) :
    ∃ w', (Instr.range 42 (.map (some b))).run Tryd.prog w = .ok (.pointer (some ⟨w.heap.size, 0, none⟩)) w' ∧ Ranging w' b w.heap.size m m ∧ Below w.heap.size w w' ∧ w'.heap.size = w.heap.size + 1 :=
  h.ranges Tryd.underlying42

set_option maxHeartbeats 2000000 in
theorem Used_calls {w : World} {bd bs bn : Nat} {vl vf : Value} {D : PD} {M : Nat → Prop} (h : DiskAt w bd bs bn vl vf D M) (hF : D.Fine) :
    Calls Tryd.prog 21 #[.pointer (some ⟨bd, 0, none⟩)] w fun e w' => e = .returned (.int .i64 (usedN D)) ∧ Below w.heap.size w w' := by
  obtain ⟨w1, hrun, hR, hb, hs⟩ := h.now.ranges_is
  have H := Lib.hid h
  have HF := Lib.hid hF
  have HR := Lib.hid hR
  have HB := Lib.hid hb
  have hnow := h.nowC
  clear h hF hR hb hs
  go_enter Tryd.func21, Tryd.ntmps21
  go_wp2_with fail
  go_loopg [3, 5] D.now.length (fun k s _ wr => ∃ (t : Nat) (left : Names), s = .int .i64 t ∧ Hid (t + sumL D left = usedN D) ∧ Hid (Ranging wr bn w.heap.size D.now left) ∧ Hid (Below w.heap.size w wr) ∧ Hid (left.length = k ∧ ∀ q ∈ left, q ∈ D.now))
  case atStart => exact ⟨0, D.now, rfl, Nat.zero_add _, HR.out, HB.out, rfl, fun _ h => h⟩
  case round =>
    obtain ⟨t, left, rfl, HS, HRr, HBr, HK⟩ := hrel
    rcases HRr.out.next (P := Tryd.prog) (ty := 0) with ⟨hl, hrun2⟩ | ⟨p, x, left', w2, hperm, hrun2, hrun3, hR2, hg2, hs2⟩
    · have hx : (t : Int) = usedN D := by have := HS.out; rw [hl] at this; simp [sumL] at this; omega
      have HX := Lib.hid hx
      clear hx hl hrun
      go_wp2
      go_ret
      exact ⟨congrArg (fun z : Int => Ending.returned (.int .i64 z)) HX.out, HBr.out⟩
    · have hbw : Below w.heap.size wr w2 := ⟨hg2.os, hg2.tape, hg2.output, hg2.size, fun k hk => hg2.block k (Nat.lt_of_lt_of_le hk HBr.out.size) (fun e => by cases e; omega)⟩
      have HB2 : Hid (Below w.heap.size w w2) := HBr.out.trans hbw
      have hsum : sumL D left = lenOf D x + sumL D left' := by rw [sumL_perm hperm]; simp [sumL]
      have HSum := Lib.hid hsum
      have hlen : left.length = left'.length + 1 := by rw [hperm.length_eq]; rfl
      have HL := Lib.hid hlen
      have hin : (p, x) ∈ D.now := HK.out.2 _ (hperm.mem_iff.2 (by simp))
      have HIN : Hid (∀ q ∈ left', q ∈ D.now) := fun q hq => HK.out.2 _ (hperm.mem_iff.2 (by simp [hq]))
      have hid := HF.out.nowIds _ hin
      clear hin
      have hbd := used_le HF.out
      have htb : t + lenOf D x ≤ 16777216000000 := by have := HS.out; omega
      have HR2 := Lib.hid hR2
      have hnodew : ∀ o : Obj, Ranging (w2.alloc o) bn w.heap.size D.now left' := fun o => hR2.kept (Below.heap_alloc _ _ _ (by
        obtain ⟨es, clock, since, seen, c0, q1, _⟩ := hR2
        exact (Array.getElem?_eq_some_iff.1 q1).1)) (Below.heap_alloc _ _ _ (by
        obtain ⟨es, clock, since, seen, c0, _, _, _, q1, _⟩ := hR2
        exact (Array.getElem?_eq_some_iff.1 q1).1))
      have HN := Lib.hid hnodew
      have HBA : Hid (∀ o : Obj, Below w.heap.size w (w2.alloc o)) := fun o => HB2.out.alloc HB2.out.size o
      have hsz2 := HB2.out.size
      clear hnodew hR2 hlen hsum hperm hg2 hs2 hbw hbd
      obtain ⟨dir, id⟩ := x
      simp only [Nd.val] at hrun2 hrun3
      cases dir with
      | true =>
        have hl0 : lenOf D ⟨true, id⟩ = 0 := rfl
        have HL0 := Lib.hid hl0
        clear hl0 htb hid
        go_wp2
        go_roundg left'.length
        case rel => exact ⟨t, left', rfl, by have h1 := HS.out; have h2 := HSum.out; rw [HL0.out] at h2; show _ = _; omega, HN.out _, HBA.out _, rfl, HIN.out⟩
        case measure => have h1 := HL.out; have h2 := HK.out.1; omega
      | false =>
        have hid' : id < D.files.length := hid rfl
        clear hid
        obtain ⟨vs, f1, f2⟩ := H.out.files
        obtain ⟨vb, e1, e2, e3⟩ := f2.2 id hid'
        obtain ⟨g, cap, cur, hvf, _, q2, q3, _, q5, q6⟩ : ∃ g cap cur, vf = .slice (some ⟨g, 0, none⟩) D.files.length cap ∧ 0 ≤ g ∧ w.heap[g]? = some (.cells cur 54 (0, 0)) ∧ D.files.length ≤ cap ∧ cap ≤ maxLen ∧ cur.size = cap * 2 ∧ cur.toList.take (D.files.length * 2) = vs := by
          rcases f1.2 with ⟨_, q⟩ | q
          · omega
          · exact q
        have hg : w.cell? ⟨g, id * 2, none⟩ = some vb := by
          rw [← q6, List.getElem?_take] at e1
          split at e1
          · simp [World.cell?, q2]; simpa using e1
          · cases e1
        have hgl : g < w.heap.size := (Array.getElem?_eq_some_iff.1 q2).1
        obtain ⟨av, cv, hvb⟩ : ∃ av cv, vb = .slice av D.files[id].b.length cv := by
          rcases e3 with ⟨a, c, q, q', _⟩ | ⟨b, o, c, q, _⟩
          · exact ⟨a, c, by rw [q, q']; rfl⟩
          · exact ⟨_, _, q⟩
        have hlx : lenOf D ⟨false, id⟩ = D.files[id].b.length := by simp [lenOf, List.getD, hid']
        rw [hlx] at htb
        have HLX := Lib.hid hlx
        generalize D.files[id].b.length = L at *
        have c4 : w2.cell? ⟨bd, 4, none⟩ = some vf := (HB2.out.cell (p := ⟨bd, 4, none⟩) H.out.lt).trans H.out.filesC
        rw [hvf] at c4
        have cg : w2.cell? ⟨g, id * 2, none⟩ = some vb := (HB2.out.cell (p := ⟨g, id * 2, none⟩) hgl).trans hg
        rw [hvb] at cg
        have lg : g < w2.heap.size := Nat.lt_of_lt_of_le hgl hsz2
        have lb : bd < w2.heap.size := Nat.lt_of_lt_of_le H.out.lt hsz2
        have hnl : D.files.length ≤ 1000000 := HF.out.files
        clear hlx e1 e2 e3 f1 f2 q2 q3 q5 q6 hg hgl hvb hvf
        generalize D.files.length = nf at *
        have w1 : IntKind.i64.wrap ((t : Int) + L) = t + L := IntWalk.i64_in _ (by omega)
        go_wp2_with fail
        go_quiet (fail)
        go_wp2
        go_roundg left'.length
        case rel => exact ⟨t + L, left', rfl, by have h1 := HS.out; have h2 := HSum.out; rw [HLX.out] at h2; show _ = _; omega, HN.out _, below_drewN (HBA.out _) _, rfl, HIN.out⟩
        case measure => have h1 := HL.out; have h2 := HK.out.1; omega
end Go.Proofs.YtihojcjijbidpaaDoor
