/- Append, Cut, Sync. -/
import Derived.Test.YtihojcjijbidpaaDoorD14
namespace Go.Proofs.YtihojcjijbidpaaDoor
open Go.RowKit Go.Shelf Go.Sort

section
variable {w : World} {bd bs bn : Nat} {vl vf : Value} {D : PD} {M : Nat → Prop}

theorem heap_setCell_same {w : World} {g i : Nat} {v : Value} {cur : Array Value} {t : TypeId} {fr : Nat × Nat} (h : w.heap[g]? = some (.cells cur t fr)) : (w.setCell ⟨g, i, none⟩ v).heap[g]? = some (.cells (cur.setIfInBounds i v) t fr) := by
  simp [World.setCell, Array.getElem?_modify, h]

theorem FileAt.block (h : DiskAt w bd bs bn vl vf D M) {id g cap : Nat} {vb : Value} (hf : FileAt w vf D M id g cap vb) : ∃ cur, w.heap[g]? = some (.cells cur 54 (0, 0)) ∧ cur[id * 2]? = some vb ∧ cur[id * 2 + 1]? = some (.int .i64 ((D.files.getD id ⟨[], 0⟩).safe : Int)) := by
  obtain ⟨vs, f1, f2⟩ := h.files
  rcases f1.2 with ⟨_, q⟩ | ⟨g2, cap2, cur, e0, _, q2, _⟩
  · have := hf.lt; omega
  have e1 := hf.slice
  rw [e1] at e0
  simp only [Value.slice.injEq, Option.some.injEq, Addr.mk.injEq, and_true, true_and] at e0
  obtain ⟨rfl, rfl⟩ := e0
  have c1 := hf.cellB
  have c2 := hf.cellS
  simp only [World.cell?, q2] at c1 c2
  exact ⟨cur, q2, by simpa using c1, by simpa using c2⟩

theorem set_same {cur : Array Value} {i : Nat} {v : Value} (h : cur[i]? = some v) : cur.setIfInBounds i v = cur := by
  apply Array.ext
  · simp
  · intro j h1 h2
    rw [Array.getElem_setIfInBounds h2]
    split
    · rename_i e; subst e
      rw [Array.getElem?_eq_getElem h2] at h
      exact (Option.some.inj h).symm
    · rfl

theorem DiskAt.fileB (h : DiskAt w bd bs bn vl vf D M) {id g cap : Nat} {vb v : Value} {l : List UInt8} (hf : FileAt w vf D M id g cap vb) {W2 : World} (hb : Below w.heap.size w W2) (hl : BytesAt W2 M v l) :
    DiskAt (W2.setCell ⟨g, id * 2, none⟩ v) bd bs bn vl vf { D with files := D.files.set id ⟨l, (D.files.getD id ⟨[], 0⟩).safe⟩ } M ∧ Goes (Own bd bn vf) M M w (W2.setCell ⟨g, id * 2, none⟩ v) := by
  have hgm := h.filesM g (by rw [hf.slice]; rfl)
  obtain ⟨cur, c0, c1, c2⟩ := hf.block h
  have g2 : W2.heap[g]? = some (.cells cur 54 (0, 0)) := (hb.block g hf.glt).trans c0
  refine h.fileTo hf (w2 := W2.setCell ⟨g, id * 2, none⟩ v) (vb' := v) (s := (D.files.getD id ⟨[], 0⟩).safe) (cur' := cur.setIfInBounds (id * 2) v) ⟨hb.os, hb.tape, hb.output, by simpa using hb.size, fun k hk hne => ?_⟩ ⟨cur, c0, ?_⟩ (heap_setCell_same g2) ?_
  · rw [Below.heap_setCell _ _ _ _ (fun e => hne (by rw [e]))]; exact hb.block k hk
  · rw [set_same (i := id * 2 + 1)]
    rw [Array.getElem?_setIfInBounds_ne (by omega)]; exact c2
  · exact hl.goes (goes_setCell (O := fun k => k = g) M W2 ⟨g, id * 2, none⟩ v rfl) (fun k e => e ▸ hgm.1)

theorem DiskAt.fileS (h : DiskAt w bd bs bn vl vf D M) {id g cap : Nat} {vb : Value} (s : Nat) (hf : FileAt w vf D M id g cap vb) :
    DiskAt (w.setCell ⟨g, id * 2 + 1, none⟩ (.int .i64 (s : Int))) bd bs bn vl vf { D with files := D.files.set id ⟨(D.files.getD id ⟨[], 0⟩).b, s⟩ } M ∧ Goes (Own bd bn vf) M M w (w.setCell ⟨g, id * 2 + 1, none⟩ (.int .i64 (s : Int))) := by
  have hgm := h.filesM g (by rw [hf.slice]; rfl)
  obtain ⟨cur, c0, c1, c2⟩ := hf.block h
  refine h.fileTo hf (w2 := w.setCell ⟨g, id * 2 + 1, none⟩ (.int .i64 (s : Int))) (vb' := vb) (s := s) (cur' := cur.setIfInBounds (id * 2 + 1) (.int .i64 (s : Int))) ⟨rfl, rfl, rfl, by simp, fun k hk hne => Below.heap_setCell _ _ _ _ (fun e => hne (by rw [e]))⟩ ⟨cur, c0, ?_⟩ (heap_setCell_same c0) ?_
  · rw [set_same c1]
  · exact hf.bytes.goes (goes_setCell (O := fun k => k = g) M w ⟨g, id * 2 + 1, none⟩ _ rfl) (fun k e => e ▸ hgm.1)

theorem FileAt.after {w2 : World} {D2 : PD} {id g cap : Nat} {vb : Value} (hf : FileAt w vf D M id g cap vb) (h2 : DiskAt w2 bd bs bn vl vf D2 M) (hl : id < D2.files.length) : ∃ cap2 vb2, FileAt w2 vf D2 M id g cap2 vb2 := by
  obtain ⟨g2, cap2, vb2, hf2⟩ := h2.fileAt hl
  have e := hf.slice.symm.trans hf2.slice
  simp only [Value.slice.injEq, Option.some.injEq, Addr.mk.injEq, and_true] at e
  obtain ⟨rfl, _⟩ := e
  exact ⟨cap2, vb2, hf2⟩
end

def fileId (D : PD) (p : ByteArray) : Nat := ((lookupM D.now p).getD zNd).id
def fileOf (D : PD) (p : ByteArray) : PFile := D.files.getD (fileId D p) ⟨[], 0⟩
def PD.setFile (D : PD) (p : ByteArray) (f : PFile) : PD := { D with files := D.files.set (fileId D p) f }
theorem stepD_files (D : PD) : (stepD D).files = D.files := by unfold stepD PD.stepped; split <;> rfl
theorem stepD_now (D : PD) : (stepD D).now = D.now := by unfold stepD PD.stepped; split <;> rfl
def syncR (D : PD) (p : ByteArray) : PD × Int := withR D p 0 ((stepD D).setFile p ⟨(fileOf D p).b, (fileOf D p).b.length⟩)
def cutR (D : PD) (p : ByteArray) (n : Int) : PD × Int := withR D p (if n < 0 ∨ ((fileOf D p).b.length : Int) < n then 13 else 0) ((stepD D).setFile p ⟨(fileOf D p).b.take n.toNat, min n.toNat (fileOf D p).safe⟩)
def appendR (D : PD) (p : ByteArray) (b : List UInt8) : PD × Int := withR D p (appendE D b.length) ((stepD D).setFile p ⟨(fileOf D p).b ++ b, (fileOf D p).safe⟩)

theorem leaves_of_at {w w' : World} {bd bs bn : Nat} {vl vf : Value} {D' : PD} {O M : Nat → Prop} (hO : ∀ k, O k ↔ Own bd bn vf k) (h : DiskAt w' bd bs bn vl vf D' M) (hg : Goes (Own bd bn vf) M M w w') : Leaves w bd O M D' w' :=
  ⟨O, M, ⟨bs, bn, vl, vf, h, hO⟩, hg.wide (fun k _ q => (hO k).2 q), fun _ _ q => q⟩

set_option maxHeartbeats 1000000 in
theorem Sync_calls {w : World} {bd : Nat} {O M : Nat → Prop} {D : PD} (h : DiskIs w bd O M D) (hF : D.Fine) (hA : Amb w) (p : ByteArray) (hs : p.size ≤ 1000000) :
    Calls Tryd.prog 8 #[.pointer (some ⟨bd, 0, none⟩), .string p] w fun e w' => e = .returned (.int .i64 (syncR D p).2) ∧ Leaves w bd O M (syncR D p).1 w' := by
  obtain ⟨bs, bn, vl, vf, hd, hO⟩ := h
  have hW := with_calls hd hF hA p hs 24 25 #[] #[] (enters_of Tryd.func24 (by kernel_rfl) rfl) (enters_of Tryd.func25 (by kernel_rfl) rfl) 0 ((stepD D).setFile p ⟨(fileOf D p).b, (fileOf D p).b.length⟩) (fun _ => True)
    (fun id g cap vb W _ _ _ _ => (Sync1_calls _ W).mono fun e w' ⟨he, hw⟩ => ⟨he, hw ▸ Below.refl _ _⟩)
    (fun _ id g cap vb W hl hfa hD hG => by
      have hfa2 : FileAt W vf (stepD D) M id g cap vb := ⟨by rw [stepD_files]; exact hfa.slice, by rw [stepD_files]; exact hfa.lt, hfa.cellB, by rw [stepD_files]; exact hfa.cellS, hfa.free, by rw [stepD_files]; exact hfa.bytes, hfa.glt⟩
      obtain ⟨av, cv, hvb⟩ := hfa.bytes.slice
      have hid : fileId D p = id := by simp [fileId, hl]
      have hcb := hfa.cellB
      rw [hvb] at hcb
      refine (Sync2_calls g id _ cv av _ W hcb hfa.cellS hfa.free).mono ?_
      rintro e w' ⟨he, rfl⟩
      have := hD.fileS (D.files.getD id ⟨[], 0⟩).b.length hfa2
      refine ⟨he, ?_⟩
      unfold PD.setFile fileOf
      rw [hid]
      rw [stepD_files] at this
      have e2 : ({ stepD D with files := (stepD D).files.set (fileId (stepD D) p) ⟨(D.files.getD id ⟨[], 0⟩).b, (D.files.getD id ⟨[], 0⟩).b.length⟩ } : PD) = { stepD D with files := D.files.set id ⟨(D.files.getD id ⟨[], 0⟩).b, (D.files.getD id ⟨[], 0⟩).b.length⟩ } := by
        rw [stepD_files, show fileId (stepD D) p = id by unfold fileId; rw [stepD_now]; simp [hl]]
      rw [e2]
      exact this)
  have HW : Calls _ _ _ _ (fun e w' => e = .returned (.int .i64 (syncR D p).2) ∧ Leaves w bd O M (syncR D p).1 w') := hW.mono fun e w' ⟨he, h1, h2⟩ => ⟨he, leaves_of_at hO h1 h2⟩
  clear hW hd hO hF hA
  go_enter Tryd.func8, Tryd.ntmps8
  go_wp2_with fail
  refine HW.mono ?_
  rintro e w' ⟨rfl, hL⟩
  have HL := Lib.hid hL
  clear hL HW
  go_wp2
  go_ret
  exact ⟨rfl, HL.out⟩
end Go.Proofs.YtihojcjijbidpaaDoor
