/- The walk of List. -/
import Derived.Test.YtihojcjijbidpaaDoorD27
namespace Go.Proofs.YtihojcjijbidpaaDoor
open Go.RowKit Go.Shelf Go.Sort

theorem infoEntry : (Tryd.prog.info? 73).map (fun i => (i.zero, i.size, i.bytes)) = some (some (.agg #[.string ⟨#[]⟩, .bool false, .slice none 0 0]), 3, 48) := by kernel_rfl

abbrev EntB := ByteArray × Bool × List UInt8
def EntriesAt (w : World) (base : Nat) : List EntB → List Value → Prop
  | [], cs => cs = []
  | x :: l, cs => ∃ v cs', cs = .string x.1 :: .bool x.2.1 :: v :: cs' ∧ w.ownsRow base 5 1 v x.2.2.length (x.2.2.map b8) ∧ EntriesAt w base l cs'
theorem EntriesAt.mono {w w' : World} {base : Nat} (hk : ∀ v n xs, w.ownsRow base 5 1 v n xs → w'.ownsRow base 5 1 v n xs) : ∀ {l : List EntB} {cs : List Value}, EntriesAt w base l cs → EntriesAt w' base l cs
  | [], _, h => h
  | x :: l, cs, ⟨v, cs', h1, h2, h3⟩ => ⟨v, cs', h1, hk _ _ _ h2, EntriesAt.mono hk h3⟩
theorem EntriesAt.snoc {w : World} {base : Nat} {x : EntB} {v : Value} (hv : w.ownsRow base 5 1 v x.2.2.length (x.2.2.map b8)) : ∀ {l : List EntB} {cs : List Value}, EntriesAt w base l cs → EntriesAt w base (l ++ [x]) (cs ++ [.string x.1, .bool x.2.1, v])
  | [], cs, h => by rw [show cs = [] from h]; exact ⟨v, [], rfl, hv, rfl⟩
  | y :: l, cs, ⟨u, cs', h1, h2, h3⟩ => ⟨u, cs' ++ [.string x.1, .bool x.2.1, v], by rw [h1]; rfl, h2, EntriesAt.snoc hv h3⟩
theorem EntriesAt.low {w : World} {b b' : Nat} (hb : b' ≤ b) : ∀ {l : List EntB} {cs : List Value}, EntriesAt w b l cs → EntriesAt w b' l cs
  | [], _, h => h
  | x :: l, cs, ⟨v, cs', h1, h2, h3⟩ => ⟨v, cs', h1, ownsRow_lower h2 hb, EntriesAt.low hb h3⟩
theorem row_below {w w' : World} {base : Nat} {e : TypeId} {size n : Nat} {v : Value} {xs : List Value} (h : w.ownsRow base e size v n xs) (hb : Below w.heap.size w w') : w'.ownsRow base e size v n xs := by
  refine ⟨h.1, ?_⟩
  rcases h.2 with q | ⟨g, cap, cur, e1, q1, q2, q3⟩
  · exact .inl q
  · exact .inr ⟨g, cap, cur, e1, q1, (hb.block g (Array.getElem?_eq_some_iff.1 q2).1).trans q2, q3⟩
/-- Another type's row grows. -/
theorem row_other {w w' : World} {base b2 : Nat} {e e2 : TypeId} {size n size2 n2 : Nat} {v v2 : Value} {xs xs2 : List Value} (h : w.ownsRow base e size v n xs) (h2 : w.ownsRow b2 e2 size2 v2 n2 xs2) (hne : e ≠ e2) (hg : w.grownBy w' v2.ownBlock) : w'.ownsRow base e size v n xs := by
  refine h.kept hg ?_
  rcases h.2 with ⟨q, _⟩ | ⟨g, cap, cur, rfl, q1, q2, q3⟩
  · left; rw [q]; rfl
  · right
    intro e0
    rcases h2.2 with ⟨q, _⟩ | ⟨g', cap', cur', rfl, q1', q2', _⟩
    · rw [q] at e0; cases e0
    · simp [Value.ownBlock] at e0
      subst e0
      rw [q2] at q2'
      cases q2'
      exact hne rfl

theorem field_node (d : Bool) (i : Int) (w : World) : (Instr.field 60 (.agg #[.bool d, .int .i64 i]) 0).run Tryd.prog w = .ok (.bool d) w := by kernel_rfl

def entB (D : PD) (p : ByteArray) : EntB := (p, (ndOf D p).dir, if (ndOf D p).dir then [] else (fileOf D p).b)
def listB (D : PD) : List EntB := if D.down then [] else (pathsB D).map (entB D)

theorem paths_mem {D : PD} {p : ByteArray} : p ∈ pathsB D ↔ ∃ x, (p, x) ∈ D.now := by
  unfold pathsB
  rw [List.mem_mergeSort, List.mem_map]
  constructor
  · rintro ⟨q, hq, rfl⟩; exact ⟨q.2, hq⟩
  · rintro ⟨x, hx⟩; exact ⟨_, hx, rfl⟩
theorem paths_length (D : PD) : (pathsB D).length = D.now.length := by simp [pathsB]
theorem lookupM_some {p : ByteArray} : ∀ {m : Names} {x : Nd}, (p, x) ∈ m → ∃ y, lookupM m p = some y
  | q :: m, x, h => by
    unfold lookupM
    split
    · exact ⟨_, rfl⟩
    · rename_i hne
      rcases List.mem_cons.1 h with e | h
      · exact absurd (congrArg Prod.fst e).symm hne
      · exact lookupM_some h

set_option maxHeartbeats 4000000 in
theorem List_calls {w : World} {bd : Nat} {O M : Nat → Prop} {D : PD} (h : DiskIs w bd O M D) (hF : D.Fine) (hA : Amb w) :
    Calls Tryd.prog 17 #[.pointer (some ⟨bd, 0, none⟩)] w fun e w' => ∃ v cs, e = .returned v ∧ w'.ownsRow w.heap.size 73 3 v (listB D).length cs ∧ EntriesAt w' w.heap.size (listB D) cs ∧ Below w.heap.size w w' := by
  obtain ⟨bs, bn, vl, vf, hd, hO⟩ := h
  have hAs := asked_none bd D.down w hd.down
  cases hdn : D.down with
  | true =>
    rw [hdn] at hAs
    have hr : listB D = [] := by unfold listB; rw [hdn]; rfl
    rw [hr]
    clear hdn hr hd hO hF
    go_enter Tryd.func17, Tryd.ntmps17
    go_wp2_with fail
    refine hAs.mono ?_
    rintro e w3 ⟨rfl, rfl⟩
    clear hAs
    go_wp2
    go_ret
    exact ⟨_, [], rfl, World.ownsRow_nil _ _ _ _, rfl, Below.refl _ _⟩
  | false =>
    rw [hdn] at hAs
    have hr : listB D = (pathsB D).map (entB D) := by unfold listB; rw [hdn]; rfl
    have hP := paths_calls hd hF hA hF.keyed
    have hll : (listB D).length = (pathsB D).length := by rw [hr]; simp
    have hpl : (pathsB D).length ≤ 1000000 := by rw [paths_length]; exact hF.now
    have HR := Lib.hid hr
    have HLL := Lib.hid hll
    have HD := Lib.hid hd
    have HF := Lib.hid hF
    have HPL := Lib.hid hpl
    clear hdn hr hd hO hF hll hA hpl
    go_enter Tryd.func17, Tryd.ntmps17
    go_wp2_with fail
    refine hAs.mono ?_
    rintro e w3 ⟨rfl, rfl⟩
    clear hAs
    go_wp2_with fail
    refine hP.mono ?_
    rintro e w2 ⟨vp, rfl, hrow, hb2⟩
    clear hP
    obtain ⟨ap, cp, hvp⟩ := ownsRow_slice hrow
    subst hvp
    have HROW := Lib.hid hrow
    have HB2 := Lib.hid hb2
    clear hrow hb2
    obtain ⟨n, hn⟩ : ∃ n, n = (pathsB D).length := ⟨_, rfl⟩
    rw [← hn]
    have HN := Lib.hid hn
    have hnb : n ≤ 1000000 := by rw [hn]; exact HPL.out
    clear hn
    go_wp2_with fail
    go_loopw [3, 15] (fun v i wr => ∃ (k : Nat) (cs : List Value), k ≤ n ∧ i = .int .i64 k ∧ Hid (wr.ownsRow w2.heap.size 73 3 v k cs) ∧ Hid (EntriesAt wr w2.heap.size ((listB D).take k) cs) ∧ Hid (Below w2.heap.size w2 wr)) (fun _ i _ => n - (intOf i).toNat)
    case atStart => exact ⟨0, [], Nat.zero_le _, rfl, World.ownsRow_nil _ _ _ _, rfl, Below.refl _ _⟩
    case round =>
      obtain ⟨k, cs, hk, rfl, HV, HE, HB⟩ := hrel
      by_cases hlt : k < n
      · have hkp : k < (pathsB D).length := by rw [← HN.out]; exact hlt
        obtain ⟨p, hp⟩ : ∃ p, p = (pathsB D)[k] := ⟨_, rfl⟩
        obtain ⟨gp, cur, rfl, q1, q2, q3, q4, q5, q6⟩ : ∃ gp cur, ap = some ⟨gp, 0, none⟩ ∧ w.heap.size ≤ gp ∧ w2.heap[gp]? = some (.cells cur 9 (0, 0)) ∧ (pathsB D).length ≤ cp ∧ cp ≤ maxLen ∧ cur.size = cp * 1 ∧ cur.toList.take ((pathsB D).length * 1) = (pathsB D).map .string := by
          rcases HROW.out.2 with ⟨_, q⟩ | ⟨g, cap, cur, e, q1, q2, q3⟩
          · omega
          · simp only [Value.slice.injEq] at e
            obtain ⟨rfl, _, rfl⟩ := e
            exact ⟨g, cur, rfl, q1, q2, q3⟩
        have hcp : w2.cell? ⟨gp, k, none⟩ = some (.string p) := by
          have e1 : ((pathsB D).map Value.string)[k]? = some (.string p) := by rw [List.getElem?_map, List.getElem?_eq_getElem hkp, hp]; rfl
          rw [← q6, List.getElem?_take] at e1
          split at e1
          · simp only [World.cell?, q2]; simpa using e1
          · cases e1
        have hlgp : gp < w2.heap.size := (Array.getElem?_eq_some_iff.1 q2).1
        have hcr : wr.cell? ⟨gp, k, none⟩ = some (.string p) := (HB.out.cell (p := ⟨gp, k, none⟩) hlgp).trans hcp
        obtain ⟨x0, hx0⟩ := paths_mem.1 (show p ∈ pathsB D by rw [hp]; exact List.getElem_mem _)
        obtain ⟨y, hy⟩ := lookupM_some hx0
        have hent : (listB D).take (k + 1) = (listB D).take k ++ [entB D p] := by
          have hk2 : k < (listB D).length := by rw [HLL.out]; exact hkp
          rw [List.take_succ_eq_append_getElem hk2]
          congr 2
          simp only [HR.out, List.getElem_map, hp]
        have hndo : ndOf D p = y := by unfold ndOf; rw [hy]; rfl
        have hBw : Below w.heap.size w wr := HB2.out.trans (HB.out.mono HB2.out.size)
        have hdr : DiskAt wr bd bs bn vl vf D M := HD.out.goes (Goes.of_below hBw (fun _ => False) M) (fun _ q => q.elim) (fun _ _ q => q)
        have n1 := hdr.nowC
        have k1 := hdr.now.look1_is p
        rw [hy] at k1
        simp only [Option.getD_some] at k1
        have lgr : gp < wr.heap.size := Nat.lt_of_lt_of_le hlgp HB.out.size
        have lbr : bd < wr.heap.size := hdr.lt
        have HY := Lib.hid hy
        have HENT := Lib.hid hent
        have HBW := Lib.hid hBw
        have hidy : Hid (y.dir = false → y.id < D.files.length) := fun e => HF.out.nowIds _ (lookupM_mem HY.out) e
        obtain ⟨W3, hW3⟩ : ∃ W3, W3 = wr.alloc (.cells #[.string p, .bool y.dir, .slice none 0 0] 73) := ⟨_, rfl⟩
        have hb3 : Below wr.heap.size wr W3 := by rw [hW3]; exact (Below.refl _ _).alloc (Nat.le_refl _) _
        have hs3 : W3.heap.size = wr.heap.size + 1 := by rw [hW3]; simp
        have g3 : W3.heap[wr.heap.size]? = some (.cells #[.string p, .bool y.dir, .slice none 0 0] 73 (0, 0)) := by rw [hW3]; exact heap_new _ _
        have hd3 : DiskAt W3 bd bs bn vl vf D M := hdr.goes (Goes.of_below hb3 (fun _ => False) M) (fun _ q => q.elim) (fun _ _ q => q)
        have HW3 := Lib.hid hW3
        have G3 := Lib.hid g3
        have HB3 := Lib.hid hb3
        have HS3 := Lib.hid hs3
        have HENTB : Hid (entB D p = (p, y.dir, if y.dir then [] else (D.files.getD y.id ⟨[], 0⟩).b)) := by
          unfold entB fileOf fileId Hid
          rw [hndo, hy]; rfl
        have HD3 := Lib.hid hd3
        clear hp q1 q2 q3 q4 q5 q6 hcp hx0 hent hndo hBw hdr hy hb3 hs3 g3 hd3 hW3 hlgp hkp
        obtain ⟨dir, id⟩ := y
        simp only at k1 HW3 G3 HENTB hidy
        have hfl := field_node dir id wr
        obtain ⟨i0, hi, hz0, hz1, hz2⟩ := info_parts infoEntry
        have i3 : ∃ a c, u3 = .slice a k c := ownsRow_slice HV.out
        obtain ⟨a3, c3, rfl⟩ := i3
        -- the round's end
        have hEND : Hid (∀ (W5 W6 : World) (vd v' : Value) (data : List UInt8), Below wr.heap.size wr W5 → W5.ownsRow w2.heap.size 5 1 vd data.length (data.map b8) → entB D p = (p, dir, data) →
            W6.ownsRow w2.heap.size 73 3 v' (k + 1) (cs ++ [.string p, .bool dir, vd]) → (W5.alloc (.cells #[.string p, .bool dir, vd] 73)).grownBy W6 (Value.slice a3 k c3).ownBlock →
            EntriesAt W6 w2.heap.size ((listB D).take (k + 1)) (cs ++ [.string p, .bool dir, vd]) ∧ Below w2.heap.size w2 W6) := fun W5 W6 vd v' data hb35 hvd hen hr6 hg6 => by
          have hb36 : Below wr.heap.size wr (W5.alloc (.cells #[.string p, .bool dir, vd] 73)) := hb35.alloc hb35.size _
          have hrV : (W5.alloc (.cells #[.string p, .bool dir, vd] 73)).ownsRow w2.heap.size 73 3 (.slice a3 k c3) k cs := row_below HV.out hb36
          have hne : (5 : TypeId) ≠ 73 := by decide
          refine ⟨?_, ?_⟩
          · rw [HENT.out, hen]
            have hvd6 : W6.ownsRow w2.heap.size 5 1 vd data.length (data.map b8) := row_other (row_below hvd ((Below.refl _ W5).alloc (Nat.le_refl _) _)) hrV hne hg6
            exact EntriesAt.snoc (x := (p, dir, data)) hvd6 (HE.out.mono fun v n xs q => row_other (row_below q hb36) hrV hne hg6)
          · refine (HB.out.trans (hb36.mono HB.out.size)).grown hg6 (by have := HB.out.size; have := hb36.size; omega) (fun q e => ?_)
            rcases HV.out.2 with ⟨q0, _⟩ | ⟨g, cap, cur, q0, q1, _⟩
            · rw [q0] at e; cases e
            · rw [q0] at e; simp [Value.ownBlock] at e; omega
        have HEND := Lib.hid hEND.out
        clear hEND
        cases dir with
        | true =>
          have hFE := file_err bd bn D.now p W3 HD3.out.nowC HD3.out.now (by unfold fileE; rw [HY.out]; simp)
          have he9 : fileE D.now p = 9 := by unfold fileE; rw [HY.out]; rfl
          rw [he9] at hFE
          clear he9
          go_wp2_with fail
          rw [← HW3.out]
          refine hFE.mono ?_
          rintro e W4 ⟨rfl, hb4⟩
          clear hFE
          have HB4 := Lib.hid hb4
          have g4 : W4.heap[wr.heap.size]? = some (.cells #[.string p, .bool true, .slice none 0 0] 73 (0, 0)) := (hb4.block _ (by have := HS3.out; omega)).trans G3.out
          have e0 : W4.cell? ⟨wr.heap.size, 0, none⟩ = some (.string p) := by simp [World.cell?, g4]
          have e1 : W4.cell? ⟨wr.heap.size, 1, none⟩ = some (.bool true) := by simp [World.cell?, g4]
          have e2 : W4.cell? ⟨wr.heap.size, 2, none⟩ = some (.slice none 0 0) := by simp [World.cell?, g4]
          have lw4 : wr.heap.size < W4.heap.size := Nat.lt_of_lt_of_le (by rw [HS3.out]; omega) hb4.size
          clear hb4 g4
          have hrow4 : (W4.alloc (.cells #[.string p, .bool true, .slice none 0 0] 73)).ownsRow w2.heap.size 73 3 (.slice a3 k c3) k cs :=
            row_below HV.out ((HB3.out.trans (HB4.out.mono HB3.out.size)).alloc (HB3.out.trans (HB4.out.mono HB3.out.size)).size _)
          have hds : ∀ j u, ([.string p, .bool true, .slice none 0 0] : List Value)[j]? = some u → (W4.alloc (.cells #[.string p, .bool true, .slice none 0 0] 73)).cell? ((⟨W4.heap.size, 0, none⟩ : Addr).add j) = some u := fun j u hj => by
            have ha : (⟨W4.heap.size, 0, none⟩ : Addr).add j = ⟨W4.heap.size, j, none⟩ := by unfold Addr.add; split <;> simp_all
            rw [ha, World.cell?_alloc_new, ← Array.getElem?_toList]
            exact hj
          have hone : ∀ u ∈ ([.string p, .bool true, .slice none 0 0] : List Value), u.oneCell' = true := by
            intro u hu; simp at hu; rcases hu with rfl | rfl | rfl <;> rfl
          have hbase : w2.heap.size ≤ (W4.alloc (.cells #[.string p, .bool true, .slice none 0 0] 73)).heap.size := by
            have h1 := HB.out.size; have h2 := HB3.out.size; have h3 := HB4.out.size; simp; omega
          have HDS := Lib.hid hds
          have HONE := Lib.hid hone
          clear hds hone
          go_wp2_with (at_builtin; refine wpList_append_own _ rfl _ _ 39 rfl w2.heap.size 73 i0 _ 3 48 Tryd.underlying39 hi hz0 hz1 hz2 rfl (by decide) _ k cs rfl hrow4 ⟨W4.heap.size, 0, none⟩ 1 1 [.string p, .bool true, .slice none 0 0] rfl rfl HDS.out HONE.out (Nat.le_trans (by omega) (show 1000001 ≤ maxLen by decide)) (by omega) hbase ?_)
          intro v6 W6 hr6 hg6 _
          have hE := HEND.out W4 W6 (.slice none 0 0) v6 [] (HB3.out.trans (HB4.out.mono HB3.out.size)) (World.ownsRow_nil _ _ _ _) (by rw [HENTB.out]; rfl) hr6 hg6
          obtain ⟨a6, c6, rfl⟩ := ownsRow_slice hr6
          have HR6 := Lib.hid hr6
          have HE6 := Lib.hid hE
          clear hE hr6 hg6 hrow4
          go_wp2
          go_roundw
          case rel => exact ⟨k + 1, _, by omega, by go_num, HR6.out, HE6.out.1, HE6.out.2⟩
          case measure => simp [intOf]; omega
        | false =>
          have hid := hidy.out rfl
          obtain ⟨g, cap, vb, hfa⟩ := HD3.out.fileAt hid
          have hfc := HD3.out.filesC
          rw [hfa.slice] at hfc
          have hFE := file_ok bd bn D.now p id W3 HD3.out.nowC HD3.out.now HY.out g D.files.length cap hfc hid HF.out.files
          obtain ⟨av, cv, hvb⟩ := hfa.bytes.slice
          have HBY := Lib.hid hfa.bytes
          have HCB := Lib.hid hfa.cellB
          have HGL := Lib.hid hfa.glt
          have hlen := (HF.out.bytes (D.files.getD id ⟨[], 0⟩) (by rw [← List.getElem_eq_getD (h := hid)]; exact List.getElem_mem _)).1
          have HLEN := Lib.hid hlen
          clear hfc hfa hid hlen
          generalize (D.files.getD id ⟨[], 0⟩).b = data at *
          subst hvb
          go_wp2_with fail
          rw [← HW3.out]
          refine hFE.mono ?_
          rintro e W4 ⟨rfl, hb4⟩
          clear hFE
          have HB4 := Lib.hid hb4
          have g4 : W4.heap[wr.heap.size]? = some (.cells #[.string p, .bool false, .slice none 0 0] 73 (0, 0)) := (hb4.block _ (by have := HS3.out; omega)).trans G3.out
          have cb : W4.cell? ⟨g, id * 2, none⟩ = some (.slice av data.length cv) := (hb4.cell (p := ⟨g, id * 2, none⟩) HGL.out).trans HCB.out
          have lw4 : wr.heap.size < W4.heap.size := Nat.lt_of_lt_of_le (by rw [HS3.out]; omega) hb4.size
          have HC := bytesClone_calls (HBY.out.goes (Goes.of_below hb4 (fun _ => False) M) (fun _ q => q.elim)) (by have := HLEN.out; omega)
          have G4 := Lib.hid g4
          clear hb4 g4
          go_wp2_with fail
          refine HC.mono ?_
          rintro e W5 ⟨vd, rfl, hrd, hb5⟩
          clear HC cb
          obtain ⟨ad, cd, rfl⟩ := ownsRow_slice hrd
          have g5 : W5.heap[wr.heap.size]? = some (.cells #[.string p, .bool false, .slice none 0 0] 73 (0, 0)) := (hb5.block _ lw4).trans G4.out
          have e2 : W5.cell? ⟨wr.heap.size, 2, none⟩ = some (.slice none 0 0) := by simp [World.cell?, g5]
          have f2 : W5.frozen? ⟨wr.heap.size, 2, none⟩ = false := by simp [World.frozen?, g5]
          obtain ⟨W5', hW5'⟩ : ∃ W5', W5' = W5.setCell ⟨wr.heap.size, 2, none⟩ (.slice ad data.length cd) := ⟨_, rfl⟩
          have g5' : W5'.heap[wr.heap.size]? = some (.cells #[.string p, .bool false, .slice ad data.length cd] 73 (0, 0)) := by
            rw [hW5']; exact (heap_setCell_same (i := 2) (v := .slice ad data.length cd) g5).trans rfl
          have t0 : W5'.cell? ⟨wr.heap.size, 0, none⟩ = some (.string p) := by simp [World.cell?, g5']
          have t1 : W5'.cell? ⟨wr.heap.size, 1, none⟩ = some (.bool false) := by simp [World.cell?, g5']
          have t2 : W5'.cell? ⟨wr.heap.size, 2, none⟩ = some (.slice ad data.length cd) := by simp [World.cell?, g5']
          have hb5w : Below wr.heap.size wr W5' := by
            rw [hW5']
            exact below_setCell ((HB3.out.trans (HB4.out.mono HB3.out.size)).trans (hb5.mono (HB3.out.trans (HB4.out.mono HB3.out.size)).size)) _ (Nat.le_refl _)
          have lw5 : wr.heap.size < W5'.heap.size := by rw [hW5']; simp; have := hb5.size; omega
          have hrd5 : W5'.ownsRow w2.heap.size 5 1 (.slice ad data.length cd) data.length (data.map b8) := by
            rw [hW5']
            refine ownsRow_lower (ownsRow_setCell_below hrd ?_ _) (by have := HB.out.size; omega)
            exact lw4
          have HW5' := Lib.hid hW5'
          have HB5W := Lib.hid hb5w
          have HRD5 := Lib.hid hrd5
          clear hrd hb5 g5 hW5' g5' hb5w hrd5
          have hrow4 : (W5'.alloc (.cells #[.string p, .bool false, .slice ad data.length cd] 73)).ownsRow w2.heap.size 73 3 (.slice a3 k c3) k cs :=
            row_below HV.out (HB5W.out.alloc HB5W.out.size _)
          have hds : ∀ j u, ([.string p, .bool false, .slice ad data.length cd] : List Value)[j]? = some u → (W5'.alloc (.cells #[.string p, .bool false, .slice ad data.length cd] 73)).cell? ((⟨W5'.heap.size, 0, none⟩ : Addr).add j) = some u := fun j u hj => by
            have ha : (⟨W5'.heap.size, 0, none⟩ : Addr).add j = ⟨W5'.heap.size, j, none⟩ := by unfold Addr.add; split <;> simp_all
            rw [ha, World.cell?_alloc_new, ← Array.getElem?_toList]
            exact hj
          have hone : ∀ u ∈ ([.string p, .bool false, .slice ad data.length cd] : List Value), u.oneCell' = true := by
            intro u hu; simp at hu; rcases hu with rfl | rfl | rfl <;> rfl
          have hbase : w2.heap.size ≤ (W5'.alloc (.cells #[.string p, .bool false, .slice ad data.length cd] 73)).heap.size := by
            have h1 := HB.out.size; have h2 := HB5W.out.size; simp; omega
          have HDS := Lib.hid hds
          have HONE := Lib.hid hone
          clear hds hone
          go_upto_region 11 with fail
          rw [← HW5'.out]
          go_wp2_with (at_builtin; refine wpList_append_own _ rfl _ _ 39 rfl w2.heap.size 73 i0 _ 3 48 Tryd.underlying39 hi hz0 hz1 hz2 rfl (by decide) _ k cs rfl hrow4 ⟨W5'.heap.size, 0, none⟩ 1 1 [.string p, .bool false, .slice ad data.length cd] rfl rfl HDS.out HONE.out (Nat.le_trans (by omega) (show 1000001 ≤ maxLen by decide)) (by omega) hbase ?_)
          intro v6 W6 hr6 hg6 _
          have hE := HEND.out W5' W6 (.slice ad data.length cd) v6 data HB5W.out HRD5.out (by rw [HENTB.out]; rfl) hr6 hg6
          obtain ⟨a6, c6, rfl⟩ := ownsRow_slice hr6
          have HR6 := Lib.hid hr6
          have HE6 := Lib.hid hE
          clear hE hr6 hg6 hrow4
          go_wp2
          go_roundw
          case rel => exact ⟨k + 1, _, by omega, by go_num, HR6.out, HE6.out.1, HE6.out.2⟩
          case measure => simp [intOf]; omega
      · have hkn : k = n := by omega
        subst hkn
        have hfin : ∀ cs', Hid (EntriesAt wr w2.heap.size ((listB D).take k) cs') → EntriesAt wr w.heap.size (listB D) cs' := fun cs' q => by
          have q2 := q.out
          rw [List.take_of_length_le (by rw [HLL.out, ← HN.out]; exact Nat.le_refl _)] at q2
          exact q2.low HB2.out.size
        have HFIN := Lib.hid hfin
        have HK : Hid ((listB D).length = k) := by rw [HLL.out, ← HN.out]; exact rfl
        clear hfin
        go_wp2
        go_ret
        exact ⟨_, cs, rfl, by rw [HK.out]; exact ownsRow_lower HV.out HB2.out.size, HFIN.out _ HE, HB2.out.trans (HB.out.mono HB2.out.size)⟩
end Go.Proofs.YtihojcjijbidpaaDoor
