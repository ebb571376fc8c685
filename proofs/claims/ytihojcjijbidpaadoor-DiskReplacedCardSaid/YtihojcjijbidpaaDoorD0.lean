/- The disk in memory; the walks of its smallest functions. -/
import Derived.Test.YtihojcjijbidpaaDoorL
namespace Go.Proofs.YtihojcjijbidpaaDoor
open Go.RowKit Go.Shelf Go.Sort

def diskCells (D : PD) (bs bn : Nat) (vl vf : Value) : Array Value :=
  #[.int .i64 (D.cap : Int), .map (some bs), .map (some bn), vl, vf, .bool D.down, .int .i64 D.ops, .int .i64 D.fails, .bool D.done, .int .i64 D.wrong]

def Own (bd bn : Nat) (vf : Value) (k : Nat) : Prop := k = bd ∨ k = bn ∨ vf.ownBlock = some k

/-- What holds of a disk's numbers. -/
structure PD.Fine (D : PD) : Prop where
  cap : D.cap ≤ 16777216
  ops0 : 0 ≤ D.ops
  ops1 : D.ops ≤ 1000000000
  fails0 : -1 ≤ D.fails
  fails1 : D.fails ≤ 9223372036854775807
  wrong0 : -1 ≤ D.wrong
  wrong1 : D.wrong ≤ 9223372036854775807
  files : D.files.length ≤ 1000000
  sure : D.sure.length ≤ 1000000
  now : D.now.length ≤ 1000000
  loose : D.loose.length ≤ 1000000
  bytes : ∀ f ∈ D.files, f.b.length ≤ 16777216 ∧ f.safe ≤ f.b.length
  sureIds : ∀ p ∈ D.sure, p.2.dir = false → p.2.id < D.files.length
  nowIds : ∀ p ∈ D.now, p.2.dir = false → p.2.id < D.files.length
  looseIds : ∀ c ∈ D.loose, ∀ p ∈ c, ∀ x, p.2 = some x → x.dir = false → x.id < D.files.length
  ids : ∀ p ∈ D.now, p.2.id ≤ 1000000
  names : ∀ p ∈ D.now, checkB p.1 = 0
  snames : ∀ p ∈ D.sure, checkB p.1 = 0
  lnames : ∀ c ∈ D.loose, c.length ≤ 2 ∧ ∀ p ∈ c, checkB p.1 = 0

structure DiskAt (w : World) (bd bs bn : Nat) (vl vf : Value) (D : PD) (M : Nat → Prop) : Prop where
  cells : w.heap[bd]? = some (.cells (diskCells D bs bn vl vf) 46 (0, 0))
  sure : MapAt w bs D.sure
  sureM : ¬ M bs
  now : MapAt w bn D.now
  nowM : M bn
  ne : bd ≠ bn
  dM : M bd
  loose : LooseAt w M vl D.loose
  files : ∃ vs, w.ownsRow 0 54 2 vf D.files.length vs ∧ FileCells w M vs D.files
  filesM : ∀ g, vf.ownBlock = some g → M g ∧ g ≠ bd ∧ g ≠ bn
  mlt : ∀ k, M k → k < w.heap.size

section
variable {w : World} {bd bs bn : Nat} {vl vf : Value} {D : PD} {M : Nat → Prop}
theorem DiskAt.cell (h : DiskAt w bd bs bn vl vf D M) (i : Nat) : w.cell? ⟨bd, i, none⟩ = (diskCells D bs bn vl vf)[i]? := by simp [World.cell?, h.cells]
theorem DiskAt.cap (h : DiskAt w bd bs bn vl vf D M) : w.cell? ⟨bd, 0, none⟩ = some (.int .i64 (D.cap : Int)) := h.cell 0
theorem DiskAt.sureC (h : DiskAt w bd bs bn vl vf D M) : w.cell? ⟨bd, 1, none⟩ = some (.map (some bs)) := h.cell 1
theorem DiskAt.nowC (h : DiskAt w bd bs bn vl vf D M) : w.cell? ⟨bd, 2, none⟩ = some (.map (some bn)) := h.cell 2
theorem DiskAt.looseC (h : DiskAt w bd bs bn vl vf D M) : w.cell? ⟨bd, 3, none⟩ = some vl := h.cell 3
theorem DiskAt.filesC (h : DiskAt w bd bs bn vl vf D M) : w.cell? ⟨bd, 4, none⟩ = some vf := h.cell 4
theorem DiskAt.down (h : DiskAt w bd bs bn vl vf D M) : w.cell? ⟨bd, 5, none⟩ = some (.bool D.down) := h.cell 5
theorem DiskAt.ops (h : DiskAt w bd bs bn vl vf D M) : w.cell? ⟨bd, 6, none⟩ = some (.int .i64 D.ops) := h.cell 6
theorem DiskAt.fails (h : DiskAt w bd bs bn vl vf D M) : w.cell? ⟨bd, 7, none⟩ = some (.int .i64 D.fails) := h.cell 7
theorem DiskAt.done (h : DiskAt w bd bs bn vl vf D M) : w.cell? ⟨bd, 8, none⟩ = some (.bool D.done) := h.cell 8
theorem DiskAt.wrong (h : DiskAt w bd bs bn vl vf D M) : w.cell? ⟨bd, 9, none⟩ = some (.int .i64 D.wrong) := h.cell 9
theorem DiskAt.free (h : DiskAt w bd bs bn vl vf D M) (i : Nat) : w.frozen? ⟨bd, i, none⟩ = false := by simp [World.frozen?, h.cells]
theorem DiskAt.lt (h : DiskAt w bd bs bn vl vf D M) : bd < w.heap.size := (Array.getElem?_eq_some_iff.1 h.cells).1
theorem DiskAt.ownM (h : DiskAt w bd bs bn vl vf D M) : ∀ k, Own bd bn vf k → M k := by
  rintro k (rfl | rfl | h')
  · exact h.dM
  · exact h.nowM
  · exact (h.filesM k h').1
theorem DiskAt.ownLt (h : DiskAt w bd bs bn vl vf D M) : ∀ k, Own bd bn vf k → k < w.heap.size := by
  rintro k (rfl | rfl | h')
  · exact h.lt
  · exact h.now.lt
  · obtain ⟨vs, h1, _⟩ := h.files
    exact (h1.lt k h').2

/-- A step that writes none of the disk's own blocks. -/
theorem DiskAt.goes {O M' : Nat → Prop} {w' : World} (h : DiskAt w bd bs bn vl vf D M) (hg : Goes O M M' w w') (hO : ∀ k, O k → M k) (hd : ∀ k, Own bd bn vf k → ¬ O k) : DiskAt w' bd bs bn vl vf D M' := by
  have hlt := h.ownLt
  refine ⟨(hg.block bd h.lt (hd bd (.inl rfl))).trans h.cells, h.sure.kept (hg.block bs h.sure.lt (fun q => h.sureM (hO _ q))), fun q => h.sureM (hg.old bs h.sure.lt q),
    h.now.kept (hg.block bn h.now.lt (hd bn (.inr (.inl rfl)))), hg.new bn h.nowM, h.ne, hg.new bd h.dM, h.loose.goes hg hO, ?_, fun g q => ⟨hg.new g (h.filesM g q).1, (h.filesM g q).2⟩, fun k q => by
      rcases hg.back k q with q | q
      · exact Nat.lt_of_lt_of_le (h.mlt k q) hg.size
      · exact q.2⟩
  obtain ⟨vs, h1, h2⟩ := h.files
  refine ⟨vs, ⟨h1.1, ?_⟩, h2.goes hg hO⟩
  rcases h1.2 with q | ⟨g, cap, cur, rfl, q1, q2, q3⟩
  · exact .inl q
  · have hg1 : Own bd bn (.slice (some ⟨g, 0, none⟩) D.files.length cap) g := .inr (.inr rfl)
    exact .inr ⟨g, cap, cur, rfl, q1, (hg.block g (hlt g hg1) (hd g hg1)).trans q2, q3⟩
end

def askedE (down : Bool) : List ByteArray → Int
  | [] => if down then 11 else 0
  | p :: ps => if down then 11 else if checkB p = 0 then askedE down ps else checkB p

theorem Check_is (p : ByteArray) (w : World) (hA : Amb w) : Calls Tryd.prog 39 #[.string p] w fun e w' => e = .returned (.int .i64 (checkB p)) ∧ Below w.heap.size w w' := Check_calls splitSaid containsSaid p w hA

theorem tick_never (a : Addr) (w : World) (hc : w.cell? a = some (.int .i64 (-1))) :
    Calls Tryd.prog 40 #[.pointer (some a)] w fun e w' => e = .returned (.bool false) ∧ w = w' := by
  go_enter Tryd.func40, Tryd.ntmps40
  go_wp2
  go_ret
  exact ⟨rfl, rfl⟩

theorem tick_more (a : Addr) (n : Int) (w : World) (h0 : 0 ≤ n) (h1 : n ≤ 9223372036854775807) (hc : w.cell? a = some (.int .i64 n)) (hf : w.frozen? a = false) :
    Calls Tryd.prog 40 #[.pointer (some a)] w fun e w' => e = .returned (.bool (n == 0)) ∧ w.setCell a (.int .i64 (n - 1)) = w' := by
  have hn : (n == -1) = false := by simp; omega
  have he : (n == 0) = (n - 1 == -1) := by rw [Bool.eq_iff_iff]; simp; omega
  rw [he]
  clear he
  go_enter Tryd.func40, Tryd.ntmps40
  go_wp2
  go_ret
  exact ⟨rfl, rfl⟩

theorem asked_nil (ps : Value) (w : World) : Calls Tryd.prog 26 #[.pointer none, ps] w fun e w' => e = .returned (.int .i64 1) ∧ w = w' := by
  go_enter Tryd.func26, Tryd.ntmps26
  go_wp2
  go_ret
  exact ⟨rfl, rfl⟩

theorem asked_none (bd : Nat) (down : Bool) (w : World) (hd : w.cell? ⟨bd, 5, none⟩ = some (.bool down)) :
    Calls Tryd.prog 26 #[.pointer (some ⟨bd, 0, none⟩), .slice none 0 0] w fun e w' => e = .returned (.int .i64 (askedE down [])) ∧ w = w' := by
  cases down with
  | true =>
    go_enter Tryd.func26, Tryd.ntmps26
    go_wp2
    go_ret
    exact ⟨rfl, rfl⟩
  | false =>
    go_enter Tryd.func26, Tryd.ntmps26
    go_wp2
    go_loop [6, 7, 18] (fun _ _ t => t = .int .i64 0) (fun _ _ _ => 0)
    case atStart => rfl
    case round =>
      subst hrel
      go_wp2
      go_ret
      exact ⟨rfl, rfl⟩

set_option maxHeartbeats 800000 in
theorem asked_calls (bd bp c : Nat) (down : Bool) (ps : List ByteArray) (w : World) (hA : Amb w) (hl : ps.length ≤ 1000) (hd : w.cell? ⟨bd, 5, none⟩ = some (.bool down)) (hp : ∀ i (h : i < ps.length), w.cell? ⟨bp, i, none⟩ = some (.string ps[i])) :
    Calls Tryd.prog 26 #[.pointer (some ⟨bd, 0, none⟩), .slice (some ⟨bp, 0, none⟩) ps.length c] w fun e w' => e = .returned (.int .i64 (askedE down ps)) ∧ Below w.heap.size w w' := by
  cases down with
  | true =>
    have hx : askedE true ps = 11 := by cases ps <;> rfl
    have HX := Lib.hid hx; clear hx hA hp
    go_enter Tryd.func26, Tryd.ntmps26
    go_wp2
    go_ret
    exact ⟨by rw [HX.out]; rfl, Below.refl _ _⟩
  | false =>
    have HP := Lib.hid hp; clear hp
    have HA := Lib.hid hA; clear hA
    obtain ⟨n, hn⟩ : ∃ n, n = ps.length := ⟨_, rfl⟩
    rw [← hn] at hl ⊢
    have HN := Lib.hid hn; clear hn
    go_enter Tryd.func26, Tryd.ntmps26
    go_wp2
    go_loopw [6, 7, 18] (fun _ _ t wr => ∃ k : Nat, k ≤ n ∧ t = .int .i64 k ∧ Hid (Below w.heap.size w wr) ∧ Hid (askedE false ps = askedE false (ps.drop k))) (fun _ _ t _ => n - (intOf t).toNat)
    case atStart => exact ⟨0, Nat.zero_le _, rfl, Below.refl _ _, rfl⟩
    case round =>
      obtain ⟨k, hk, rfl, HB, HE⟩ := hrel
      by_cases hlt : k < n
      · have hk' : k < ps.length := by rw [← HN.out]; exact hlt
        have g1 : wr.cell? ⟨bp, k, none⟩ = some (.string ps[k]) := by
          have := HP.out k hk'
          rw [HB.out.cell (World.block_lt_of_cell? _ _ this)]; exact this
        have HC := Check_is ps[k] wr (HA.out.below (HB.out))
        have hstep : askedE false (ps.drop k) = if checkB ps[k] = 0 then askedE false (ps.drop (k + 1)) else checkB ps[k] := by
          rw [List.drop_eq_getElem_cons hk']; rfl
        have HS := Lib.hid hstep; clear hstep
        generalize checkB ps[k] = q at *
        by_cases hq : q = 0
        · subst hq
          go_wp2_with (go_at_call 39; refine HC.mono ?_; rintro e w1 ⟨rfl, hb1⟩; have HB1 := Lib.hid hb1; clear hb1)
          go_roundw
          case rel => exact ⟨k + 1, by omega, by go_num, HB.out.trans (HB1.out.mono HB.out.size), by have := HE.out; rw [this, HS.out]; rfl⟩
          case measure => simp [intOf]; omega
        · have hq' : (q == 0) = false := by simpa using hq
          have hq'' : (q != 0) = true := by simpa using hq
          have hx : askedE false ps = q := by rw [HE.out, HS.out, if_neg hq]
          have HX := Lib.hid hx; clear hx hq
          go_wp2_with (go_at_call 39; refine HC.mono ?_; rintro e w1 ⟨rfl, hb1⟩; have HB1 := Lib.hid hb1; clear hb1)
          go_ret
          exact ⟨by rw [HX.out]; rfl, HB.out.trans (HB1.out.mono HB.out.size)⟩
      · have hx : askedE false ps = 0 := by rw [HE.out, List.drop_of_length_le (by rw [← HN.out]; omega)]; rfl
        have HX := Lib.hid hx; clear hx
        go_wp2
        go_ret
        exact ⟨by rw [HX.out]; rfl, HB.out⟩
end Go.Proofs.YtihojcjijbidpaaDoor
