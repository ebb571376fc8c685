/- path: the walks of Less, of the comparison that the sort is given, and of Check. -/
import Derived.Test.YtihojcjijbidpaaDoorP1
import Derived.Sort.Grow
namespace Go.Proofs.YtihojcjijbidpaaDoor
open Go.RowKit Go.Shelf Go.Sort

def lessB (a b : ByteArray) : Bool := decide (cmpL (splitL a) (splitL b) < 0)

theorem splitB_length_size (sep : ByteArray) (save : Nat) : ∀ (k : Nat) (s : ByteArray), ∀ x ∈ Lib.splitB sep save k s, x.size ≤ s.size := by
  intro k
  induction k with
  | zero => intro s x hx; simp [Lib.splitB_zero] at hx; subst hx; exact Nat.le_refl _
  | succ k ih =>
    intro s x hx
    unfold Lib.splitB at hx
    split at hx
    · simp at hx; subst hx; exact Nat.le_refl _
    · rcases List.mem_cons.1 hx with rfl | hx
      · simp [ByteArray.size_extract]; omega
      · have := ih _ x hx
        simp [ByteArray.size_extract] at this
        omega
theorem splitL_size {p x : ByteArray} (h : x ∈ splitL p) : x.size ≤ p.size := splitB_length_size _ _ _ _ x h
theorem splitL_len_le (p : ByteArray) : (splitL p).length ≤ p.size + 1 := by
  rw [splitL_length]
  have := Lib.countB_le ⟨#[47]⟩ (by decide) p.size p (Nat.le_refl _)
  omega

theorem Amb.alloc {w : World} (h : Amb w) (o : Obj) : Amb (w.alloc o) := by
  obtain ⟨m, hm⟩ := h
  exact ⟨m, by rw [World.cell?_alloc_lt _ _ _ (World.block_lt_of_cell? _ _ hm)]; exact hm⟩
theorem Amb.below {w w' : World} (h : Amb w) (hb : Below w.heap.size w w') : Amb w' := by
  obtain ⟨m, hm⟩ := h
  exact ⟨m, (hb.cell (World.block_lt_of_cell? _ _ hm)).trans hm⟩
theorem Amb.drewN {w : World} (h : Amb w) (n : Nat) : Amb (w.drewN n) := h

set_option maxHeartbeats 400000 in
theorem Less_calls (H : SplitSaid) (a b : ByteArray) (w : World) (hA : Amb w) (ha : a.toList.isEmpty = false) (hb : b.toList.isEmpty = false) (hsa : a.size ≤ 100000) (hsb : b.size ≤ 100000) :
    Calls Tryd.prog 47 #[.string a, .string b] w fun e w' => e = .returned (.bool (lessB a b)) ∧ w' = (w.alloc (strBlock (splitL a))).alloc (strBlock (splitL b)) := by
  have HS1 := Split_calls H a w hA ha (by omega)
  have HS2 := Split_calls H b (w.alloc (strBlock (splitL a))) (hA.alloc _) hb (by omega)
  have la := splitL_len_le a
  have lb := splitL_len_le b
  have HC := Compare_calls (splitL a) (splitL b) w.heap.size (w.heap.size + 1) (splitL a).length (splitL b).length ((w.alloc (strBlock (splitL a))).alloc (strBlock (splitL b))) (by omega) (by omega)
    (by intro i hi; rw [World.cell?_alloc_lt _ _ _ (by simp)]; simp [strBlock])
    (by
      intro i hi
      have := World.cell?_alloc_new (w := w.alloc (strBlock (splitL a))) ((splitL b).map Value.string).toArray 9 i
      rw [World.size_alloc] at this
      rw [show strBlock (splitL b) = .cells ((splitL b).map Value.string).toArray 9 from rfl, this]
      simp)
  have HL : Hid (lessB a b = decide (cmpL (splitL a) (splitL b) < 0)) := rfl
  rw [World.size_alloc] at HS2
  generalize strBlock (splitL a) = oa at *
  generalize strBlock (splitL b) = ob at *
  clear H la lb hA
  generalize cmpL (splitL a) (splitL b) = c at *
  go_enter Tryd.func47, Tryd.ntmps47
  go_wp2_with fail
  refine HS1.mono ?_
  rintro e w1 ⟨rfl, rfl⟩
  go_wp2_with fail
  refine HS2.mono ?_
  rintro e w1 ⟨rfl, rfl⟩
  go_wp2_with fail
  refine HC.mono ?_
  rintro e w1 ⟨rfl, rfl⟩
  go_wp2
  go_ret
  exact ⟨by rw [HL.out]; rfl, rfl⟩

def lessC (a b : ByteArray) : Int := if lessB a b then -1 else if lessB b a then 1 else 0
theorem alloc_grow (w : World) (o : Obj) (os : Array Obj) : (grow w os).alloc o = grow w (os.push o) := by
  show World.mk _ _ _ _ _ = World.mk _ _ _ _ _
  congr 1
  simp [grow]
theorem alloc_grow0 (w : World) (o : Obj) : w.alloc o = grow w #[o] := by
  show World.mk _ _ _ _ _ = World.mk _ _ _ _ _
  congr 1

set_option maxHeartbeats 400000 in
theorem paths1_calls (H : SplitSaid) (a b : ByteArray) (w : World) (hA : Amb w) (ha : a.toList.isEmpty = false) (hb : b.toList.isEmpty = false) (hsa : a.size ≤ 100000) (hsb : b.size ≤ 100000) :
    Calls Tryd.prog 46 #[.string a, .string b] w fun e w' => e = .returned (.int .i64 (lessC a b)) ∧ ∃ os, w' = grow w os := by
  have HL1 := Less_calls H a b w hA ha hb hsa hsb
  have HL2 := Less_calls H b a ((w.alloc (strBlock (splitL a))).alloc (strBlock (splitL b))) ((hA.alloc _).alloc _) hb ha hsb hsa
  have hC : Hid (lessC a b = if lessB a b then -1 else if lessB b a then 1 else 0) := rfl
  have e1 : Hid (∀ oa ob : Obj, (w.alloc oa).alloc ob = grow w #[oa, ob]) := fun oa ob => by rw [alloc_grow0 w oa, alloc_grow]; rfl
  have e2 : Hid (∀ oa ob oc od : Obj, (((w.alloc oa).alloc ob).alloc oc).alloc od = grow w #[oa, ob, oc, od]) := fun oa ob oc od => by rw [alloc_grow0 w oa, alloc_grow, alloc_grow, alloc_grow]; rfl
  generalize strBlock (splitL a) = oa at *
  generalize strBlock (splitL b) = ob at *
  clear H hA
  generalize lessB a b = q1 at *
  generalize lessB b a = q2 at *
  cases q1 with
  | true =>
    go_enter Tryd.func46, Tryd.ntmps46
    go_wp2_with fail
    refine HL1.mono ?_
    rintro e w1 ⟨rfl, rfl⟩
    go_wp2
    go_ret
    exact ⟨by rw [hC.out]; rfl, _, e1.out _ _⟩
  | false =>
    cases q2 with
    | true =>
      go_enter Tryd.func46, Tryd.ntmps46
      go_wp2_with fail
      refine HL1.mono ?_
      rintro e w1 ⟨rfl, rfl⟩
      go_wp2_with fail
      refine HL2.mono ?_
      rintro e w1 ⟨rfl, rfl⟩
      go_wp2
      go_ret
      exact ⟨by rw [hC.out]; rfl, _, e2.out _ _ _ _⟩
    | false =>
      go_enter Tryd.func46, Tryd.ntmps46
      go_wp2_with fail
      refine HL1.mono ?_
      rintro e w1 ⟨rfl, rfl⟩
      go_wp2_with fail
      refine HL2.mono ?_
      rintro e w1 ⟨rfl, rfl⟩
      go_wp2
      go_ret
      exact ⟨by rw [hC.out]; rfl, _, e2.out _ _ _ _⟩

/-! ### Check -/
abbrev Small := { s : ByteArray // s.size ≤ 1000000 }
instance : Inhabited Small := ⟨⟨ByteArray.empty, by decide⟩⟩
def ContainsSaid : Prop := ∀ (enc : Small → Value) (p : Small → Bool) (g : Nat) (lb : Array Value) (eg : ∀ args w, (callFunc g args).run Tryd.prog w = .ok (.enter g args) w) (b off n c : Nat) (zs : List Small) (w : World)
    (hp : PredAt Tryd.prog g lb enc p w) (hz : n ≤ zs.length) (hbig : n ≤ 9223372036854775807) (hc : ∀ j, j < zs.length → w.cell? ⟨b, off + j, none⟩ = some (enc zs[j]!)),
    Calls Tryd.prog 49 #[.slice (some ⟨b, off, none⟩) n c, .func (.func g) #[] lb] w fun e w' => e = .returned (.bool ((zs.take n).any p)) ∧ ∃ q, w' = w.drewN q

theorem Check1_calls (x : ByteArray) (w : World) (h : x.size ≤ 1000000) : Calls Tryd.prog 50 #[.string x] w fun e w' => e = .returned (.bool (!(nameB x))) ∧ w = w' := by
  have HN := Name_calls x w h
  generalize nameB x = q at *
  go_enter Tryd.func50, Tryd.ntmps50
  go_wp2_with (go_at_call 51; refine HN.mono ?_; rintro e w' ⟨rfl, rfl⟩)
  go_ret
  exact ⟨rfl, rfl⟩

def checkB (p : ByteArray) : Int := if 128 < p.size then 5 else if p.toList.isEmpty || (splitL p).any (fun x => !(nameB x)) then 6 else if 8 < (splitL p).length then 5 else 0

theorem names_any (l : List ByteArray) (h : ∀ x ∈ l, x.size ≤ 1000000) : ∃ zs : List Small, zs.map (·.1) = l ∧ zs.length = l.length :=
  ⟨l.attach.map (fun x => ⟨x.1, h x.1 x.2⟩), by simp, by simp⟩

set_option maxHeartbeats 800000 in
theorem Check_calls (H : SplitSaid) (HC : ContainsSaid) (p : ByteArray) (w : World) (hA : Amb w) :
    Calls Tryd.prog 39 #[.string p] w fun e w' => e = .returned (.int .i64 (checkB p)) ∧ Below w.heap.size w w' := by
  by_cases h1 : 128 < p.size
  · have hx : checkB p = 5 := by simp [checkB, h1]
    have HX := Lib.hid hx; clear hx H HC hA
    have h1' : decide (128 < (p.size : Int)) = true := by simp; omega
    go_enter Tryd.func39, Tryd.ntmps39
    go_wp2
    go_ret
    exact ⟨by rw [HX.out]; rfl, Below.refl _ _⟩
  · have h1' : decide (128 < (p.size : Int)) = false := by simp; omega
    by_cases h2 : p.toList.isEmpty = true
    · have hx : checkB p = 6 := by simp [checkB, h1, h2]
      have hp : p = ⟨#[]⟩ := by
        have : p.toList = [] := by simpa using h2
        rw [ByteArray.toList_eq] at this
        cases p with | mk d => cases d with | mk l => simp at this; subst this; rfl
      subst hp
      have HX := Lib.hid hx; clear hx H HC hA h2 h1
      have HS := Split_empty w
      go_enter Tryd.func39, Tryd.ntmps39
      go_wp2_with fail
      refine HS.mono ?_
      rintro e w1 ⟨rfl, rfl⟩
      go_wp2
      go_ret
      exact ⟨by rw [HX.out]; rfl, Below.refl _ _⟩
    · have h2' : p.toList.isEmpty = false := by simpa using h2
      have HS := Split_calls H p w hA h2' (by omega)
      have hlen := splitL_length p
      have hle := splitL_len_le p
      obtain ⟨zs, hz, hzl⟩ := names_any (splitL p) (fun x hx => by have := splitL_size hx; omega)
      have hany : (splitL p).any (fun x => !(nameB x)) = zs.any (fun x => !(nameB x.1)) := by rw [← hz, List.any_map]; rfl
      have HC1 : ∀ W : World, Below w.heap.size w W → (∀ j, j < zs.length → W.cell? ⟨w.heap.size, 0 + j, none⟩ = some (.string zs[j]!.1)) → _ := fun W _ hc => HC (fun x => .string x.1) (fun x => !(nameB x.1)) 50 #[] (enters_of Tryd.func50 (by kernel_rfl) rfl) w.heap.size 0 (splitL p).length (splitL p).length zs W
        (fun W' x _ => by
          unfold FnGives
          exact (Check1_calls x.1 W' x.2).mono fun e w' ⟨he, hw⟩ => ⟨he, 0, by rw [← hw]; rfl⟩) (by omega) (by omega) hc
      have HC2 := HC1 (w.alloc (strBlock (splitL p))) ((Below.refl _ w).alloc (Nat.le_refl _) _) (by
        intro j hj
        have : zs[j]!.1 = (splitL p)[j]'(by omega) := by
          simp only [← hz, List.getElem_map, getElem!_pos zs j hj]
        rw [this, Nat.zero_add, show strBlock (splitL p) = .cells ((splitL p).map Value.string).toArray 9 from rfl, World.cell?_alloc_new]
        have hj' : j < (splitL p).length := by omega
        simp [hj'])
      have htk : zs.take (splitL p).length = zs := List.take_of_length_le (by omega)
      rw [htk, ← hany] at HC2
      clear HC1 H HC hA hz htk hany
      have HX : Hid (checkB p = if (splitL p).any (fun x => !(nameB x)) then 6 else if 8 < (splitL p).length then 5 else 0) := by
        show checkB p = _
        simp [checkB, h1, h2']
      generalize (splitL p).any (fun x => !(nameB x)) = q at *
      generalize strBlock (splitL p) = o at *
      have hpos : ((splitL p).length == 0) = false := beq_eq_false_iff_ne.2 (by omega)
      have hpos' : (((splitL p).length : Int) == 0) = false := beq_eq_false_iff_ne.2 (by omega)
      have hln : (splitL p).length ≤ 1000 := by omega
      clear hlen hle hzl
      generalize (splitL p).length = n at *
      clear h1 h2
      cases q with
      | true =>
        go_enter Tryd.func39, Tryd.ntmps39
        go_wp2_with fail
        refine HS.mono ?_
        rintro e w1 ⟨rfl, rfl⟩
        go_wp2_with fail
        refine HC2.mono ?_
        rintro e w1 ⟨rfl, q, rfl⟩
        go_wp2
        go_ret
        exact ⟨by rw [HX.out]; rfl, below_drewN ((Below.refl _ w).alloc (Nat.le_refl _) _) _⟩
      | false =>
        by_cases h8 : 8 < n
        · have h8' : decide (8 < (n : Int)) = true := by simp; omega
          go_enter Tryd.func39, Tryd.ntmps39
          go_wp2_with fail
          refine HS.mono ?_
          rintro e w1 ⟨rfl, rfl⟩
          go_wp2_with fail
          refine HC2.mono ?_
          rintro e w1 ⟨rfl, q, rfl⟩
          go_wp2
          go_ret
          exact ⟨by rw [HX.out, if_neg (by simp), if_pos h8]; rfl, below_drewN ((Below.refl _ w).alloc (Nat.le_refl _) _) _⟩
        · have h8' : decide (8 < (n : Int)) = false := by simp; omega
          go_enter Tryd.func39, Tryd.ntmps39
          go_wp2_with fail
          refine HS.mono ?_
          rintro e w1 ⟨rfl, rfl⟩
          go_wp2_with fail
          refine HC2.mono ?_
          rintro e w1 ⟨rfl, q, rfl⟩
          go_wp2
          go_ret
          exact ⟨by rw [HX.out, if_neg (by simp), if_neg h8]; rfl, below_drewN ((Below.refl _ w).alloc (Nat.le_refl _) _) _⟩
end Go.Proofs.YtihojcjijbidpaaDoor
