/- A region that draws its order: what only reads may be taken first as long as no store can come before it. (After the kit's own law on a condition S that is held. Here S need hold only as long as no operation of T, a store, has come up; U holds throughout.) -/
import Derived.OrdersHeld
import Derived.Deep.RegionLaw
namespace Go.Proofs.YtihojcjijbidpaaDoor
open Go

section
variable {P : Program} {ops : Array Oper} {Q : Exit → Act → World → Prop} {md : Region.Mode} {S U : World → Prop} {T L : List Nat}

/-- Each of T waits, by an edge of its own, for each of L. -/
def waits2 (md : Region.Mode) (ops : Array Oper) (T L : List Nat) : Bool :=
  T.all fun t => match ops[t]? with
    | some o => L.all fun l => o.after.any fun e => Region.binds md e && e.on == l
    | none => false

theorem waits2_spec (h : waits2 md ops T L = true) {t l : Nat} (ht : t ∈ T) (hl : l ∈ L) {listed : Array Bool} (hr : t ∈ Region.ready md ops listed) : listed.getD l true = true := by
  have h1 := List.all_eq_true.1 h t ht
  obtain ⟨_, o, ho, hall⟩ := mem_ready.1 hr
  simp only [ho] at h1
  have h2 := List.all_eq_true.1 h1 l hl
  obtain ⟨e, he, hb⟩ := Array.any_eq_true'.1 h2
  simp only [Bool.and_eq_true, beq_iff_eq] at hb
  have h3 := hall e he hb.1
  rw [hb.2] at h3
  rcases Nat.lt_or_ge l listed.size with h' | h'
  · simp [h'] at h3 ⊢; exact h3
  · simp [Array.getElem?_eq_none h'] at h3


/-- No operation of T has come up. -/
def noneOf (T : List Nat) (listed : Array Bool) : Prop := ∀ t ∈ T, listed.getD t true = false

def wpAnyF (P : Program) (md : Region.Mode) (ops : Array Oper) (Q : Exit → Act → World → Prop) (S : World → Prop) (T : List Nat) (U : World → Prop) : Nat → Array Bool → Act → World → Prop
  | 0, listed, a, w => Region.ready md ops listed = [] ∧ Q .normal a w
  | fuel + 1, listed, a, w =>
    (Region.ready md ops listed = [] → Q .normal a w) ∧
    ∀ i ∈ Region.ready md ops listed, wpOp P ops Q i (fun a' w' => ((noneOf T (listed.setIfInBounds i true) → S w') ∧ U w') ∧ wpAnyF P md ops Q S T U fuel (listed.setIfInBounds i true) a' w') a w

theorem wpAny_of_F : ∀ (fuel : Nat) (listed : Array Bool) (a : Act) (w : World), wpAnyF P md ops Q S T U fuel listed a w → wpAny P md ops Q fuel listed a w
  | 0, _, _, _, h => h
  | fuel + 1, _, _, _, h => ⟨h.1, fun i hi => wpOp_mono (fun a' w' h' => wpAny_of_F fuel _ a' w' h'.2) (h.2 i hi)⟩

theorem noneOf_set {i : Nat} {listed : Array Bool} (hi : i ∉ T) : noneOf T (listed.setIfInBounds i true) ↔ noneOf T listed := by
  unfold noneOf
  constructor
  · intro h t ht
    have := h t ht
    rwa [getD_set_ne true (show i ≠ t from fun e => hi (by rw [e]; exact ht))] at this
  · intro h t ht
    rw [getD_set_ne true (show i ≠ t from fun e => hi (by rw [e]; exact ht))]
    exact h t ht

/-- An operation that yields under S (as long as no store has come up) or under U. -/
def YieldsFor (P : Program) (ops : Array Oper) (S U : World → Prop) (byS : Bool) (o : Oper) (v : Value) (a : Act) : Prop := if byS then YieldsIf P ops S o v a else YieldsIf P ops U o v a

theorem wpAnyF_first {i : Nat} {oi : Oper} {v : Value} (byS : Bool) (hi : ops[i]? = some oi) (hsel : ∀ (j : Nat) (o : Oper) cs b, ops[j]? = some o → o.op ≠ .select cs b)
    (hQ : ∀ c a w, Q (.panic c) (a.put oi.dst v) w → Q (.panic c) a w) (hiT : i ∉ T) (hT : byS = true → waits2 md ops T [i] = true) :
    ∀ (fuel : Nat) (listed : Array Bool) (a : Act) (w : World),
      (∀ j oj, ops[j]? = some oj → j ≠ i → listed.getD j true = false → (∀ e ∈ oj.after, Region.binds md e = true → e.on ≠ i) → oi.apart ops oj = true) →
      i ∈ Region.ready md ops listed → (if byS then YieldsIf P ops S oi v a else YieldsIf P ops U oi v a) → (noneOf T listed → S w) → U w → (byS = true → noneOf T listed) →
      wpAnyF P md ops Q S T U fuel (listed.setIfInBounds i true) (a.put oi.dst v) w → wpAnyF P md ops Q S T U (fuel + 1) listed a w := by
  have key : ∀ {a : Act} {w : World} {listed : Array Bool} {K : Act → World → Prop}, (if byS then YieldsIf P ops S oi v a else YieldsIf P ops U oi v a) → (noneOf T listed → S w) → U w → (byS = true → noneOf T listed) → K (a.put oi.dst v) w → wpOp P ops Q i K a w := by
    intro a w listed K hy hS hU hn h
    cases byS with
    | true => exact YieldsIf.wpOp hi hy (hS (hn rfl)) h
    | false => exact YieldsIf.wpOp hi hy hU h
  have key2 : ∀ {j : Nat} {oj : Oper} {K : Act → World → Prop} {a : Act} {w : World}, ops[j]? = some oj → oi.apart ops oj = true → (if byS then YieldsIf P ops S oi v a else YieldsIf P ops U oi v a) → wpOp P ops Q j K (a.put oi.dst v) w →
      wpOp P ops Q j (fun a' w' => (if byS then YieldsIf P ops S oi v a' else YieldsIf P ops U oi v a') ∧ K (a'.put oi.dst v) w') a w := by
    intro j oj K a w hj hap hy h
    cases byS with
    | true => exact wpOp_putIf hj hap (fun cs b => hsel i oi cs b hi) (fun cs b => hsel j oj cs b hj) hQ hy h
    | false => exact wpOp_putIf hj hap (fun cs b => hsel i oi cs b hi) (fun cs b => hsel j oj cs b hj) hQ hy h
  intro fuel
  induction fuel with
  | zero =>
    intro listed a w _ hr hy hS hU hn H
    refine ⟨fun h => (by rw [h] at hr; cases hr), fun j hj => ?_⟩
    by_cases hji : j = i
    · subst hji; exact key hy hS hU hn ⟨⟨fun h => hS ((noneOf_set hiT).1 h), hU⟩, H⟩
    · have := ready_mono hj hji
      rw [H.1] at this
      cases this
  | succ fuel ih =>
    intro listed a w hfree hr hy hS hU hn H
    refine ⟨fun h => (by rw [h] at hr; cases hr), fun j hj => ?_⟩
    by_cases hji : j = i
    · subst hji; exact key hy hS hU hn ⟨⟨fun h => hS ((noneOf_set hiT).1 h), hU⟩, H⟩
    · have hjT : byS = true → j ∉ T := fun hb q => by
        have e1 := waits2_spec (l := i) (hT hb) q (by simp) hj
        have e2 := (mem_ready.1 hr).1
        rw [e1] at e2
        exact absurd e2 (by simp)
      have h1 := H.2 j (ready_mono hj hji)
      obtain ⟨hjun, oj, hoj, hall⟩ := mem_ready.1 hj
      have hnot : ∀ e ∈ oj.after, Region.binds md e = true → e.on ≠ i := fun e he hb heq => by
        have h1 := hall e he hb
        have h0 := (mem_ready.1 hr).1
        rw [heq] at h1
        rcases Nat.lt_or_ge i listed.size with h' | h'
        · simp [h'] at h0 h1; rw [h0] at h1; cases h1
        · simp [Array.getElem?_eq_none h'] at h1
      have h2 := key2 hoj (hfree j oj hoj hji hjun hnot) hy h1
      have hfree' : ∀ k ok, ops[k]? = some ok → k ≠ i → (listed.setIfInBounds j true).getD k true = false →
          (∀ e ∈ ok.after, Region.binds md e = true → e.on ≠ i) → oi.apart ops ok = true := fun k ok hk hki hun hno => by
        refine hfree k ok hk hki ?_ hno
        by_cases hjk : j = k
        · subst hjk; exact hjun
        · rw [getD_set_ne true hjk] at hun; exact hun
      have hcomm : (listed.setIfInBounds i true).setIfInBounds j true = (listed.setIfInBounds j true).setIfInBounds i true := Array.setIfInBounds_comm _ _ (Ne.symm hji)
      rw [hcomm] at h2
      refine wpOp_mono (fun a' w' h3 => ?_) h2
      obtain ⟨hy', ⟨hS', hU'⟩, h4⟩ := h3
      have hS'' : noneOf T (listed.setIfInBounds j true) → S w' := fun q => hS' ((noneOf_set hiT).2 q)
      exact ⟨⟨hS'', hU'⟩, ih (listed.setIfInBounds j true) a' w' hfree' (ready_mono hr (Ne.symm hji)) hy' hS'' hU' (fun hb => (noneOf_set (hjT hb)).2 (hn hb)) h4⟩

/-- No operation of T has come up, as a Bool. -/
def noneOfB (T : List Nat) (listed : Array Bool) : Bool := T.all fun t => listed.getD t true == false
theorem noneOf_of {listed : Array Bool} (h : noneOfB T listed = true) : noneOf T listed := fun t ht => by simpa using List.all_eq_true.1 h t ht

/-- Take number i first, under S. -/
theorem wpAnyF_take {i : Nat} {oi : Oper} {v : Value} {fuel : Nat} {listed : Array Bool} {a : Act} {w : World} (hi : ops[i]? = some oi)
    (hs : Region.noSelect ops = true) (hf : Region.free md ops listed i = true) (hr : (Region.ready md ops listed).contains i = true) (hT : waits2 md ops T [i] = true) (hiT : T.contains i = false) (hn : noneOfB T listed = true)
    (hQ : ∀ c a w, Q (.panic c) (a.put oi.dst v) w → Q (.panic c) a w) (hy : YieldsIf P ops S oi v a) (hS : S w) (hU : U w)
    (h : wpAnyF P md ops Q S T U fuel (listed.setIfInBounds i true) (a.put oi.dst v) w) : wpAnyF P md ops Q S T U (fuel + 1) listed a w :=
  wpAnyF_first true hi (Region.noSelect_spec hs) hQ (by simpa using hiT) (fun _ => hT) fuel listed a w (Region.free_spec hi hf) (by simpa using hr) hy (fun _ => hS) hU (fun _ => noneOf_of hn) h

/-- Take number i first, under U. -/
theorem wpAnyF_takeU {i : Nat} {oi : Oper} {v : Value} {fuel : Nat} {listed : Array Bool} {a : Act} {w : World} (hi : ops[i]? = some oi)
    (hs : Region.noSelect ops = true) (hf : Region.free md ops listed i = true) (hr : (Region.ready md ops listed).contains i = true) (hiT : T.contains i = false)
    (hQ : ∀ c a w, Q (.panic c) (a.put oi.dst v) w → Q (.panic c) a w) (hy : YieldsIf P ops U oi v a) (hS : S w) (hU : U w)
    (h : wpAnyF P md ops Q S T U fuel (listed.setIfInBounds i true) (a.put oi.dst v) w) : wpAnyF P md ops Q S T U (fuel + 1) listed a w :=
  wpAnyF_first false hi (Region.noSelect_spec hs) hQ (by simpa using hiT) (fun h => by cases h) fuel listed a w (Region.free_spec hi hf) (by simpa using hr) hy (fun _ => hS) hU (fun h => by cases h) h

/-- One operation alone may come up. -/
theorem wpAnyF_one {i : Nat} {o : Oper} {fuel : Nat} {listed : Array Bool} {a : Act} {w : World} (hi : ops[i]? = some o) (hr : Region.ready md ops listed = [i])
    (h : ∀ K : Act → World → Prop, (∀ a' w', (noneOfB T (listed.setIfInBounds i true) = false ∨ S w') → U w' → wpAnyF P md ops Q S T U fuel (listed.setIfInBounds i true) a' w' → K a' w') →
      if Region.wanted o (yielded ops a.tmps) = true then Oper.wp P o a w K Q else K (a.put o.dst undef) w) : wpAnyF P md ops Q S T U (fuel + 1) listed a w := by
  refine ⟨(fun h0 => by rw [hr] at h0; cases h0), fun j hj => ?_⟩
  rw [hr] at hj
  simp at hj
  subst hj
  unfold wpOp
  simp only [hi]
  have := h (fun a' w' => ((noneOf T (listed.setIfInBounds j true) → S w') ∧ U w') ∧ wpAnyF P md ops Q S T U fuel (listed.setIfInBounds j true) a' w') (fun a' w' h1 h2 h3 => ⟨⟨fun q => by
    rcases h1 with h1 | h1
    · have : noneOfB T (listed.setIfInBounds j true) = true := List.all_eq_true.2 (fun t ht => by simpa using q t ht)
      rw [h1] at this; cases this
    · exact h1, h2⟩, h3⟩)
  split
  · rename_i hw
    rw [if_pos hw] at this
    exact .inl this
  · rename_i hw
    rw [if_neg hw] at this
    exact this

theorem wpAnyF_done {listed : Array Bool} {a : Act} {w : World} (hr : Region.ready md ops listed = []) (h : Q .normal a w) : ∀ fuel, wpAnyF P md ops Q S T U fuel listed a w
  | 0 => ⟨hr, h⟩
  | _ + 1 => ⟨fun _ => h, by rw [hr]; simp⟩

theorem wp_region_F {id : Nat} {a : Act} {w : World} (S : World → Prop) (T : List Nat) (U : World → Prop) (hm : P.follows .mixedOrders = true)
    (h : wpAnyF P .any ops Q S T U ops.size (Array.replicate ops.size false) a w.drew) : (Code.region id ops true).wp P Q a w :=
  wp_region_any hm (wpAny_of_F _ _ _ _ h)
end
end Go.Proofs.YtihojcjijbidpaaDoor
