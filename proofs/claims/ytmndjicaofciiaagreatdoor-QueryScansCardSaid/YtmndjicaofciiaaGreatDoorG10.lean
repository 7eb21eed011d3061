/-
  A region that draws its order and holds several operations that lay blocks, in whatever order: what each answers is told by a property that lasts.
-/
import Derived.Test.YtmndjicaofciiaaGreatDoorG7
namespace Go.Proofs.YtmndjicaofciiaaGreatDoor
open Go Go.RowKit

/-- A free operation: its number, the slot of what it answers, the slots of free operations that it reads. -/
structure FO where
  idx : Nat
  slot : Nat
  deps : List Nat

def putL (ds : List Nat) (vs : Nat → Value) (a : Act) : Act := ds.foldl (fun a d => a.put (some d) (vs d)) a
theorem putL_size (vs : Nat → Value) : ∀ (ds : List Nat) (a : Act), (putL ds vs a).tmps.size = a.tmps.size ∧ (putL ds vs a).defers = a.defers
  | [], _ => ⟨rfl, rfl⟩
  | d :: ds, a => by
    obtain ⟨h1, h2⟩ := putL_size vs ds (a.put (some d) (vs d))
    exact ⟨h1.trans (by simp [Act.put]), h2.trans rfl⟩
theorem putL_get (vs : Nat → Value) (t : Nat) : ∀ (ds : List Nat) (a : Act), t < a.tmps.size → (putL ds vs a).tmps[t]? = if t ∈ ds then some (vs t) else a.tmps[t]?
  | [], a, _ => by simp [putL]
  | d :: ds, a, ht => by
    have h := putL_get vs t ds (a.put (some d) (vs d)) (by simpa [Act.put] using ht)
    show (putL ds vs (a.put (some d) (vs d))).tmps[t]? = _
    rw [h]
    by_cases e : t ∈ ds
    · rw [if_pos e, if_pos (List.mem_cons_of_mem _ e)]
    · rw [if_neg e]
      by_cases e2 : t = d
      · subst e2
        rw [if_pos List.mem_cons_self]
        simp [Act.put, ht]
      · rw [if_neg (by simp [e, e2])]
        simp only [Act.put]
        exact Array.getElem?_setIfInBounds_ne (fun e => e2 e.symm)

section
variable {P : Program} {md : Region.Mode} {ops : Array Oper} {C : World → Prop} {S : Nat → Value → World → Prop} {R : World → World → Prop}

def tmpsOf (o : Oper) : List Nat := o.op.operands.toList.filterMap fun | .tmp t => some t | _ => none
def specOk (md : Region.Mode) (ops : Array Oper) (hs : List FO) : Bool := hs.all fun h =>
  (match ops[h.idx]? with
   | some o => o.guard.isNone && (o.dst == some h.slot) && (hs.all fun k => !(tmpsOf o).contains k.slot || h.deps.contains k.slot)
   | none => false) &&
  (h.deps.all fun d => hs.any fun k => (k.slot == d) && Region.waitsFor md ops h.idx k.idx) &&
  (hs.all fun k => (h.idx == k.idx) == (h.slot == k.slot))
def freeOk (md : Region.Mode) (ops : Array Oper) (hs : List FO) (ts : List (Bool × Nat)) : Nat → Array Bool → Bool
  | 0, listed => (hs.all fun h => listed.getD h.idx false) && walkB md ops ts listed
  | f + 1, listed => !(Region.ready md ops listed).isEmpty && (Region.ready md ops listed).all fun i => (hs.any fun h => h.idx == i) && freeOk md ops hs ts f (listed.setIfInBounds i true)

/-- What is to be shown of each free operation. -/
def freeW (P : Program) (ops : Array Oper) (C : World → Prop) (S : Nat → Value → World → Prop) (R : World → World → Prop) (a1 : Act) : List FO → Prop
  | [] => True
  | h :: rest => (∀ o, ops[h.idx]? = some o → ∀ vs w, C w → (∀ d ∈ h.deps, S d (vs d) w) → ∀ K : Value → World → Prop, (∀ v w', S h.slot v w' → R w w' → K v w') → o.wp P (putL h.deps vs a1) w (fun a' w' => a'.defers = a1.defers ∧ K (a'.tmps.getD h.slot undef) w') noQ) ∧ freeW P ops C S R a1 rest
theorem freeW_step {a1 : Act} {h : FO} {rest : List FO} {o : Oper} (ho : ops[h.idx]? = some o)
    (h1 : ∀ vs w, C w → (∀ d ∈ h.deps, S d (vs d) w) → ∀ K : Value → World → Prop, (∀ v w', S h.slot v w' → R w w' → K v w') → o.wp P (putL h.deps vs a1) w (fun a' w' => a'.defers = a1.defers ∧ K (a'.tmps.getD h.slot undef) w') noQ)
    (h2 : freeW P ops C S R a1 rest) : freeW P ops C S R a1 (h :: rest) :=
  ⟨fun o' ho' => by cases ho.symm.trans ho'; exact h1, h2⟩
theorem freeW_mem {a1 : Act} : ∀ {hs : List FO}, freeW P ops C S R a1 hs → ∀ h ∈ hs, ∀ o, ops[h.idx]? = some o → ∀ vs w, C w → (∀ d ∈ h.deps, S d (vs d) w) → ∀ K : Value → World → Prop, (∀ v w', S h.slot v w' → R w w' → K v w') → o.wp P (putL h.deps vs a1) w (fun a' w' => a'.defers = a1.defers ∧ K (a'.tmps.getD h.slot undef) w') noQ
  | [], _, h, hm => by cases hm
  | k :: rest, hw, h, hm => by
    rcases List.mem_cons.1 hm with rfl | hm
    · exact hw.1
    · exact freeW_mem hw.2 h hm

structure FreeInv (hs : List FO) (C : World → Prop) (S : Nat → Value → World → Prop) (a1 : Act) (listed : Array Bool) (a : Act) (w : World) : Prop where
  defers : a.defers = a1.defers
  size : a.tmps.size = a1.tmps.size
  other : ∀ t, (∀ h ∈ hs, h.slot = t → listed.getD h.idx false = false) → a.tmps[t]? = a1.tmps[t]?
  spec : ∀ h ∈ hs, listed.getD h.idx false = true → S h.slot (a.tmps.getD h.slot undef) w
  cls : C w

theorem getD_of_get? {α : Type} {a b : Array α} {t : Nat} {d : α} (h : a[t]? = b[t]?) : a.getD t d = b.getD t d := by
  rw [Array.getD_eq_getD_getElem?, Array.getD_eq_getD_getElem?, h]

theorem wpC_free {Q : Act → World → Prop} {hs : List FO} {ts : List (Bool × Nat)} {a1 : Act} (hsel : Region.noSelect ops = true) (hsp : specOk md ops hs = true) (hsz : ∀ h ∈ hs, h.slot < a1.tmps.size)
    (hS : ∀ t v w w', S t v w → R w w' → S t v w') (hR : ∀ w w', C w → R w w' → C w') (hst : freeW P ops C S R a1 hs)
    (hfin : ∀ vs w, C w → (∀ h ∈ hs, S h.slot (vs h.slot) w) → walkW P ops Q ts C (putL (hs.map FO.slot) vs a1) w) :
    ∀ (f : Nat) (listed : Array Bool) (a : Act) (w : World), freeOk md ops hs ts f listed = true → FreeInv hs C S a1 listed a w → wpC P md ops C Q (f + ts.length) listed a w
  | 0, listed, a, w, hB, inv => by
    rw [Nat.zero_add]
    simp only [freeOk, Bool.and_eq_true, List.all_eq_true] at hB
    have ha : a = putL (hs.map FO.slot) (fun t => a.tmps.getD t undef) a1 := by
      obtain ⟨p1, p2⟩ := putL_size (fun t => a.tmps.getD t undef) (hs.map FO.slot) a1
      have ht : a.tmps = (putL (hs.map FO.slot) (fun t => a.tmps.getD t undef) a1).tmps := by
        apply Array.ext_getElem?
        intro t
        by_cases htl : t < a1.tmps.size
        · rw [putL_get _ t _ _ htl]
          by_cases hm : t ∈ hs.map FO.slot
          · rw [if_pos hm, Array.getElem?_eq_getElem (by rw [inv.size]; exact htl)]
            congr 1
            simp [inv.size, htl]
          · rw [if_neg hm]
            exact inv.other t (fun h hh e => absurd (List.mem_map.2 ⟨h, hh, e⟩) hm)
        · rw [Array.getElem?_eq_none (by rw [inv.size]; omega), Array.getElem?_eq_none (by rw [p1]; omega)]
      have hd : a.defers = (putL (hs.map FO.slot) (fun t => a.tmps.getD t undef) a1).defers := inv.defers.trans p2.symm
      generalize putL (hs.map FO.slot) (fun t => a.tmps.getD t undef) a1 = b at ht hd
      cases a
      cases b
      simp only at ht hd
      rw [ht, hd]
    refine wpC_walk hsel ts C listed a w hB.2 ?_
    have h := hfin (fun t => a.tmps.getD t undef) w inv.cls (fun h hh => inv.spec h hh (hB.1 h hh))
    rwa [← ha] at h
  | f + 1, listed, a, w, hB, inv => by
    simp only [freeOk, Bool.and_eq_true, List.all_eq_true, List.any_eq_true, Bool.not_eq_true', beq_iff_eq] at hB
    obtain ⟨hne, hall⟩ := hB
    rw [show f + 1 + ts.length = (f + ts.length) + 1 by omega]
    refine ⟨inv.cls, fun h0 => (by rw [h0] at hne; simp at hne), fun i hi => ?_⟩
    obtain ⟨⟨h, hh, rfl⟩, hB2⟩ := hall i hi
    have hspec := hsp
    simp only [specOk, List.all_eq_true, Bool.and_eq_true] at hspec
    obtain ⟨⟨q1, q2⟩, q3⟩ := hspec h hh
    cases ho : ops[h.idx]? with
    | none => rw [ho] at q1; cases q1
    | some o =>
      rw [ho] at q1
      simp only [Bool.and_eq_true, List.all_eq_true, Bool.or_eq_true, Bool.not_eq_true', beq_iff_eq, Option.isNone_iff_eq_none] at q1
      obtain ⟨⟨g1, g2⟩, g3⟩ := q1
      obtain ⟨hun, oj, hoj, hwait⟩ := mem_ready.1 hi
      obtain rfl : oj = o := Option.some.inj (hoj.symm.trans ho)
      -- what it reads is listed
      have hdeps : ∀ d ∈ h.deps, ∃ k ∈ hs, k.slot = d ∧ listed.getD k.idx false = true := fun d hd => by
        obtain ⟨k, hk, e⟩ := List.any_eq_true.1 (q2 d hd)
        simp only [Bool.and_eq_true, beq_iff_eq] at e
        obtain ⟨oj', hoj', e', he', hb', hon'⟩ := Region.waitsFor_spec e.2
        obtain rfl : oj' = oj := Option.some.inj (hoj'.symm.trans ho)
        have := hwait e' he' hb'
        rw [hon'] at this
        exact ⟨k, hk, e.1, this⟩
      have hev : execOp a.eval oj = execOp (putL h.deps (fun t => a.tmps.getD t undef) a1).eval oj := by
        refine execOp_congr oj (fun cs b => Region.noSelect_spec hsel h.idx oj cs b ho) (fun x hx => ?_)
        cases x with
        | tmp t =>
          show a.tmps.getD t undef = (putL h.deps (fun t => a.tmps.getD t undef) a1).tmps.getD t undef
          by_cases htl : t < a1.tmps.size
          · have e2 : (putL h.deps (fun t => a.tmps.getD t undef) a1).tmps.getD t undef = if t ∈ h.deps then a.tmps.getD t undef else a1.tmps.getD t undef := by
              rw [Array.getD_eq_getD_getElem?, putL_get _ t _ _ htl]
              by_cases hnd : t ∈ h.deps
              · rw [if_pos hnd, if_pos hnd]; rfl
              · rw [if_neg hnd, if_neg hnd, Array.getD_eq_getD_getElem?]
            rw [e2]
            by_cases hnd : t ∈ h.deps
            · rw [if_pos hnd]
            · rw [if_neg hnd]
              refine getD_of_get? (inv.other t (fun k hk e => ?_))
              rcases g3 k hk with h3 | h3
              · exfalso
                have hmem : t ∈ tmpsOf oj := List.mem_filterMap.2 ⟨.tmp t, by simpa using hx, rfl⟩
                rw [e] at h3
                have : (tmpsOf oj).contains t = true := by simpa using hmem
                rw [this] at h3
                cases h3
              · rw [e] at h3
                exact absurd (by simpa using h3) hnd
          · rw [Array.getD_eq_getD_getElem?, Array.getD_eq_getD_getElem?, Array.getElem?_eq_none (by rw [inv.size]; exact Nat.le_of_not_lt htl), Array.getElem?_eq_none (by rw [(putL_size _ _ _).1]; exact Nat.le_of_not_lt htl)]
        | _ => rfl
      have hwp := freeW_mem hst h hh oj ho (fun t => a.tmps.getD t undef) w inv.cls (fun d hd => by
        obtain ⟨k, hk, e, hl⟩ := hdeps d hd
        have := inv.spec k hk hl
        rwa [e] at this) (fun v w' => S h.slot v w' ∧ R w w') (fun v w' h1 h2 => ⟨h1, h2⟩)
      -- the next state
      have hnext : ∀ u w', (S h.slot (((putL h.deps (fun t => a.tmps.getD t undef) a1).put oj.dst u).tmps.getD h.slot undef) w' ∧ R w w') → wpC P md ops C Q (f + ts.length) (listed.setIfInBounds h.idx true) (a.put oj.dst u) w' := fun u w' ⟨e2, e3⟩ => by
        rw [g2] at e2 ⊢
        have hsl := hsz h hh
        have huv : ((putL h.deps (fun t => a.tmps.getD t undef) a1).put (some h.slot) u).tmps.getD h.slot undef = u := by
          have hb : h.slot < (putL h.deps (fun t => a.tmps.getD t undef) a1).tmps.size := by rw [(putL_size _ _ _).1]; exact hsl
          generalize putL h.deps (fun t => a.tmps.getD t undef) a1 = b at hb
          simp [Act.put, hb]
        rw [huv] at e2
        have hlt : h.idx < listed.size := by
          rcases Nat.lt_or_ge h.idx listed.size with h' | h'
          · exact h'
          · simp [Array.getElem?_eq_none h'] at hun
        have hset : ∀ j, (listed.setIfInBounds h.idx true).getD j false = if j = h.idx then true else listed.getD j false := fun j => by
          by_cases e : j = h.idx
          · subst e; simp [hlt]
          · rw [if_neg e, getD_set_ne false (fun e' => e e'.symm)]
        refine wpC_free hsel hsp hsz hS hR hst hfin f _ _ _ hB2 ⟨inv.defers, by simp [Act.put, inv.size], fun t ht => ?_, fun k hk hl => ?_, hR _ _ inv.cls e3⟩
        · have hne : h.slot ≠ t := fun e => by
            have := ht h hh e
            rw [hset, if_pos rfl] at this
            cases this
          have h1 : (a.put (some h.slot) u).tmps[t]? = a.tmps[t]? := by
            simp only [Act.put]
            exact Array.getElem?_setIfInBounds_ne hne
          rw [h1]
          refine inv.other t (fun k hk e => ?_)
          have := ht k hk e
          rw [hset] at this
          split at this
          · cases this
          · exact this
        · by_cases e : k.idx = h.idx
          · have e' : k.slot = h.slot := by
              have h1 := q3 k hk
              rw [beq_iff_eq] at h1
              have h2 : (h.idx == k.idx) = true := by simp [e]
              rw [h2] at h1
              have := h1.symm
              simp only [beq_iff_eq] at this
              exact this.symm
            rw [e']
            have : (a.put (some h.slot) u).tmps.getD h.slot undef = u := by
              simp [Act.put, inv.size, hsl]
            rw [this]
            exact e2
          · have e' : k.slot ≠ h.slot := fun e' => by
              have h1 := q3 k hk
              rw [beq_iff_eq] at h1
              have h2 : (h.slot == k.slot) = true := by simp [e']
              rw [h2] at h1
              simp only [beq_iff_eq] at h1
              exact e h1.symm
            rw [hset, if_neg e] at hl
            have h1 : (a.put (some h.slot) u).tmps.getD k.slot undef = a.tmps.getD k.slot undef := getD_of_get? (by
              simp only [Act.put]
              exact Array.getElem?_setIfInBounds_ne (fun e => e' e.symm))
            rw [h1]
            exact hS _ _ _ _ (inv.spec k hk hl) e3
      unfold wpOp
      simp only [ho]
      have hw : Region.wanted oj (yielded ops a.tmps) = true := by unfold Region.wanted; rw [g1]
      simp only [hw, if_true]
      refine .inl ?_
      unfold Oper.wp at hwp ⊢
      rw [hev]
      generalize (execOp (putL h.deps (fun t => a.tmps.getD t undef) a1).eval oj).run P w = r at *
      cases r with
      | ok n w' =>
        cases n <;> simp only [Oper.upon] at hwp ⊢
        case value u => exact hnext u w' hwp.2
        case skip => exact hnext _ w' hwp.2
        case defer d =>
          obtain ⟨e1, -⟩ := hwp
          exfalso
          have e2 := (putL_size (fun t => a.tmps.getD t undef) h.deps a1).2
          generalize putL h.deps (fun t => a.tmps.getD t undef) a1 = b at e1 e2
          have := congrArg List.length e1
          rw [g2] at this
          simp [Act.put, e2] at this
        case enter f' args =>
          refine Calls.mono hwp fun e w'' he => ?_
          cases e with
          | returned u => exact hnext u w'' he.2
          | panicked c => exact he
          | outgrown => exact he
        case row row args => exact Rows.mono hwp fun u w'' he => hnext u w'' he.2
      | halt x w' => cases x <;> simp only [Oper.upon] at hwp <;> exact hwp.elim

/-- The reads, the free operations, the rest. -/
def regionFreeOk (ops : Array Oper) (hs : List FO) (ts : List (Bool × Nat)) : List Nat → Array Bool → Bool
  | [], listed => (hs.all fun h => !listed.getD h.idx false) && freeOk .any ops hs ts hs.length listed
  | k :: rest, listed => (Region.ready .any ops listed).contains k && Region.free .any ops listed k && regionFreeOk ops hs ts rest (listed.setIfInBounds k true)
theorem wpC_reads {Q : Act → World → Prop} {hs : List FO} {ts : List (Bool × Nat)} (hsel : Region.noSelect ops = true) (hsp : specOk .any ops hs = true)
    (hS : ∀ t v w w', S t v w → R w w' → S t v w') (hR : ∀ w w', C w → R w w' → C w') (w : World) (hC : C w) : ∀ (rs : List Nat) (listed : Array Bool) (a : Act), regionFreeOk ops hs ts rs listed = true →
    headW P ops C (fun a1 => (∀ h ∈ hs, h.slot < a1.tmps.size) ∧ freeW P ops C S R a1 hs ∧ ∀ vs w, C w → (∀ h ∈ hs, S h.slot (vs h.slot) w) → walkW P ops Q ts C (putL (hs.map FO.slot) vs a1) w) rs a → wpC P .any ops C Q (rs.length + (hs.length + ts.length)) listed a w
  | [], listed, a, hB, h => by
    simp only [regionFreeOk, Bool.and_eq_true, List.all_eq_true, Bool.not_eq_true'] at hB
    obtain ⟨h1, h2, h3⟩ := h
    rw [List.length_nil, Nat.zero_add]
    exact wpC_free hsel hsp h1 hS hR h2 h3 _ _ _ _ hB.2 ⟨rfl, rfl, fun _ _ => rfl, fun k hk hl => (by rw [hB.1 k hk] at hl; cases hl), hC⟩
  | k :: rest, listed, a, hB, h => by
    simp only [regionFreeOk, Bool.and_eq_true] at hB
    obtain ⟨⟨hr, hf⟩, hB'⟩ := hB
    obtain ⟨o, v, ho, hy, h⟩ := h
    rw [List.length_cons, show rest.length + 1 + (hs.length + ts.length) = (rest.length + (hs.length + ts.length)) + 1 by omega]
    exact wpC_first ho (Region.noSelect_spec hsel) _ listed a w (Region.free_spec ho hf) (by simpa using hr) hy (wpC_reads hsel hsp hS hR w hC rest _ _ hB' h)
def regFreeOk (ops : Array Oper) (rs : List Nat) (hs : List FO) (ts : List (Bool × Nat)) : Bool := Region.noSelect ops && decide (rs.length + (hs.length + ts.length) = ops.size) && specOk .any ops hs && regionFreeOk ops hs ts rs (Array.replicate ops.size false)
theorem wp_region_free {id : Nat} {Q : Exit → Act → World → Prop} {a : Act} {w : World} {l : List Oper} (rs : List Nat) (hs : List FO) (ts : List (Bool × Nat)) (C : World → Prop) (S : Nat → Value → World → Prop) (R : World → World → Prop) (hm : P.follows .mixedOrders = true) (hB : regFreeOk l.toArray rs hs ts = true) (hC : C w.drew)
    (hS : ∀ t v w w', S t v w → R w w' → S t v w') (hR : ∀ w w', C w → R w w' → C w')
    (h : headW P l.toArray C (fun a1 => (∀ h ∈ hs, h.slot < a1.tmps.size) ∧ freeW P l.toArray C S R a1 hs ∧ ∀ vs w, C w → (∀ h ∈ hs, S h.slot (vs h.slot) w) → walkW P l.toArray (fun a w => Q .normal a w) ts C (putL (hs.map FO.slot) vs a1) w) rs a) : (Code.region id l.toArray true).wp P Q a w := by
  simp only [regFreeOk, Bool.and_eq_true, decide_eq_true_eq] at hB
  obtain ⟨⟨⟨hsel, hlen⟩, hsp⟩, hB⟩ := hB
  refine wp_region_any hm (wpAny_of_wpC (C := C) (Q := fun a w => Q .normal a w) (fun _ _ h => h) _ _ _ _ ?_)
  rw [← hlen]
  exact wpC_reads hsel hsp hS hR w.drew hC rs _ a (by rw [hlen]; exact hB) h
end
end Go.Proofs.YtmndjicaofciiaaGreatDoor
