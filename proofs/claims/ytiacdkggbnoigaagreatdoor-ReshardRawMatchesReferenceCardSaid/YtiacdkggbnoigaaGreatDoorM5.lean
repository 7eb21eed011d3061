/-
  Several texts in one, each under its own heading below (merged by a program of ours): the contracts of the functions that the law reaches, part 5 of 5.
-/
import Derived.Test.YtiacdkggbnoigaaGreatDoorM1
import Derived.Test.YtiacdkggbnoigaaGreatDoorM2
import Derived.Test.YtiacdkggbnoigaaGreatDoorM3
import Derived.Test.YtiacdkggbnoigaaGreatDoorM4
import Derived.Test.YtiacdkggbnoigaaGreatDoorRows
import Derived.Test.YtiacdkggbnoigaaGreatDoorTie
import Derived.Test.YtiacdkggbnoigaaGreatDoorCards
import Derived.Lib.LaidTab
import Derived.Stop.LaidErr
import Derived.SizedLaws
import Derived.Deep.Slices
import Derived.ChangeSame
import Derived.ProofKit
import Derived.OpenShut
import Derived.LaidMore
import Derived.Stop.Joined
import Derived.SevenTiedAt
import Derived.Deep.Fields
import Derived.Lib.SmallJoins

/-
  As G10; one of the free operations, a read, may also come beside the rest's first ones (a late store is not ordered against it).
-/
namespace Go.Proofs.YtiacdkggbnoigaaGreatDoor
open Go Go.RowKit

section
variable {P : Program} {md : Region.Mode} {ops : Array Oper} {C : World → Prop} {S : Nat → Value → World → Prop} {R : World → World → Prop}

def freeOk3 (md : Region.Mode) (ops : Array Oper) (hs : List FO) (op : Nat) (ts : List (Bool × Nat)) : Nat → Array Bool → Bool
  | 0, listed => (hs.all fun h => listed.getD h.idx false) && walkB md ops ts listed
  | f + 1, listed => (f == 0 && ((hs.all fun h => (h.idx == op && !listed.getD h.idx false) || (!(h.idx == op) && listed.getD h.idx false)) && walkB md ops ((true, op) :: ts) listed)) || (!(Region.ready md ops listed).isEmpty && (Region.ready md ops listed).all fun i => (hs.any fun h => h.idx == i) && freeOk3 md ops hs op ts f (listed.setIfInBounds i true))
/-- The read that may wait, behind all others. -/
def optW (P : Program) (ops : Array Oper) (C : World → Prop) (S : Nat → Value → World → Prop) (a1 : Act) (hs : List FO) (opt : FO) : Prop :=
  ∃ o, ops[opt.idx]? = some o ∧ o.dst = some opt.slot ∧ ∀ vs w, C w → (∀ h ∈ hs, h.idx ≠ opt.idx → S h.slot (vs h.slot) w) → ∀ K : Value → Prop, (∀ v, S opt.slot v w → K v) →
    if Region.wanted o (yielded ops (putL ((hs.filter fun h => !(h.idx == opt.idx)).map FO.slot) vs a1).tmps) then ∃ v, (∀ w, C w → o.quietAt P (putL ((hs.filter fun h => !(h.idx == opt.idx)).map FO.slot) vs a1) (fun w'' => w'' = w) w v) ∧ K v else K undef

theorem wpC_free3 {Q : Act → World → Prop} {hs : List FO} {opt : FO} {ts : List (Bool × Nat)} {a1 : Act} (hmem : opt ∈ hs) (hsel : Region.noSelect ops = true) (hsp : specOk md ops hs = true) (hsz : ∀ h ∈ hs, h.slot < a1.tmps.size)
    (hS : ∀ t v w w', S t v w → R w w' → S t v w') (hR : ∀ w w', C w → R w w' → C w') (hst : freeW P ops C S R a1 hs) (hop : optW P ops C S a1 hs opt)
    (hfin : ∀ vs w, C w → (∀ h ∈ hs, S h.slot (vs h.slot) w) → walkW P ops Q ts C (putL (hs.map FO.slot) vs a1) w) :
    ∀ (f : Nat) (listed : Array Bool) (a : Act) (w : World), freeOk3 md ops hs opt.idx ts f listed = true → FreeInv hs C S a1 listed a w → wpC P md ops C Q (f + ts.length) listed a w
  | 0, listed, a, w, hB, inv => by
    rw [Nat.zero_add]
    simp only [freeOk3, Bool.and_eq_true, List.all_eq_true] at hB
    have ha : a = putL (hs.map FO.slot) (fun t => a.tmps.getD t undef) a1 := by
      obtain ⟨p1, p2⟩ := putL_size (fun t => a.tmps.getD t undef) (hs.map FO.slot) a1
      have ht : a.tmps = (putL (hs.map FO.slot) (fun t => a.tmps.getD t undef) a1).tmps := by
        apply Array.ext_getElem?
        intro t
        by_cases htl : t < a1.tmps.size
        · rw [putL_get _ t _ _ htl]
          by_cases hm : t ∈ hs.map FO.slot
          · rw [if_pos hm, Array.getElem?_eq_getElem (by rw [inv.size]; exact htl)]
            congr 1
            simp [inv.size, htl]
          · rw [if_neg hm]
            exact inv.other t (fun h hh e => absurd (List.mem_map.2 ⟨h, hh, e⟩) hm)
        · rw [Array.getElem?_eq_none (by rw [inv.size]; omega), Array.getElem?_eq_none (by rw [p1]; omega)]
      have hd : a.defers = (putL (hs.map FO.slot) (fun t => a.tmps.getD t undef) a1).defers := inv.defers.trans p2.symm
      generalize putL (hs.map FO.slot) (fun t => a.tmps.getD t undef) a1 = b at ht hd
      cases a
      cases b
      simp only at ht hd
      rw [ht, hd]
    refine wpC_walk hsel ts C listed a w hB.2 ?_
    have h := hfin (fun t => a.tmps.getD t undef) w inv.cls (fun h hh => inv.spec h hh (hB.1 h hh))
    rwa [← ha] at h
  | f + 1, listed, a, w, hB, inv => by
    rw [freeOk3, Bool.or_eq_true] at hB
    rcases hB with hB | hB
    · -- the last one may wait: it is read ahead of the rest
      simp only [Bool.and_eq_true, List.all_eq_true, Bool.or_eq_true, Bool.not_eq_true', beq_iff_eq, beq_eq_false_iff_ne] at hB
      obtain ⟨hf, hl, hw⟩ := hB
      subst hf
      have hspec := hsp
      simp only [specOk, List.all_eq_true, Bool.and_eq_true, beq_iff_eq] at hspec
      have hslot : ∀ h ∈ hs, h.idx = opt.idx → h.slot = opt.slot := fun h hh e => by
        have h1 := (hspec h hh).2 opt hmem
        have h2 : (h.idx == opt.idx) = true := by simp [e]
        rw [h2] at h1
        simpa using h1.symm
      have hidx : ∀ h ∈ hs, h.slot = opt.slot → h.idx = opt.idx := fun h hh e => by
        have h1 := (hspec h hh).2 opt hmem
        have h2 : (h.slot == opt.slot) = true := by simp [e]
        rw [h2] at h1
        simpa using h1
      have ha : a = putL ((hs.filter fun h => !(h.idx == opt.idx)).map FO.slot) (fun t => a.tmps.getD t undef) a1 := by
        obtain ⟨p1, p2⟩ := putL_size (fun t => a.tmps.getD t undef) ((hs.filter fun h => !(h.idx == opt.idx)).map FO.slot) a1
        have ht : a.tmps = (putL ((hs.filter fun h => !(h.idx == opt.idx)).map FO.slot) (fun t => a.tmps.getD t undef) a1).tmps := by
          apply Array.ext_getElem?
          intro t
          by_cases htl : t < a1.tmps.size
          · rw [putL_get _ t _ _ htl]
            by_cases hm : t ∈ (hs.filter fun h => !(h.idx == opt.idx)).map FO.slot
            · rw [if_pos hm, Array.getElem?_eq_getElem (by rw [inv.size]; exact htl)]
              congr 1
              simp [inv.size, htl]
            · rw [if_neg hm]
              refine inv.other t (fun h hh e => ?_)
              rcases hl h hh with ⟨_, h2⟩ | ⟨h1, _⟩
              · exact h2
              · exact absurd (List.mem_map.2 ⟨h, List.mem_filter.2 ⟨hh, by simpa using h1⟩, e⟩) hm
          · rw [Array.getElem?_eq_none (by rw [inv.size]; omega), Array.getElem?_eq_none (by rw [p1]; omega)]
        have hd : a.defers = (putL ((hs.filter fun h => !(h.idx == opt.idx)).map FO.slot) (fun t => a.tmps.getD t undef) a1).defers := inv.defers.trans p2.symm
        generalize putL ((hs.filter fun h => !(h.idx == opt.idx)).map FO.slot) (fun t => a.tmps.getD t undef) a1 = b at ht hd
        cases a
        cases b
        simp only at ht hd
        rw [ht, hd]
      obtain ⟨o, ho, hdst, hr⟩ := hop
      have hvs : ∀ h ∈ hs, h.idx ≠ opt.idx → S h.slot ((fun t => a.tmps.getD t undef) h.slot) w := fun h hh hne => by
        rcases hl h hh with ⟨h1, _⟩ | ⟨_, h2⟩
        · exact absurd h1 hne
        · exact inv.spec h hh h2
      have hr := hr (fun t => a.tmps.getD t undef) w inv.cls hvs (fun v => S opt.slot v w) (fun v h => h)
      rw [← ha] at hr
      have hgo : ∀ v, S opt.slot v w → walkW P ops Q ts C (a.put o.dst v) w := fun v hv => by
        have h := hfin (fun t => if t = opt.slot then v else a.tmps.getD t undef) w inv.cls (fun h hh => by
          by_cases e : h.idx = opt.idx
          · have := hslot h hh e
            simp only [this, if_true]
            exact hv
          · simp only [if_neg (fun e' => e (hidx h hh e'))]
            exact hvs h hh e)
        have e : putL (hs.map FO.slot) (fun t => if t = opt.slot then v else a.tmps.getD t undef) a1 = a.put o.dst v := by
          obtain ⟨p1, p2⟩ := putL_size (fun t => if t = opt.slot then v else a.tmps.getD t undef) (hs.map FO.slot) a1
          rw [hdst]
          have ht : (putL (hs.map FO.slot) (fun t => if t = opt.slot then v else a.tmps.getD t undef) a1).tmps = (a.put (some opt.slot) v).tmps := by
            apply Array.ext_getElem?
            intro t
            by_cases htl : t < a1.tmps.size
            · rw [putL_get _ t _ _ htl]
              by_cases e : t = opt.slot
              · subst e
                rw [if_pos (List.mem_map.2 ⟨opt, hmem, rfl⟩), if_pos rfl]
                simp [Act.put, inv.size, htl]
              · have h1 : (a.put (some opt.slot) v).tmps[t]? = a.tmps[t]? := by
                  simp only [Act.put]
                  exact Array.getElem?_setIfInBounds_ne (fun e' => e e'.symm)
                rw [h1]
                by_cases hm : t ∈ hs.map FO.slot
                · rw [if_pos hm, if_neg e, Array.getElem?_eq_getElem (by rw [inv.size]; exact htl)]
                  congr 1
                  simp [inv.size, htl]
                · rw [if_neg hm]
                  exact (inv.other t (fun h hh e' => absurd (List.mem_map.2 ⟨h, hh, e'⟩) hm)).symm
            · rw [Array.getElem?_eq_none (by rw [p1]; omega), Array.getElem?_eq_none (by simp [Act.put, inv.size]; omega)]
          have hd : (putL (hs.map FO.slot) (fun t => if t = opt.slot then v else a.tmps.getD t undef) a1).defers = (a.put (some opt.slot) v).defers := p2.trans inv.defers.symm
          generalize putL (hs.map FO.slot) (fun t => if t = opt.slot then v else a.tmps.getD t undef) a1 = b1 at ht hd
          generalize a.put (some opt.slot) v = b2 at ht hd
          cases b1
          cases b2
          simp only at ht hd
          rw [ht, hd]
        rwa [e] at h
      rw [show 0 + 1 + ts.length = ((true, opt.idx) :: ts).length by simp; omega]
      refine wpC_walk hsel ((true, opt.idx) :: ts) C listed a w hw ?_
      by_cases hwn : Region.wanted o (yielded ops a.tmps) = true
      · rw [if_pos hwn] at hr
        obtain ⟨v, h2, h3⟩ := hr
        exact ⟨o, v, ho, .inl ⟨hwn, h2⟩, hgo v h3⟩
      · rw [if_neg hwn] at hr
        exact ⟨o, undef, ho, .inr ⟨by simpa using hwn, rfl⟩, hgo undef hr⟩
    simp only [Bool.and_eq_true, List.all_eq_true, List.any_eq_true, Bool.not_eq_true', beq_iff_eq] at hB
    obtain ⟨hne, hall⟩ := hB
    rw [show f + 1 + ts.length = (f + ts.length) + 1 by omega]
    refine ⟨inv.cls, fun h0 => (by rw [h0] at hne; simp at hne), fun i hi => ?_⟩
    obtain ⟨⟨h, hh, rfl⟩, hB2⟩ := hall i hi
    have hspec := hsp
    simp only [specOk, List.all_eq_true, Bool.and_eq_true] at hspec
    obtain ⟨⟨q1, q2⟩, q3⟩ := hspec h hh
    cases ho : ops[h.idx]? with
    | none => rw [ho] at q1; cases q1
    | some o =>
      rw [ho] at q1
      simp only [Bool.and_eq_true, List.all_eq_true, Bool.or_eq_true, Bool.not_eq_true', beq_iff_eq, Option.isNone_iff_eq_none] at q1
      obtain ⟨⟨g1, g2⟩, g3⟩ := q1
      obtain ⟨hun, oj, hoj, hwait⟩ := mem_ready.1 hi
      obtain rfl : oj = o := Option.some.inj (hoj.symm.trans ho)
      -- what it reads is listed
      have hdeps : ∀ d ∈ h.deps, ∃ k ∈ hs, k.slot = d ∧ listed.getD k.idx false = true := fun d hd => by
        obtain ⟨k, hk, e⟩ := List.any_eq_true.1 (q2 d hd)
        simp only [Bool.and_eq_true, beq_iff_eq] at e
        obtain ⟨oj', hoj', e', he', hb', hon'⟩ := Region.waitsFor_spec e.2
        obtain rfl : oj' = oj := Option.some.inj (hoj'.symm.trans ho)
        have := hwait e' he' hb'
        rw [hon'] at this
        exact ⟨k, hk, e.1, this⟩
      have hev : execOp a.eval oj = execOp (putL h.deps (fun t => a.tmps.getD t undef) a1).eval oj := by
        refine execOp_congr oj (fun cs b => Region.noSelect_spec hsel h.idx oj cs b ho) (fun x hx => ?_)
        cases x with
        | tmp t =>
          show a.tmps.getD t undef = (putL h.deps (fun t => a.tmps.getD t undef) a1).tmps.getD t undef
          by_cases htl : t < a1.tmps.size
          · have e2 : (putL h.deps (fun t => a.tmps.getD t undef) a1).tmps.getD t undef = if t ∈ h.deps then a.tmps.getD t undef else a1.tmps.getD t undef := by
              rw [Array.getD_eq_getD_getElem?, putL_get _ t _ _ htl]
              by_cases hnd : t ∈ h.deps
              · rw [if_pos hnd, if_pos hnd]; rfl
              · rw [if_neg hnd, if_neg hnd, Array.getD_eq_getD_getElem?]
            rw [e2]
            by_cases hnd : t ∈ h.deps
            · rw [if_pos hnd]
            · rw [if_neg hnd]
              refine getD_of_get? (inv.other t (fun k hk e => ?_))
              rcases g3 k hk with h3 | h3
              · exfalso
                have hmem : t ∈ tmpsOf oj := List.mem_filterMap.2 ⟨.tmp t, by simpa using hx, rfl⟩
                rw [e] at h3
                have : (tmpsOf oj).contains t = true := by simpa using hmem
                rw [this] at h3
                cases h3
              · rw [e] at h3
                exact absurd (by simpa using h3) hnd
          · rw [Array.getD_eq_getD_getElem?, Array.getD_eq_getD_getElem?, Array.getElem?_eq_none (by rw [inv.size]; exact Nat.le_of_not_lt htl), Array.getElem?_eq_none (by rw [(putL_size _ _ _).1]; exact Nat.le_of_not_lt htl)]
        | _ => rfl
      have hwp := freeW_mem hst h hh oj ho (fun t => a.tmps.getD t undef) w inv.cls (fun d hd => by
        obtain ⟨k, hk, e, hl⟩ := hdeps d hd
        have := inv.spec k hk hl
        rwa [e] at this) (fun v w' => S h.slot v w' ∧ R w w') (fun v w' h1 h2 => ⟨h1, h2⟩)
      -- the next state
      have hnext : ∀ u w', (S h.slot (((putL h.deps (fun t => a.tmps.getD t undef) a1).put oj.dst u).tmps.getD h.slot undef) w' ∧ R w w') → wpC P md ops C Q (f + ts.length) (listed.setIfInBounds h.idx true) (a.put oj.dst u) w' := fun u w' ⟨e2, e3⟩ => by
        rw [g2] at e2 ⊢
        have hsl := hsz h hh
        have huv : ((putL h.deps (fun t => a.tmps.getD t undef) a1).put (some h.slot) u).tmps.getD h.slot undef = u := by
          have hb : h.slot < (putL h.deps (fun t => a.tmps.getD t undef) a1).tmps.size := by rw [(putL_size _ _ _).1]; exact hsl
          generalize putL h.deps (fun t => a.tmps.getD t undef) a1 = b at hb
          simp [Act.put, hb]
        rw [huv] at e2
        have hlt : h.idx < listed.size := by
          rcases Nat.lt_or_ge h.idx listed.size with h' | h'
          · exact h'
          · simp [Array.getElem?_eq_none h'] at hun
        have hset : ∀ j, (listed.setIfInBounds h.idx true).getD j false = if j = h.idx then true else listed.getD j false := fun j => by
          by_cases e : j = h.idx
          · subst e; simp [hlt]
          · rw [if_neg e, getD_set_ne false (fun e' => e e'.symm)]
        refine wpC_free3 hmem hsel hsp hsz hS hR hst hop hfin f _ _ _ hB2 ⟨inv.defers, by simp [Act.put, inv.size], fun t ht => ?_, fun k hk hl => ?_, hR _ _ inv.cls e3⟩
        · have hne : h.slot ≠ t := fun e => by
            have := ht h hh e
            rw [hset, if_pos rfl] at this
            cases this
          have h1 : (a.put (some h.slot) u).tmps[t]? = a.tmps[t]? := by
            simp only [Act.put]
            exact Array.getElem?_setIfInBounds_ne hne
          rw [h1]
          refine inv.other t (fun k hk e => ?_)
          have := ht k hk e
          rw [hset] at this
          split at this
          · cases this
          · exact this
        · by_cases e : k.idx = h.idx
          · have e' : k.slot = h.slot := by
              have h1 := q3 k hk
              rw [beq_iff_eq] at h1
              have h2 : (h.idx == k.idx) = true := by simp [e]
              rw [h2] at h1
              have := h1.symm
              simp only [beq_iff_eq] at this
              exact this.symm
            rw [e']
            have : (a.put (some h.slot) u).tmps.getD h.slot undef = u := by
              simp [Act.put, inv.size, hsl]
            rw [this]
            exact e2
          · have e' : k.slot ≠ h.slot := fun e' => by
              have h1 := q3 k hk
              rw [beq_iff_eq] at h1
              have h2 : (h.slot == k.slot) = true := by simp [e']
              rw [h2] at h1
              simp only [beq_iff_eq] at h1
              exact e h1.symm
            rw [hset, if_neg e] at hl
            have h1 : (a.put (some h.slot) u).tmps.getD k.slot undef = a.tmps.getD k.slot undef := getD_of_get? (by
              simp only [Act.put]
              exact Array.getElem?_setIfInBounds_ne (fun e => e' e.symm))
            rw [h1]
            exact hS _ _ _ _ (inv.spec k hk hl) e3
      unfold wpOp
      simp only [ho]
      have hw : Region.wanted oj (yielded ops a.tmps) = true := by unfold Region.wanted; rw [g1]
      simp only [hw, if_true]
      refine .inl ?_
      unfold Oper.wp at hwp ⊢
      rw [hev]
      generalize (execOp (putL h.deps (fun t => a.tmps.getD t undef) a1).eval oj).run P w = r at *
      cases r with
      | ok n w' =>
        cases n <;> simp only [Oper.upon] at hwp ⊢
        case value u => exact hnext u w' hwp.2
        case skip => exact hnext _ w' hwp.2
        case defer d =>
          obtain ⟨e1, -⟩ := hwp
          exfalso
          have e2 := (putL_size (fun t => a.tmps.getD t undef) h.deps a1).2
          generalize putL h.deps (fun t => a.tmps.getD t undef) a1 = b at e1 e2
          have := congrArg List.length e1
          rw [g2] at this
          simp [Act.put, e2] at this
        case enter f' args =>
          refine Calls.mono hwp fun e w'' he => ?_
          cases e with
          | returned u => exact hnext u w'' he.2
          | panicked c => exact he
          | outgrown => exact he
        case row row args => exact Rows.mono hwp fun u w'' he => hnext u w'' he.2
      | halt x w' => cases x <;> simp only [Oper.upon] at hwp <;> exact hwp.elim

/-- The reads, the free operations, the rest. -/
def regionFreeOk3 (ops : Array Oper) (hs : List FO) (opt : FO) (ts : List (Bool × Nat)) : List Nat → Array Bool → Bool
  | [], listed => (hs.all fun h => !listed.getD h.idx false) && freeOk3 .any ops hs opt.idx ts hs.length listed
  | k :: rest, listed => (Region.ready .any ops listed).contains k && Region.free .any ops listed k && regionFreeOk3 ops hs opt ts rest (listed.setIfInBounds k true)
theorem wpC_reads3 {Q : Act → World → Prop} {hs : List FO} {opt : FO} {ts : List (Bool × Nat)} (hmem : opt ∈ hs) (hsel : Region.noSelect ops = true) (hsp : specOk .any ops hs = true)
    (hS : ∀ t v w w', S t v w → R w w' → S t v w') (hR : ∀ w w', C w → R w w' → C w') (w : World) (hC : C w) : ∀ (rs : List Nat) (listed : Array Bool) (a : Act), regionFreeOk3 ops hs opt ts rs listed = true →
    headW P ops C (fun a1 => (∀ h ∈ hs, h.slot < a1.tmps.size) ∧ freeW P ops C S R a1 hs ∧ optW P ops C S a1 hs opt ∧ ∀ vs w, C w → (∀ h ∈ hs, S h.slot (vs h.slot) w) → walkW P ops Q ts C (putL (hs.map FO.slot) vs a1) w) rs a → wpC P .any ops C Q (rs.length + (hs.length + ts.length)) listed a w
  | [], listed, a, hB, h => by
    simp only [regionFreeOk3, Bool.and_eq_true, List.all_eq_true, Bool.not_eq_true'] at hB
    obtain ⟨h1, h2, h3, h4⟩ := h
    rw [List.length_nil, Nat.zero_add]
    exact wpC_free3 hmem hsel hsp h1 hS hR h2 h3 h4 _ _ _ _ hB.2 ⟨rfl, rfl, fun _ _ => rfl, fun k hk hl => (by rw [hB.1 k hk] at hl; cases hl), hC⟩
  | k :: rest, listed, a, hB, h => by
    simp only [regionFreeOk3, Bool.and_eq_true] at hB
    obtain ⟨⟨hr, hf⟩, hB'⟩ := hB
    obtain ⟨o, v, ho, hy, h⟩ := h
    rw [List.length_cons, show rest.length + 1 + (hs.length + ts.length) = (rest.length + (hs.length + ts.length)) + 1 by omega]
    exact wpC_first ho (Region.noSelect_spec hsel) _ listed a w (Region.free_spec ho hf) (by simpa using hr) hy (wpC_reads3 hmem hsel hsp hS hR w hC rest _ _ hB' h)
def regFreeOk3 (ops : Array Oper) (rs : List Nat) (hs : List FO) (opt : FO) (ts : List (Bool × Nat)) : Bool := Region.noSelect ops && decide (rs.length + (hs.length + ts.length) = ops.size) && specOk .any ops hs && regionFreeOk3 ops hs opt ts rs (Array.replicate ops.size false)
theorem wp_region_free3 {id : Nat} {Q : Exit → Act → World → Prop} {a : Act} {w : World} {l : List Oper} (rs : List Nat) (hs : List FO) (opt : FO) (hmem : opt ∈ hs) (ts : List (Bool × Nat)) (C : World → Prop) (S : Nat → Value → World → Prop) (R : World → World → Prop) (hm : P.follows .mixedOrders = true) (hB : regFreeOk3 l.toArray rs hs opt ts = true) (hC : C w.drew)
    (hS : ∀ t v w w', S t v w → R w w' → S t v w') (hR : ∀ w w', C w → R w w' → C w')
    (h : headW P l.toArray C (fun a1 => (∀ h ∈ hs, h.slot < a1.tmps.size) ∧ freeW P l.toArray C S R a1 hs ∧ optW P l.toArray C S a1 hs opt ∧ ∀ vs w, C w → (∀ h ∈ hs, S h.slot (vs h.slot) w) → walkW P l.toArray (fun a w => Q .normal a w) ts C (putL (hs.map FO.slot) vs a1) w) rs a) : (Code.region id l.toArray true).wp P Q a w := by
  simp only [regFreeOk3, Bool.and_eq_true, decide_eq_true_eq] at hB
  obtain ⟨⟨⟨hsel, hlen⟩, hsp⟩, hB⟩ := hB
  refine wp_region_any hm (wpAny_of_wpC (C := C) (Q := fun a w => Q .normal a w) (fun _ _ h => h) _ _ _ _ ?_)
  rw [← hlen]
  exact wpC_reads3 hmem hsel hsp hS hR w.drew hC rs _ a (by rw [hlen]; exact hB) h
end
end Go.Proofs.YtiacdkggbnoigaaGreatDoor

/-
  From a row's own condition to the walks: the table, the slices of integers.
-/
namespace Go.Proofs.YtiacdkggbnoigaaGreatDoor
open Go.ChangeShapes Go.WideShapes Go.ChangeAt Go.RowKit Go.Shelf

/-- What every row lists. -/
abbrev laid4 : List (String × DataW Unit) := [("math/bits.deBruijn32tab", Rows.laid_math_bits_deBruijn32tab), ("math/bits.deBruijn64tab", Rows.laid_math_bits_deBruijn64tab), ("internal/strconv.uint64pow10", Rows.laid_internal_strconv_uint64pow10), ("cachetier/wire.nibbles", Rows.laid_cachetier_wire_nibbles)]
theorem own : ownKnob Tryz.prog.godebug = none := by kernel_rfl
theorem laidOut : laidOutB Tryz.prog = true := by kernel_rfl
theorem gNib : Tryz.prog.globalNamed "cachetier/wire.nibbles" = some 0 := by kernel_rfl
theorem tNib : (Tryz.prog.globals[0]?).map (·.type) = some 108 := by kernel_rfl
theorem cellsI : Tryz.prog.cellsOf 3 = 1 := by kernel_rfl
theorem bytesI : Tryz.prog.bytesOf 3 = 8 := by kernel_rfl
theorem door_met (os : Os) (args : Array Value) : laidMetH Tryz.prog laid4 ((World.doorLaid Tryz.prog 400 os).forCall (fun _ _ => 0) ⟨#[], args, []⟩).memory :=
  laidMetH_of_parts3 (fuel := 8) (laidMet_of_run' 8 (by kernel_rfl) (by kernel_rfl)) (by kernel_rfl) (by kernel_rfl)
theorem tab_of_laid {W : World} (h : laidMetH Tryz.prog laid4 W) : Tab W := by
  rw [MakeChecks.laidMetH_plain _ _ _ (by kernel_rfl)] at h
  have h3 := h.tail.tail.tail
  have ht : Lib.TabIs Tryz.prog W "cachetier/wire.nibbles" .u32 (tabL.map (fun n : Nat => (n : Int))) := Lib.tabIs_of_head gNib tNib Tryz.underlying108 Tryz.underlying107 (by kernel_rfl) (by kernel_rfl) h3
  intro i hi
  have hc := ht.cell gNib i (by rw [List.length_map]; exact hi)
  rw [hc, List.getD_eq_getElem?_getD, List.getElem?_map, List.getD_eq_getElem?_getD]
  cases hx : tabL[i]? with
  | none => rfl
  | some x => rfl
theorem ints_open {H : Type} {enc : TypeId × Value → H} {w : World} {base fuel : Nat} {spare : Nat → Bool} {held : Bool} {a : Option Addr} {len cap : Nat} {x : DataW H × List MemPlace} (h : DataW.trod enc Tryz.prog w base spare held fuel 23 [.slice a len cap] = some x)
    (hs : ∀ el sp, x.1 = .slice el sp → (el.length + sp.length) * Tryz.prog.bytesOf 3 ≤ reachBytes) : ∃ xs, Its w (.slice a len cap) xs := by
  rcases open_ints Tryz.underlying23 Tryz.underlying3 cellsI h with ⟨hcs, _⟩ | ⟨ad, l, c, zs, hcs, _, hl, hm, hz, hx, hcell, hwz⟩
  · cases hcs
    exact ⟨[], Its.nil w⟩
  · cases hcs
    have hlz : len ≤ zs.length := by rw [hz]; split <;> omega
    have h1 := hs _ _ (by rw [hx])
    rw [bytesI] at h1
    simp only [lits, List.length_map, List.length_take, List.length_drop, reachBytes] at h1
    refine ⟨zs.take len, ⟨by rw [List.length_take]; omega, fun x hx => bounds_i64 (hwz x (List.mem_of_mem_take hx)), ?_⟩⟩
    have hll : (zs.take len).length = len := by rw [List.length_take]; omega
    obtain ⟨b, off, spot⟩ := ad
    refine ⟨some ⟨b, off, spot⟩, cap, b, off, by rw [hll], by rw [hll]; exact hl, fun h0 => ?_, fun j x hj => ?_⟩
    · have hspot : spot = none := by simpa [Addr.add] using World.cell?_spot (hcell 0 (by omega))
      rw [hspot]
    · have hj1 : j < len := by have := (List.getElem?_eq_some_iff.1 hj).1; omega
      have hspot : spot = none := by simpa [Addr.add] using World.cell?_spot (hcell 0 (by omega))
      subst hspot
      have hc := hcell j (by omega)
      rw [Addr.add_lit] at hc
      rw [hc]
      rw [List.getElem?_take_of_lt hj1] at hj
      rw [List.getD_eq_getElem?_getD, hj]
      rfl
end Go.Proofs.YtiacdkggbnoigaaGreatDoor

/-
  A slice of members that came in.
-/
namespace Go.Proofs.YtiacdkggbnoigaaGreatDoor
open Go.ChangeShapes Go.WideShapes Go.ChangeAt Go.RowKit Go.Shelf

theorem cellsMb : Tryz.prog.cellsOf 44 = 3 := by kernel_rfl
theorem mb_cells {H : Type} {enc : TypeId × Value → H} {w : World} {base n : Nat} {spare : Nat → Bool} {held : Bool} {a : Addr} {cs : List Value} {x : DataW H × List MemPlace} (hc : w.cells? base a (Tryz.prog.cellsOf 44) = some cs)
    (ht : DataW.trod enc Tryz.prog w base spare held n 44 cs = some x) (j : Nat) (hj : j < 3) : ∃ z, w.cell? (a.add j) = some (.int .i64 z) ∧ -9223372036854775808 ≤ z ∧ z ≤ 9223372036854775807 := by
  rw [cellsMb] at hc
  obtain ⟨_, hcl, hat⟩ := World.cells?_some hc
  obtain ⟨ys, n', _, _, _, hyl, hf⟩ := DataW.trod_struct Tryz.underlying44 ht
  have hyl' : ys.length = 3 := hyl
  have key : ∀ (f : Field), (#[({ name := "Node", type := 3, offset := 0, embedded := false, tag := "", pkgPath := "", byteOffset := 0 } : Field), { name := "Region", type := 3, offset := 1, embedded := false, tag := "", pkgPath := "", byteOffset := 8 }, { name := "Weight", type := 3, offset := 2, embedded := false, tag := "", pkgPath := "", byteOffset := 16 }] : Array Field)[j]? = some f → f.type = 3 → f.offset = j → ∃ z, w.cell? (a.add j) = some (.int .i64 z) ∧ -9223372036854775808 ≤ z ∧ z ≤ 9223372036854775807 := by
    intro f hfj h3 ho
    have h1 := hf j f hfj
    rw [h3, ho, cellsI] at h1
    have hys : ys[j]? = some (ys[j]'(by omega)) := List.getElem?_eq_getElem (by omega)
    rw [hys, List.drop_eq_getElem_cons (by omega)] at h1
    obtain ⟨z, hz, _, hwf⟩ := DataW.trod_int Tryz.underlying3 h1
    have hz' : cs[j]'(by omega) = .int .i64 z := by
      rw [List.take_succ_cons, List.take_zero] at hz
      exact (List.cons.inj hz).1
    refine ⟨z, ?_, bounds_i64 hwf⟩
    rw [hat j hj, List.getElem?_eq_getElem (by omega), hz']
  match j, hj with
  | 0, _ => exact key _ rfl rfl rfl
  | 1, _ => exact key _ rfl rfl rfl
  | 2, _ => exact key _ rfl rfl rfl

theorem mbs_open {H : Type} {enc : TypeId × Value → H} {w : World} {base fuel : Nat} {spare : Nat → Bool} {held : Bool} {a : Option Addr} {len cap : Nat} {x : DataW H × List MemPlace} (h : DataW.trod enc Tryz.prog w base spare held fuel 22 [.slice a len cap] = some x) (hlen : len ≤ 1000000000000000) : ∃ l, Mbs w (.slice a len cap) l ∧ l.length = len := by
  rcases Go.Deep.open_slice Tryz.underlying22 h with ⟨h0, _⟩ | ⟨ad, l, c, m, n, D, Pl, hcs, hb, hl, hm, hmm, hx, hi⟩
  · cases h0
    exact ⟨[], ⟨by simp, by simp, none, 0, 0, 0, rfl, by simp, fun h => by simp at h, fun j x hj => by simp at hj⟩, rfl⟩
  · cases hcs
    have hlm : len ≤ m := by rw [hmm]; split <;> omega
    have hc : ∀ i j, i < len → j < 3 → ∃ z, w.cell? (ad.add (i * 3 + j)) = some (.int .i64 z) ∧ -9223372036854775808 ≤ z ∧ z ≤ 9223372036854775807 := fun i j hi' hj => by
      obtain ⟨cs', h1, h2⟩ := hi i (by omega)
      obtain ⟨z, hz, hb⟩ := mb_cells h1 h2 j hj
      rw [cellsMb, Go.Deep.add_add] at hz
      exact ⟨z, hz, hb⟩
    obtain ⟨b, off, spot⟩ := ad
    by_cases hl0 : len = 0
    · subst hl0
      exact ⟨[], ⟨by simp, by simp, some ⟨b, off, spot⟩, cap, b, off, rfl, hl, fun h => by simp at h, fun j x hj => by simp at hj⟩, rfl⟩
    · obtain ⟨z0, hz0, _⟩ := hc 0 0 (by omega) (by omega)
      have hspot : spot = none := by simpa [Addr.add] using World.cell?_spot hz0
      subst hspot
      have hc2 : ∀ i, ∃ mb : Mb, i < len → (w.cell? ⟨b, off + i * 3, none⟩ = some (.int .i64 mb.node) ∧ w.cell? ⟨b, off + i * 3 + 1, none⟩ = some (.int .i64 mb.region) ∧ w.cell? ⟨b, off + i * 3 + 2, none⟩ = some (.int .i64 mb.weight)) ∧ I64 mb.node ∧ I64 mb.region ∧ I64 mb.weight := fun i => by
        by_cases hil : i < len
        · obtain ⟨z0, h0, b0⟩ := hc i 0 hil (by omega)
          obtain ⟨z1, h1, b1⟩ := hc i 1 hil (by omega)
          obtain ⟨z2, h2, b2⟩ := hc i 2 hil (by omega)
          rw [Addr.add_lit, ← Nat.add_assoc] at h0 h1 h2
          exact ⟨⟨z0, z1, z2⟩, fun _ => ⟨⟨h0, h1, h2⟩, b0, b1, b2⟩⟩
        · exact ⟨⟨0, 0, 0⟩, fun h => absurd h hil⟩
      obtain ⟨F, hF⟩ : ∃ F : Nat → Mb, ∀ i, i < len → (w.cell? ⟨b, off + i * 3, none⟩ = some (.int .i64 (F i).node) ∧ w.cell? ⟨b, off + i * 3 + 1, none⟩ = some (.int .i64 (F i).region) ∧ w.cell? ⟨b, off + i * 3 + 2, none⟩ = some (.int .i64 (F i).weight)) ∧ I64 (F i).node ∧ I64 (F i).region ∧ I64 (F i).weight := ⟨fun i => Classical.choose (hc2 i), fun i => Classical.choose_spec (hc2 i)⟩
      refine ⟨(List.range len).map F, ⟨by simpa using hlen, fun mb hmb => ?_, ?_⟩, by simp⟩
      · obtain ⟨i, hi', rfl⟩ := List.mem_map.1 hmb
        exact (hF i (List.mem_range.1 hi')).2
      · refine ⟨some ⟨b, off, none⟩, cap, b, off, by simp, by simpa using hl, fun _ => rfl, fun j mb hj => ?_⟩
        rw [List.getElem?_map] at hj
        cases hr : (List.range len)[j]? with
        | none => rw [hr] at hj; simp at hj
        | some j' =>
          rw [hr] at hj
          simp only [Option.map_some, Option.some.injEq] at hj
          obtain ⟨h1, h2⟩ := List.getElem?_eq_some_iff.1 hr
          have hjj : j' = j := by simpa using h2.symm
          have hjl : j < len := by simpa using h1
          subst hj
          rw [hjj]
          exact (hF j hjl).1
end Go.Proofs.YtiacdkggbnoigaaGreatDoor

/-
  A ring that came in.
-/
namespace Go.Proofs.YtiacdkggbnoigaaGreatDoor
open Go.ChangeShapes Go.WideShapes Go.ChangeAt Go.RowKit Go.Shelf

theorem cellsRg : Tryz.prog.cellsOf 25 = 3 := by kernel_rfl
set_option maxRecDepth 100000 in
theorem ring_fields {H : Type} {enc : TypeId × Value → H} {w : World} {base b0 : Nat} {spare : Nat → Bool} {held : Bool} {r : Reach} {v : Value} {d : DataW H} {p : List MemPlace}
    (hv : Value.okWide Tryz.prog w r b0 25 v) (h : DataW.Trod enc Tryz.prog w base spare held 25 v d p) :
    ∃ (ep : Int) (ma : Option Addr) (mn mc : Nat) (oa : Option Addr) (on oc n : Nat) (y0 y1 y2 : DataW H × List MemPlace), v = ringV ep (.slice ma mn mc) (.slice oa on oc) ∧ I64 ep ∧ d = .agg [y0.1, y1.1, y2.1] ∧ p = y0.2 ++ (y1.2 ++ y2.2) ∧
      DataW.trod enc Tryz.prog w base spare held n 3 [.int .i64 ep] = some y0 ∧ DataW.trod enc Tryz.prog w base spare held n 22 [.slice ma mn mc] = some y1 ∧ DataW.trod enc Tryz.prog w base spare held n 23 [.slice oa on oc] = some y2 := by
  obtain ⟨c0, c1, c2, y0, y1, y2, n, rfl, rfl, rfl, h0, h1, h2⟩ := Go.Joins.open_agg3 Tryz.underlying25 (by kernel_rfl) cellsRg hv h
  obtain ⟨ep, e0, _, w0⟩ := DataW.trod_int Tryz.underlying3 h0
  obtain ⟨ma, mn, mc, e1⟩ := Go.Joins.slice_form Tryz.underlying22 h1
  obtain ⟨oa, on, oc, e2⟩ := Go.Joins.slice_form Tryz.underlying23 h2
  obtain rfl := (List.cons.inj e0).1
  obtain rfl := (List.cons.inj e1).1
  obtain rfl := (List.cons.inj e2).1
  exact ⟨ep, ma, mn, mc, oa, on, oc, n, y0, y1, y2, rfl, bounds_i64 w0, rfl, rfl, h0, h1, h2⟩
end Go.Proofs.YtiacdkggbnoigaaGreatDoor

/-
  A ring that came in, as the walks want it.
-/
namespace Go.Proofs.YtiacdkggbnoigaaGreatDoor
open Go.ChangeShapes Go.WideShapes Go.ChangeAt Go.RowKit Go.Shelf

theorem bytesMb : Tryz.prog.bytesOf 44 = 24 := by kernel_rfl
theorem mbs_open' {H : Type} {enc : TypeId × Value → H} {w : World} {base fuel : Nat} {spare : Nat → Bool} {held : Bool} {a : Option Addr} {len cap : Nat} {x : DataW H × List MemPlace} (h : DataW.trod enc Tryz.prog w base spare held fuel 22 [.slice a len cap] = some x)
    (hs : ∀ el sp, x.1 = .slice el sp → (el.length + sp.length) * Tryz.prog.bytesOf 44 ≤ reachBytes) : ∃ l, Mbs w (.slice a len cap) l ∧ l.length = len := by
  refine mbs_open h ?_
  have hl := Go.Joins.sliceLen_trod (d := x.1) (ps := x.2) Tryz.underlying22 h
  cases e : x.1 with
  | slice el sp =>
    rw [e] at hl
    have h1 := hs el sp e
    rw [bytesMb] at h1
    simp only [Go.Joins.sliceLen] at hl
    unfold reachBytes at h1
    omega
  | _ =>
    rw [e] at hl
    simp only [Go.Joins.sliceLen] at hl
    omega
set_option maxRecDepth 100000 in
theorem ring_open {H : Type} {enc : TypeId × Value → H} {w : World} {base b0 : Nat} {spare : Nat → Bool} {held : Bool} {r : Reach} {v : Value} {d : DataW H} {p : List MemPlace}
    (hv : Value.okWide Tryz.prog w r b0 25 v) (h : DataW.Trod enc Tryz.prog w base spare held 25 v d p) (hs : ∀ n ∈ DataW.weights Tryz.prog 25 d, n ≤ reachBytes) : ∃ ep l ow, Rng w v ep l ow := by
  obtain ⟨ep, ma, mn, mc, oa, on, oc, n, y0, y1, y2, rfl, hb, rfl, -, h0, h1, h2⟩ := ring_fields hv h
  have hw : DataW.weights Tryz.prog 25 (.agg [y0.1, y1.1, y2.1]) = DataW.weights Tryz.prog 3 y0.1 ++ (DataW.weights Tryz.prog 22 y1.1 ++ (DataW.weights Tryz.prog 23 y2.1 ++ [])) := by
    simp only [DataW.weights, Tryz.underlying25]
    rfl
  rw [hw] at hs
  obtain ⟨l, hl, -⟩ := mbs_open' h1 (fun el sp e => hs _ (by
    simp only [List.mem_append]
    right; left
    rw [e]
    simp only [DataW.weights, Tryz.underlying22]
    exact List.mem_cons_self))
  obtain ⟨ow, how⟩ := ints_open h2 (fun el sp e => hs _ (by
    simp only [List.mem_append]
    right; right; left
    rw [e]
    simp only [DataW.weights, Tryz.underlying23]
    exact List.mem_cons_self))
  exact ⟨ep, l, ow, hb, _, _, rfl, hl, how⟩
/-- What a datum weighs is among what all weigh. -/
theorem weigh_at {H : Type} {P : Program} {ts : List TypeId} {ds : List (DataW H)} (h : (DataW.weightsEach P ts ds).all (· ≤ reachBytes) = true) {j : Nat} {t : TypeId} {d : DataW H} (ht : ts[j]? = some t) (hd : ds[j]? = some d) : ∀ n ∈ DataW.weights P t d, n ≤ reachBytes := fun n hn => by
  have := List.all_eq_true.1 h _ (DataW.weights_mem_each ht hd n hn)
  simpa using this
end Go.Proofs.YtiacdkggbnoigaaGreatDoor

/-
  A slice of moves that came in.
-/
namespace Go.Proofs.YtiacdkggbnoigaaGreatDoor
open Go.ChangeShapes Go.WideShapes Go.ChangeAt Go.RowKit Go.Shelf

theorem cellsMv : Tryz.prog.cellsOf 77 = 3 := by kernel_rfl
theorem mv_cells {H : Type} {enc : TypeId × Value → H} {w : World} {base n : Nat} {spare : Nat → Bool} {held : Bool} {a : Addr} {cs : List Value} {x : DataW H × List MemPlace} (hc : w.cells? base a (Tryz.prog.cellsOf 77) = some cs)
    (ht : DataW.trod enc Tryz.prog w base spare held n 77 cs = some x) (j : Nat) (hj : j < 3) : ∃ z, w.cell? (a.add j) = some (.int .i64 z) ∧ -9223372036854775808 ≤ z ∧ z ≤ 9223372036854775807 := by
  rw [cellsMv] at hc
  obtain ⟨_, hcl, hat⟩ := World.cells?_some hc
  obtain ⟨ys, n', _, _, _, hyl, hf⟩ := DataW.trod_struct Tryz.underlying77 ht
  have hyl' : ys.length = 3 := hyl
  have key : ∀ (f : Field), (#[({ name := "Slot", type := 3, offset := 0, embedded := false, tag := "", pkgPath := "", byteOffset := 0 } : Field), { name := "From", type := 3, offset := 1, embedded := false, tag := "", pkgPath := "", byteOffset := 8 }, { name := "To", type := 3, offset := 2, embedded := false, tag := "", pkgPath := "", byteOffset := 16 }] : Array Field)[j]? = some f → f.type = 3 → f.offset = j → ∃ z, w.cell? (a.add j) = some (.int .i64 z) ∧ -9223372036854775808 ≤ z ∧ z ≤ 9223372036854775807 := by
    intro f hfj h3 ho
    have h1 := hf j f hfj
    rw [h3, ho, cellsI] at h1
    have hys : ys[j]? = some (ys[j]'(by omega)) := List.getElem?_eq_getElem (by omega)
    rw [hys, List.drop_eq_getElem_cons (by omega)] at h1
    obtain ⟨z, hz, _, hwf⟩ := DataW.trod_int Tryz.underlying3 h1
    have hz' : cs[j]'(by omega) = .int .i64 z := by
      rw [List.take_succ_cons, List.take_zero] at hz
      exact (List.cons.inj hz).1
    refine ⟨z, ?_, bounds_i64 hwf⟩
    rw [hat j hj, List.getElem?_eq_getElem (by omega), hz']
  match j, hj with
  | 0, _ => exact key _ rfl rfl rfl
  | 1, _ => exact key _ rfl rfl rfl
  | 2, _ => exact key _ rfl rfl rfl

theorem mvs_open {H : Type} {enc : TypeId × Value → H} {w : World} {base fuel : Nat} {spare : Nat → Bool} {held : Bool} {a : Option Addr} {len cap : Nat} {x : DataW H × List MemPlace} (h : DataW.trod enc Tryz.prog w base spare held fuel 26 [.slice a len cap] = some x) (hlen : len ≤ 1000000000000000) : ∃ l, Mbs w (.slice a len cap) l ∧ l.length = len := by
  rcases Go.Deep.open_slice Tryz.underlying26 h with ⟨h0, _⟩ | ⟨ad, l, c, m, n, D, Pl, hcs, hb, hl, hm, hmm, hx, hi⟩
  · cases h0
    exact ⟨[], ⟨by simp, by simp, none, 0, 0, 0, rfl, by simp, fun h => by simp at h, fun j x hj => by simp at hj⟩, rfl⟩
  · cases hcs
    have hlm : len ≤ m := by rw [hmm]; split <;> omega
    have hc : ∀ i j, i < len → j < 3 → ∃ z, w.cell? (ad.add (i * 3 + j)) = some (.int .i64 z) ∧ -9223372036854775808 ≤ z ∧ z ≤ 9223372036854775807 := fun i j hi' hj => by
      obtain ⟨cs', h1, h2⟩ := hi i (by omega)
      obtain ⟨z, hz, hb⟩ := mv_cells h1 h2 j hj
      rw [cellsMv, Go.Deep.add_add] at hz
      exact ⟨z, hz, hb⟩
    obtain ⟨b, off, spot⟩ := ad
    by_cases hl0 : len = 0
    · subst hl0
      exact ⟨[], ⟨by simp, by simp, some ⟨b, off, spot⟩, cap, b, off, rfl, hl, fun h => by simp at h, fun j x hj => by simp at hj⟩, rfl⟩
    · obtain ⟨z0, hz0, _⟩ := hc 0 0 (by omega) (by omega)
      have hspot : spot = none := by simpa [Addr.add] using World.cell?_spot hz0
      subst hspot
      have hc2 : ∀ i, ∃ mb : Mb, i < len → (w.cell? ⟨b, off + i * 3, none⟩ = some (.int .i64 mb.node) ∧ w.cell? ⟨b, off + i * 3 + 1, none⟩ = some (.int .i64 mb.region) ∧ w.cell? ⟨b, off + i * 3 + 2, none⟩ = some (.int .i64 mb.weight)) ∧ I64 mb.node ∧ I64 mb.region ∧ I64 mb.weight := fun i => by
        by_cases hil : i < len
        · obtain ⟨z0, h0, b0⟩ := hc i 0 hil (by omega)
          obtain ⟨z1, h1, b1⟩ := hc i 1 hil (by omega)
          obtain ⟨z2, h2, b2⟩ := hc i 2 hil (by omega)
          rw [Addr.add_lit, ← Nat.add_assoc] at h0 h1 h2
          exact ⟨⟨z0, z1, z2⟩, fun _ => ⟨⟨h0, h1, h2⟩, b0, b1, b2⟩⟩
        · exact ⟨⟨0, 0, 0⟩, fun h => absurd h hil⟩
      obtain ⟨F, hF⟩ : ∃ F : Nat → Mb, ∀ i, i < len → (w.cell? ⟨b, off + i * 3, none⟩ = some (.int .i64 (F i).node) ∧ w.cell? ⟨b, off + i * 3 + 1, none⟩ = some (.int .i64 (F i).region) ∧ w.cell? ⟨b, off + i * 3 + 2, none⟩ = some (.int .i64 (F i).weight)) ∧ I64 (F i).node ∧ I64 (F i).region ∧ I64 (F i).weight := ⟨fun i => Classical.choose (hc2 i), fun i => Classical.choose_spec (hc2 i)⟩
      refine ⟨(List.range len).map F, ⟨by simpa using hlen, fun mb hmb => ?_, ?_⟩, by simp⟩
      · obtain ⟨i, hi', rfl⟩ := List.mem_map.1 hmb
        exact (hF i (List.mem_range.1 hi')).2
      · refine ⟨some ⟨b, off, none⟩, cap, b, off, by simp, by simpa using hl, fun _ => rfl, fun j mb hj => ?_⟩
        rw [List.getElem?_map] at hj
        cases hr : (List.range len)[j]? with
        | none => rw [hr] at hj; simp at hj
        | some j' =>
          rw [hr] at hj
          simp only [Option.map_some, Option.some.injEq] at hj
          obtain ⟨h1, h2⟩ := List.getElem?_eq_some_iff.1 hr
          have hjj : j' = j := by simpa using h2.symm
          have hjl : j < len := by simpa using h1
          subst hj
          rw [hjj]
          exact (hF j hjl).1

theorem bytesMv : Tryz.prog.bytesOf 77 = 24 := by kernel_rfl
theorem mvs_open' {H : Type} {enc : TypeId × Value → H} {w : World} {base fuel : Nat} {spare : Nat → Bool} {held : Bool} {a : Option Addr} {len cap : Nat} {x : DataW H × List MemPlace} (h : DataW.trod enc Tryz.prog w base spare held fuel 26 [.slice a len cap] = some x)
    (hs : ∀ el sp, x.1 = .slice el sp → (el.length + sp.length) * Tryz.prog.bytesOf 77 ≤ reachBytes) : ∃ l : List Mv, Mvs w (.slice a len cap) l ∧ l.length = len := by
  have key : ∃ l : List Mb, Mbs w (.slice a len cap) l ∧ l.length = len := by
    refine mvs_open h ?_
    have hl := Go.Joins.sliceLen_trod (d := x.1) (ps := x.2) Tryz.underlying26 h
    cases e : x.1 with
    | slice el sp =>
      rw [e] at hl
      have h1 := hs el sp e
      rw [bytesMv] at h1
      simp only [Go.Joins.sliceLen] at hl
      unfold reachBytes at h1
      omega
    | _ =>
      rw [e] at hl
      simp only [Go.Joins.sliceLen] at hl
      omega
  obtain ⟨l, h1, h2⟩ := key
  refine ⟨l.map (fun m => (⟨m.node, m.region, m.weight⟩ : Mv)), ?_, by rw [List.length_map]; exact h2⟩
  unfold Mvs
  rw [List.map_map]
  have : l.map (mvMb ∘ fun m => (⟨m.node, m.region, m.weight⟩ : Mv)) = l := by
    conv => rhs; rw [← List.map_id l]
    rfl
  rw [this]
  exact h1
end Go.Proofs.YtiacdkggbnoigaaGreatDoor
