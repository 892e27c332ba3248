/- Regions that draw their order, whose operations yield one of a set of values that does not hang on the order, and stay within a class of worlds: one walk of the lexical order serves every order; behind it a tail whose order is forced. -/
import Derived.StillTail
import Derived.Deep.Quiet
import Derived.WalkKit
namespace Go.Proofs.YtgiimcdjojjbmaaGreatDoor
open Go

section
variable {P : Program} {ops : Array Oper} {md : Region.Mode} {C : World → Prop} {K : FuncId → Array Value → Value → Prop}

/-- What is asked of one operation's outcome: it stays in the class; a call hands back a value of the call's set. -/
def looseUpon (P : Program) (C : World → Prop) (K : FuncId → Array Value → Value → Prop) : Result Next → Prop
  | .ok (.value _) w' => C w'
  | .ok .skip w' => C w'
  | .ok (.enter f args) w' => Calls P f args w' (fun e w'' => ∃ u, e = .returned u ∧ K f args u ∧ C w'')
  | _ => False

/-- The values that an outcome may leave. -/
def outOf (K : FuncId → Array Value → Value → Prop) : Result Next → Value → Prop
  | .ok (.value v) _, u => u = v
  | .ok .skip _, u => u = undef
  | .ok (.enter f args) _, u => K f args u
  | _, _ => False

def Outs (P : Program) (C : World → Prop) (K : FuncId → Array Value → Value → Prop) (x : Sem Next) (u : Value) : Prop := ∃ w, C w ∧ outOf K (x.run P w) u

def LooseAt (P : Program) (C : World → Prop) (K : FuncId → Array Value → Value → Prop) (x : Sem Next) : Prop := ∀ w, C w → looseUpon P C K (x.run P w)

def Loose (P : Program) (C : World → Prop) (K : FuncId → Array Value → Value → Prop) (o : Oper) (a : Act) (next : Act → Prop) : Prop :=
  LooseAt P C K (execOp a.eval o) ∧ ∀ u, Outs P C K (execOp a.eval o) u → next (a.put o.dst u)

def wpLoose (P : Program) (ops : Array Oper) (C : World → Prop) (K : FuncId → Array Value → Value → Prop) (Q : Act → Prop) : List Oper → Act → Prop
  | [], a => Q a
  | o :: rest, a => if Region.wanted o (yielded ops a.tmps) then Loose P C K o a (wpLoose P ops C K Q rest) else wpLoose P ops C K Q rest (a.put o.dst undef)

def lOp (P : Program) (ops : Array Oper) (C : World → Prop) (K : FuncId → Array Value → Value → Prop) (i : Nat) (k : Act → Prop) (a : Act) : Prop :=
  match ops[i]? with
  | none => k a
  | some o => if Region.wanted o (yielded ops a.tmps) then Loose P C K o a k else k (a.put o.dst undef)

theorem Loose.mono {o : Oper} {a : Act} {k k' : Act → Prop} (h : ∀ a, k a → k' a) (hh : Loose P C K o a k) : Loose P C K o a k' :=
  ⟨hh.1, fun u hu => h _ (hh.2 u hu)⟩

theorem lOp_mono {i : Nat} {a : Act} {k k' : Act → Prop} (h : ∀ a, k a → k' a) (hh : lOp P ops C K i k a) : lOp P ops C K i k' a := by
  unfold lOp at *
  split
  · exact h _ (by simpa [*] using hh)
  · rename_i o ho
    simp only [ho] at hh
    split
    · rename_i hw; simp only [hw, if_true] at hh; exact hh.mono h
    · rename_i hw; simp only [hw] at hh; exact h _ hh

theorem wp_of_loose {o : Oper} {a : Act} {k : Act → Prop} {k' : Act → World → Prop} {Q' : Exit → Act → World → Prop} {w : World} (hw : C w) (h : ∀ a w', C w' → k a → k' a w') (hh : Loose P C K o a k) : o.wp P a w k' Q' := by
  obtain ⟨h1, h2⟩ := hh
  have h3 := h1 w hw
  have h4 : ∀ u, outOf K ((execOp a.eval o).run P w) u → k (a.put o.dst u) := fun u hu => h2 u ⟨w, hw, hu⟩
  unfold Oper.wp
  generalize (execOp a.eval o).run P w = r at *
  cases r with
  | ok n w' =>
    cases n <;> simp only [looseUpon] at h3 <;> simp only [Oper.upon]
    case value u => exact h _ _ h3 (h4 u rfl)
    case skip => exact h _ _ h3 (h4 undef rfl)
    case enter f args =>
      exact h3.mono fun e w'' ⟨u, he, hk, hc⟩ => by subst he; exact h _ _ hc (h4 u hk)
  | halt x w' => simp only [looseUpon] at h3

theorem wpOp_of_lOp {i : Nat} {a : Act} {k : Act → Prop} {k' : Act → World → Prop} {Q' : Exit → Act → World → Prop} {w : World} (hC : C w) (h : ∀ a w', C w' → k a → k' a w') (hh : lOp P ops C K i k a) : wpOp P ops Q' i k' a w := by
  unfold lOp at hh
  unfold wpOp
  split
  · rename_i ho; simp only [ho] at hh; exact h _ _ hC hh
  · rename_i o ho
    simp only [ho] at hh
    split
    · rename_i hw; simp only [hw, if_true] at hh; exact .inl (wp_of_loose hC h hh)
    · rename_i hw; simp only [hw] at hh; exact h _ _ hC hh

/-- Operation o has an outcome in state a: wanted and within the class, or passed over. -/
def Goes (P : Program) (ops : Array Oper) (C : World → Prop) (K : FuncId → Array Value → Value → Prop) (o : Oper) (a : Act) : Prop :=
  Region.wanted o (yielded ops a.tmps) = true → LooseAt P C K (execOp a.eval o)
def Yld (P : Program) (ops : Array Oper) (C : World → Prop) (K : FuncId → Array Value → Value → Prop) (o : Oper) (a : Act) (u : Value) : Prop :=
  if Region.wanted o (yielded ops a.tmps) = true then Outs P C K (execOp a.eval o) u else u = undef

theorem lOp_iff {i : Nat} {o : Oper} {a : Act} {k : Act → Prop} (hi : ops[i]? = some o) : lOp P ops C K i k a ↔ Goes P ops C K o a ∧ ∀ u, Yld P ops C K o a u → k (a.put o.dst u) := by
  unfold lOp Goes Yld Loose
  simp only [hi]
  by_cases hw : Region.wanted o (yielded ops a.tmps) = true
  · simp [hw]
  · simp [hw]

theorem yld_some (hne : ∃ w, C w) {o : Oper} {a : Act} (hg : Goes P ops C K o a) : ∃ u, Yld P ops C K o a u := by
  unfold Yld
  by_cases hw : Region.wanted o (yielded ops a.tmps) = true
  · simp only [hw, if_true]
    obtain ⟨w, hC⟩ := hne
    have h := hg hw w hC
    suffices h' : ∃ u, outOf K ((execOp a.eval o).run P w) u from h'.elim fun u hu => ⟨u, w, hC, hu⟩
    generalize (execOp a.eval o).run P w = r at *
    cases r with
    | ok n w' =>
      cases n <;> simp only [looseUpon] at h
      case value u => exact ⟨u, rfl⟩
      case skip => exact ⟨undef, rfl⟩
      case enter f args =>
        obtain ⟨e, w'', fr, ⟨u, _, hk, _⟩, _⟩ := h []
        exact ⟨u, hk⟩
    | halt x w' => simp only [looseUpon] at h
  · simp only [hw]; exact ⟨undef, by simp⟩

theorem Goes.put {o : Oper} (hs : ∀ cs b, o.op ≠ .select cs b) (a : Act) (dst : Option Tmp) (v : Value) (h : ∀ d, dst = some d → d ∉ o.looksAt ops) : Goes P ops C K o (a.put dst v) ↔ Goes P ops C K o a := by
  unfold Goes; rw [wanted_put o a dst v h, execOp_put o hs a dst v h]
theorem Yld.put {o : Oper} (hs : ∀ cs b, o.op ≠ .select cs b) (a : Act) (dst : Option Tmp) (v u : Value) (h : ∀ d, dst = some d → d ∉ o.looksAt ops) : Yld P ops C K o (a.put dst v) u ↔ Yld P ops C K o a u := by
  unfold Yld; rw [wanted_put o a dst v h, execOp_put o hs a dst v h]

/-- Whatever order is picked among the first n. -/
def anyG (P : Program) (md : Region.Mode) (ops : Array Oper) (C : World → Prop) (K : FuncId → Array Value → Value → Prop) (n : Nat) (L : Array Bool → Act → Prop) : Nat → Array Bool → Act → Prop
  | 0, listed, a => L listed a
  | f + 1, listed, a =>
    Region.ready md ops listed ≠ [] ∧ ∀ i ∈ Region.ready md ops listed, i < n ∧ lOp P ops C K i (anyG P md ops C K n L f (listed.setIfInBounds i true)) a

theorem wpAny_of_anyG {n g : Nat} {L : Array Bool → Act → Prop} {Q' : Exit → Act → World → Prop} (hL : ∀ listed a w, C w → L listed a → wpAny P md ops Q' g listed a w) :
    ∀ (f : Nat) (listed : Array Bool) (a : Act) (w : World), C w → anyG P md ops C K n L f listed a → wpAny P md ops Q' (f + g) listed a w
  | 0, listed, a, w, hC, h => by rw [Nat.zero_add]; exact hL _ _ _ hC h
  | f + 1, listed, a, w, hC, h => by
    rw [show f + 1 + g = (f + g) + 1 by omega]
    exact ⟨fun h0 => absurd h0 h.1, fun i hi => wpOp_of_lOp hC (fun a' w' hC' h' => wpAny_of_anyG hL f _ a' w' hC' h') (h.2 i hi).2⟩

theorem anyG_first {n i : Nat} {oi : Oper} {L : Array Bool → Act → Prop} (hne : ∃ w, C w) (hi : ops[i]? = some oi) (hsel : ∀ (j : Nat) (o : Oper) cs b, ops[j]? = some o → o.op ≠ .select cs b)
    (hin : i < n) (hhead : ∀ listed, HeadInv md ops n listed → i ∈ Region.ready md ops listed → ∀ j ∈ Region.ready md ops listed, j < n)
    (hdone : ∀ listed a, L listed a → ∀ j ∈ Region.ready md ops listed, n ≤ j) :
    ∀ (f : Nat) (listed : Array Bool) (a : Act), HeadInv md ops n listed →
      (∀ j oj, ops[j]? = some oj → j ≠ i → listed.getD j true = false → (∀ e ∈ oj.after, Region.binds md e = true → e.on ≠ i) → oi.apart ops oj = true) →
      i ∈ Region.ready md ops listed → Goes P ops C K oi a →
      (∀ u, Yld P ops C K oi a u → anyG P md ops C K n L f (listed.setIfInBounds i true) (a.put oi.dst u)) → anyG P md ops C K n L (f + 1) listed a := by
  intro f
  induction f with
  | zero =>
    intro listed a inv _ hr hy H
    refine ⟨fun h => (by rw [h] at hr; cases hr), fun j hj => ?_⟩
    have hjn := hhead listed inv hr j hj
    refine ⟨hjn, ?_⟩
    by_cases hji : j = i
    · subst hji; exact (lOp_iff hi).2 ⟨hy, H⟩
    · obtain ⟨u, hu⟩ := yld_some hne hy
      have := hdone _ _ (H u hu) j (ready_mono hj hji)
      omega
  | succ f ih =>
    intro listed a inv hfree hr hy H
    refine ⟨fun h => (by rw [h] at hr; cases hr), fun j hj => ?_⟩
    have hjn := hhead listed inv hr j hj
    refine ⟨hjn, ?_⟩
    by_cases hji : j = i
    · subst hji; exact (lOp_iff hi).2 ⟨hy, H⟩
    · have hun := (mem_ready.1 hr).1
      obtain ⟨hjun, oj, hoj, hall⟩ := mem_ready.1 hj
      have hnot : ∀ e ∈ oj.after, Region.binds md e = true → e.on ≠ i := fun e he hb heq => by
        have h1 := hall e he hb
        rw [heq, getD_both hun] at h1
        cases h1
      have hap := hfree j oj hoj hji hjun hnot
      obtain ⟨p1, p2, p3⟩ := Oper.apart_spec hap
      have hsi := fun cs b => hsel i oi cs b hi
      have hsj := fun cs b => hsel j oj cs b hoj
      have hfree' : ∀ k ok, ops[k]? = some ok → k ≠ i → (listed.setIfInBounds j true).getD k true = false →
          (∀ e ∈ ok.after, Region.binds md e = true → e.on ≠ i) → oi.apart ops ok = true := fun k ok hk hki hun hno => by
        refine hfree k ok hk hki ?_ hno
        by_cases hjk : j = k
        · subst hjk; exact hjun
        · rw [getD_set_ne true hjk] at hun; exact hun
      have hstep : ∀ u, Yld P ops C K oi a u → Goes P ops C K oj a ∧ ∀ v, Yld P ops C K oj a v → anyG P md ops C K n L f ((listed.setIfInBounds i true).setIfInBounds j true) ((a.put oi.dst u).put oj.dst v) := fun u hu => by
        have h1 := ((H u hu).2 j (ready_mono hj hji)).2
        obtain ⟨g1, g2⟩ := (lOp_iff hoj).1 h1
        exact ⟨(Goes.put hsj a oi.dst u p1).1 g1, fun v hv => g2 v ((Yld.put hsj a oi.dst u v p1).2 hv)⟩
      obtain ⟨u0, hu0⟩ := yld_some hne hy
      refine (lOp_iff hoj).2 ⟨(hstep u0 hu0).1, fun v hv => ?_⟩
      refine ih (listed.setIfInBounds j true) _ (inv.set hj hjn) hfree' (ready_mono hr (Ne.symm hji)) ((Goes.put hsi a oj.dst v p3).2 hy) fun u hu => ?_
      have hu' := (Yld.put hsi a oj.dst v u p3).1 hu
      rw [Array.setIfInBounds_comm _ _ hji, Act.put_comm a v u (fun d hd he => p2 d he hd)]
      exact (hstep u hu').2 v hv

/-- The lexical order is one that the edges allow; behind it LB. -/
def lexTo (md : Region.Mode) (ops : Array Oper) (LB : Array Bool → Bool) : Nat → Nat → Array Bool → Bool
  | 0, _, listed => LB listed
  | f + 1, k, listed => (Region.ready md ops listed).contains k && Region.free md ops listed k && lexTo md ops LB f (k + 1) (listed.setIfInBounds k true)

theorem anyG_lex {n : Nat} {Lq : Act → Prop} {LB : Array Bool → Bool} (hne : ∃ w, C w) (hsel : Region.noSelect ops = true)
    (hhead : ∀ i, i < n → ∀ listed, HeadInv md ops n listed → i ∈ Region.ready md ops listed → ∀ j ∈ Region.ready md ops listed, j < n)
    (hdone : ∀ listed, LB listed = true → ∀ j ∈ Region.ready md ops listed, n ≤ j) :
    ∀ (l : List Oper) (k : Nat) (listed : Array Bool) (a : Act), (∀ j, j < l.length → l[j]? = ops[k + j]?) → k + l.length = n → HeadInv md ops n listed →
    lexTo md ops LB l.length k listed = true → wpLoose P ops C K Lq l a →
    anyG P md ops C K n (fun listed' a' => LB listed' = true ∧ Lq a') l.length listed a
  | [], k, listed, a, _, hk, _, hB, h => ⟨by simpa [lexTo] using hB, h⟩
  | o :: l, k, listed, a, hl, hk, inv, hB, h => by
    have h0 : ops[k]? = some o := by simpa using (hl 0 (by simp)).symm
    simp only [List.length_cons, lexTo, Bool.and_eq_true] at hB
    obtain ⟨⟨hr, hf⟩, hB'⟩ := hB
    have hkn : k < n := by simp only [List.length_cons] at hk; omega
    have hr' : k ∈ Region.ready md ops listed := by simpa using hr
    have hst : lOp P ops C K k (wpLoose P ops C K Lq l) a := by unfold lOp; simp only [h0]; exact h
    obtain ⟨hy, hK⟩ := (lOp_iff h0).1 hst
    refine anyG_first hne h0 (Region.noSelect_spec hsel) hkn (hhead k hkn) (fun listed' a' hL => hdone _ hL.1) l.length listed a inv (Region.free_spec h0 hf) hr' hy fun u hu => ?_
    exact anyG_lex hne hsel hhead hdone l (k + 1) _ _ (fun j hj => by have := hl (j + 1) (by simp; omega); simpa [Nat.add_assoc, Nat.add_comm 1 j] using this) (by simp only [List.length_cons] at hk; omega) (inv.set hr' hkn) hB' (hK u hu)
theorem headInv0 (ops : Array Oper) (n : Nat) : HeadInv md ops n (Array.replicate ops.size false) :=
  ⟨by simp, fun j oj _ hl => (by rw [getD_replicate_false] at hl; cases hl), fun t _ ht => getD_in (by simpa using ht) (getD_replicate_false _ _)⟩

/-- THE WHOLE REGION IN THE LEXICAL ORDER: whatever order is drawn. -/
theorem wp_region_loose {id : Nat} {Q : Exit → Act → World → Prop} {a : Act} {w : World} {l : List Oper} (C : World → Prop) (K : FuncId → Array Value → Value → Prop)
    (hm : P.follows .mixedOrders = true) (hB : (Region.noSelect l.toArray && lexTo .any l.toArray (fun listed => (Region.ready .any l.toArray listed).isEmpty) l.length 0 (Array.replicate l.toArray.size false)) = true)
    (hC : C { w with drawn := w.drawn + 1 }) (h : wpLoose P l.toArray C K (fun a' => ∀ w', C w' → Q .normal a' w') l a) : (Code.region id l.toArray true).wp P Q a w := by
  simp only [Bool.and_eq_true] at hB
  refine wp_region_any hm ?_
  have H := anyG_lex (md := .any) (n := l.length) (LB := fun listed => (Region.ready .any l.toArray listed).isEmpty) ⟨_, hC⟩ hB.1
    (fun i _ listed _ _ j hj => by
      obtain ⟨_, oj, hoj, _⟩ := mem_ready.1 hj
      have := (Array.getElem?_eq_some_iff.1 hoj).1
      simpa using this)
    (fun listed hl j hj => by simp only [List.isEmpty_iff] at hl; rw [hl] at hj; cases hj)
    l 0 _ a (by simp) (by simp) (headInv0 _ _) hB.2 h
  have := wpAny_of_anyG (Q' := Q) (g := 0) (fun listed a' w' hC' hL => ⟨by simpa using hL.1, hL.2 w' hC'⟩) _ _ _ _ hC H
  simpa using this

/-- THE FIRST n OPERATIONS IN THE LEXICAL ORDER, the rest in its forced order. -/
theorem wp_region_loose_tail {id : Nat} {Q : Exit → Act → World → Prop} {a : Act} {w : World} {l : List Oper} (n : Nat) (C : World → Prop) (K : FuncId → Array Value → Value → Prop)
    (hm : P.follows .mixedOrders = true)
    (hB : (Region.noSelect l.toArray && decide (n < l.toArray.size) && Region.sinkB .any l.toArray n && Region.chainB .any l.toArray n && lexTo .any l.toArray (fun listed => Region.seqB .any l.toArray (l.toArray.size - n) n listed) n 0 (Array.replicate l.toArray.size false)) = true)
    (hC : C { w with drawn := w.drawn + 1 }) (h : wpLoose P l.toArray C K (fun a' => ∀ w', C w' → wpList P l.toArray Q (l.drop n) a' w') (l.take n) a) : (Code.region id l.toArray true).wp P Q a w := by
  simp only [Bool.and_eq_true, decide_eq_true_eq] at hB
  obtain ⟨⟨⟨⟨hsel, hn⟩, hs⟩, hc⟩, hlex⟩ := hB
  have hn' : n < l.length := by simpa using hn
  have htl : (l.take n).length = n := by simp; omega
  have hdl : (l.drop n).length = l.toArray.size - n := by simp
  refine wp_region_any hm ?_
  have H := anyG_lex (md := .any) (n := n) (LB := fun listed => Region.seqB .any l.toArray (l.toArray.size - n) n listed) ⟨_, hC⟩ hsel
    (fun i hi listed inv hr j hj => by
      rcases Nat.lt_or_ge j n with hjn | hjn
      · exact hjn
      · exact absurd hj (tail_waits hs hc hn inv _ i rfl hi (mem_ready.1 hr).1 j hjn))
    (fun listed hl j hj => seqB_ready hl j hj)
    (l.take n) 0 (Array.replicate l.toArray.size false) a (fun j hj => by
      have hj' : j < n := by rw [htl] at hj; exact hj
      simp [hj']) (by simpa using htl) (headInv0 _ _) (by rw [htl]; exact hlex) h
  have := wpAny_of_anyG (Q' := Q) (g := l.toArray.size - n) (fun listed a' w' hC' hL => by
    have := wpAny_of_seq (md := .any) (Q' := Q) (l.drop n) n listed a' w' (fun j => by simp [List.getElem?_drop]) (by rw [hdl]; exact hL.1) (hL.2 w' hC')
    rwa [hdl] at this) _ _ _ _ hC H
  rw [htl, show n + (l.toArray.size - n) = l.toArray.size by omega] at this
  exact this

/-! ### The steps of the lexical walk -/
variable {Q : Act → Prop} {a : Act} {o : Oper} {rest : List Oper}

theorem wpLoose_nil (h : Q a) : wpLoose P ops C K Q [] a := h

/-- What an operation that neither writes nor draws comes to. -/
def plainUpon (w : World) (v : Value) : Result Next → Prop
  | .ok (.value u) w' => w' = w ∧ u = v
  | .ok .skip w' => w' = w ∧ v = undef
  | _ => False
def Plain (P : Program) (o : Oper) (a : Act) (w : World) (v : Value) : Prop := plainUpon w v ((execOp a.eval o).run P w)

theorem loose_skip (hw : Region.wanted o (yielded ops a.tmps) = false) (h : wpLoose P ops C K Q rest (a.put o.dst undef)) : wpLoose P ops C K Q (o :: rest) a := by
  unfold wpLoose; rw [if_neg (by rw [hw]; exact Bool.false_ne_true)]; exact h

theorem loose_plain (v : Value) (hw : Region.wanted o (yielded ops a.tmps) = true) (hp : ∀ w, C w → Plain P o a w v) (h : wpLoose P ops C K Q rest (a.put o.dst v)) : wpLoose P ops C K Q (o :: rest) a := by
  unfold wpLoose; rw [if_pos hw]
  refine ⟨fun w hC => ?_, fun u hu => ?_⟩
  · have h1 := hp w hC
    unfold Plain at h1
    generalize (execOp a.eval o).run P w = r at *
    cases r with
    | ok n w' => cases n <;> simp only [plainUpon] at h1 <;> simp only [looseUpon] <;> (obtain ⟨rfl, _⟩ := h1; exact hC)
    | halt x w' => simp only [plainUpon] at h1
  · obtain ⟨w, hC, hu⟩ := hu
    have h1 := hp w hC
    unfold Plain at h1
    generalize (execOp a.eval o).run P w = r at *
    cases r with
    | ok n w' =>
      cases n <;> simp only [plainUpon] at h1 <;> simp only [outOf] at hu
      case value x => obtain ⟨_, rfl⟩ := h1; subst hu; exact h
      case skip => obtain ⟨_, rfl⟩ := h1; subst hu; exact h
    | halt x w' => simp only [plainUpon] at h1

/-- A call: its arguments by looking; its contract in every world of the class. -/
theorem loose_call {f : FuncId} {args : Array Value} (hw : Region.wanted o (yielded ops a.tmps) = true) (hr : ∀ w, (execOp a.eval o).run P w = .ok (.enter f args) w)
    (hc : ∀ w, C w → Calls P f args w (fun e w'' => ∃ u, e = .returned u ∧ K f args u ∧ C w'')) (h : ∀ u, K f args u → wpLoose P ops C K Q rest (a.put o.dst u)) : wpLoose P ops C K Q (o :: rest) a := by
  unfold wpLoose; rw [if_pos hw]
  refine ⟨fun w hC => ?_, fun u hu => ?_⟩
  · rw [hr]; exact hc w hC
  · obtain ⟨w, hC, hu⟩ := hu
    rw [hr] at hu
    exact h u hu

/-- Any operation, by what it comes to in the worlds of the class. -/
theorem loose_any (S : Value → Prop) (hw : Region.wanted o (yielded ops a.tmps) = true) (hp : ∀ w, C w → ∃ u w', (execOp a.eval o).run P w = .ok (.value u) w' ∧ S u ∧ C w') (h : ∀ u, S u → wpLoose P ops C K Q rest (a.put o.dst u)) : wpLoose P ops C K Q (o :: rest) a := by
  unfold wpLoose; rw [if_pos hw]
  refine ⟨fun w hC => ?_, fun u hu => ?_⟩
  · obtain ⟨u, w', hr, _, hC'⟩ := hp w hC
    rw [hr]; exact hC'
  · obtain ⟨w, hC, hu⟩ := hu
    obtain ⟨u', w', hr, hS, _⟩ := hp w hC
    rw [hr] at hu
    have : u = u' := hu
    subst this
    exact h u hS
end
end Go.Proofs.YtgiimcdjojjbmaaGreatDoor
