/- A contract over few objects serves in every heap that has them. -/
import Derived.Test.YtoikiogaiikheaaSndAK
set_option linter.unusedSectionVars false
set_option linter.unusedVariables false
set_option linter.unusedSimpArgs false
namespace Ide
open Go Go.RowKit
variable [Pol]

def renA (ρ : Nat → Nat) : Option Addr → Option Addr
  | some ⟨i, o, s⟩ => some ⟨ρ i, o, s⟩
  | none => none
def renR (ρ : Nat → Nat) : Option Nat → Option Nat
  | some i => some (ρ i)
  | none => none
def renF (ρ : Nat → Nat) : Fn → Fn
  | .yield i => .yield (ρ i)
  | f => f

/-- Ids are renamed. -/
def renV (ρ : Nat → Nat) : Value → Value
  | .pointer a => .pointer (renA ρ a)
  | .slice a n m => .slice (renA ρ a) n m
  | .map r => .map (renR ρ r)
  | .func f a c => .func (renF ρ f) (go a) (go c)
  | .iface t v => .iface t (renV ρ v)
  | .agg cs => .agg (go cs)
  | .tuple cs => .tuple (go cs)
  | v => v
  where
  go : Array Value → Array Value
    | ⟨l⟩ => ⟨goL l⟩
  goL : List Value → List Value
    | [] => []
    | v :: l => renV ρ v :: goL l

def inA (n : Nat) : Option Addr → Bool
  | some ⟨i, _, _⟩ => Nat.blt i n
  | none => true
def inR (n : Nat) : Option Nat → Bool
  | some i => Nat.blt i n
  | none => true
def inF (n : Nat) : Fn → Bool
  | .yield i => Nat.blt i n
  | _ => true

/-- All ids of a value are small. -/
def inV (n : Nat) : Value → Bool
  | .pointer a => inA n a
  | .slice a _ _ => inA n a
  | .map r => inR n r
  | .func f a c => inF n f && go a && go c
  | .iface _ v => inV n v
  | .agg cs => go cs
  | .tuple cs => go cs
  | _ => true
  where
  go : Array Value → Bool
    | ⟨l⟩ => goL l
  goL : List Value → Bool
    | [] => true
    | v :: l => inV n v && goL l

mutual
theorem ren_rel {ρ : Nat → Nat} {n : Nat} {L L' : LMap} (hL : ∀ i, i < n → L' i = L (ρ i)) : ∀ (v v' : Value), VRel L (renV ρ v) v' → inV n v = true → VRel L' v v'
  | .bool b, v', h, _ => by simp only [renV] at h; cases h; exact .bool b
  | .int k m, v', h, _ => by simp only [renV] at h; cases h; exact .int k m
  | .string s, v', h, _ => by simp only [renV] at h; cases h; exact .str s
  | .nilFunc, v', h, _ => by simp only [renV] at h; cases h; exact .nilFunc
  | .nilIface, v', h, _ => by simp only [renV] at h; cases h; exact .nilIface
  | .chan c, v', h, _ => by
    simp only [renV] at h
    cases c with
    | none => exact .any v'
    | some c => cases h
  | .float .., v', h, _ => by simp only [renV] at h; cases h
  | .complex .., v', h, _ => by simp only [renV] at h; cases h
  | .pointer none, v', h, _ => by simp only [renV, renA] at h; cases h; exact .ptrNil
  | .pointer (some ⟨i, o, s⟩), v', h, hi => by
    simp only [renV, renA] at h
    simp only [inV, inA, Nat.blt_eq] at hi
    cases h with
    | ptr h => exact .ptr ((hL i hi).trans h)
  | .slice none a b, v', h, _ => by simp only [renV, renA] at h; cases h; exact .sliceNil
  | .slice (some ⟨i, o, s⟩) a b, v', h, hi => by
    simp only [renV, renA] at h
    simp only [inV, inA, Nat.blt_eq] at hi
    cases h with
    | sliceE hq => exact .sliceE hq
    | slice h hn hm hx ho hb => exact .slice ((hL i hi).trans h) hn hm hx ho hb
  | .map none, v', h, _ => by simp only [renV, renR] at h; cases h; exact .mapNil
  | .map (some i), v', h, hi => by
    simp only [renV, renR] at h
    simp only [inV, inR, Nat.blt_eq] at hi
    cases h with
    | map h => exact .map ((hL i hi).trans h)
  | .iface t v, v', h, hi => by
    simp only [renV] at h
    simp only [inV] at hi
    cases h with
    | iface h => exact .iface (ren_rel hL v _ h hi)
  | .agg ⟨l⟩, v', h, hi => by
    simp only [renV, renV.go] at h
    simp only [inV, inV.go] at hi
    cases h with
    | agg h => exact .agg (ren_rels hL l _ h hi)
  | .tuple ⟨l⟩, v', h, hi => by
    simp only [renV, renV.go] at h
    simp only [inV, inV.go] at hi
    cases h with
    | tuple h => exact .tuple (ren_rels hL l _ h hi)
  | .func (.func f) ⟨a⟩ ⟨c⟩, v', h, hi => by
    simp only [renV, renV.go, renF] at h
    simp only [inV, inV.go, inF, Bool.true_and, Bool.and_eq_true] at hi
    cases h with
    | func h1 h2 => exact .func (ren_rels hL a _ h1 hi.1) (ren_rels hL c _ h2 hi.2)
  | .func (.yield i) ⟨a⟩ ⟨c⟩, v', h, hi => by
    simp only [renV, renV.go, renF] at h
    simp only [inV, inV.go, inF, Bool.and_eq_true, Nat.blt_eq] at hi
    generalize ha : renV.goL ρ a = a1 at h
    generalize hc : renV.goL ρ c = c1 at h
    cases h with
    | yield h =>
      cases a with
      | cons x a => simp [renV.goL] at ha
      | nil =>
        cases c with
        | cons x c => simp [renV.goL] at hc
        | nil => exact .yield ((hL i hi.1.1).trans h)
  | .func (.method m) ⟨a⟩ ⟨c⟩, v', h, hi => by simp only [renV, renV.go, renF] at h; cases h
  | .func (.methodOf t m) ⟨a⟩ ⟨c⟩, v', h, hi => by simp only [renV, renV.go, renF] at h; cases h
  | .func (.via t p f q) ⟨a⟩ ⟨c⟩, v', h, hi => by simp only [renV, renV.go, renF] at h; cases h
theorem ren_rels {ρ : Nat → Nat} {n : Nat} {L L' : LMap} (hL : ∀ i, i < n → L' i = L (ρ i)) : ∀ (l l' : List Value), VsRel L (renV.goL ρ l) l' → inV.goL n l = true → VsRel L' l l'
  | [], l', h, _ => by simp only [renV.goL] at h; cases h; exact .nil
  | v :: l, l', h, hi => by
    simp only [renV.goL] at h
    simp only [inV.goL, Bool.and_eq_true] at hi
    cases h with
    | cons h t => exact .cons (ren_rel hL v _ h hi.1) (ren_rels hL l _ t hi.2)
end

/-- Objects of plain cells: what they are does not hang on where anything lies. -/
def plainO : IObj → Bool
  | .cells cs _ => ground.groundL cs
  | .map es _ => es.all fun e => ground e.val
  | .free => true
  | _ => false

theorem es_ground {L L' : LMap} : ∀ {a b : List MapEntry}, EsRel L a b → (a.all fun e => ground e.val) = true → EsRel L' a b
  | [], [], h, _ => h
  | x :: a, y :: b, ⟨h1, h2, h3, h4, h5⟩, hi => by
    simp only [List.all_cons, Bool.and_eq_true] at hi
    refine ⟨h1, h2, h3, ?_, es_ground h5 hi.2⟩
    rw [h4.eq_of_ground hi.1]
    exact VRel.of_ground _ _ hi.1
  | [], _ :: _, h, _ => h.elim
  | _ :: _, [], h, _ => h.elim

theorem plain_rel {L L' : LMap} {w0 w : World} {l : Loc} {o : IObj} (ho : plainO o = true) (h : ORel L w0 w l o) : ORel L' w0 w l o := by
  match o, ho, h with
  | .cells cs true, ho, ⟨h0, h1, arr, T, vs, h2, h3, h3', h4, h5⟩ =>
    have e := h4.eq_of_ground ho
    subst e
    exact ⟨h0, h1, arr, T, _, h2, h3, h3', VsRel.of_ground _ _ ho, h5⟩
  | .cells cs false, ho, ⟨h0, h1, vs, h2, h3⟩ =>
    have e := h2.eq_of_ground ho
    subst e
    exact ⟨h0, h1, _, VsRel.of_ground _ _ ho, h3⟩
  | .map es clock, ho, ⟨h1, es', h2, h3⟩ => exact ⟨h1, es', h2, es_ground h3 ho⟩

/-- Values that hold no place of memory. -/
def plainV : Value → Bool
  | .tuple ⟨l⟩ => ground.groundL l
  | v => ground v
theorem plainV_rel {v : Value} (h : plainV v = true) (L L' : LMap) (v' : Value) (hr : VRel L v v') : VRel L' v v' := by
  unfold plainV at h
  split at h
  · rename_i l
    cases hr with
    | tuple hr => rw [hr.eq_of_ground h]; exact .tuple (VsRel.of_ground _ _ h)
  · rw [hr.eq_of_ground h]; exact VRel.of_ground _ _ h

/-- A call that hands back a plain value and leaves its own objects as they were: so in every heap that has the objects. -/
theorem ICalls.frame {P : Program} {f : FuncId} {args : List Value} {Hc H : IHeap} {v : Value} (ρ : Nat → Nat) (hv : ∀ (L L' : LMap) (v' : Value), VRel L v v' → VRel L' v v')
    (h : ICalls P f args Hc (fun e H' => e = .ret v ∧ ∀ (i : Nat) (o : IObj), Hc[i]? = some o → o.own = true → H'[i]? = some o))
    (hp : Hc.all plainO = true) (hi : inV.goL Hc.length args = true) (hH : ∀ i, i < Hc.length → H[ρ i]? = Hc[i]?) (hinj : ∀ i j, i < Hc.length → j < Hc.length → ρ i = ρ j → i = j) :
    ICalls P f (renV.goL ρ args) H (fun e H' => e = .ret v ∧ H' = H) := by
  refine ⟨h.1, fun β w args' S ha => ?_⟩
  let βc : Emb := { w0 := β.w0, loc := fun i => if i < Hc.length then β.loc (ρ i) else none, held := fun _ => False }
  have hloc : ∀ i, i < Hc.length → βc.loc i = β.loc (ρ i) := fun i hi => if_pos hi
  have hlt : ∀ {i l}, βc.loc i = some l → i < Hc.length := by
    intro i l h
    by_cases e : i < Hc.length
    · exact e
    · have : βc.loc i = none := if_neg e
      rw [this] at h; cases h
  have hplain : ∀ {i o}, Hc[i]? = some o → plainO o = true := fun h => List.all_eq_true.1 hp _ (List.mem_of_getElem? h)
  have Sc : Sim βc Hc w := {
    below := S.below
    dom := fun id l hl => hlt hl
    held := fun id h => h.elim
    blk := fun id l hl => S.blk (ρ id) l ((hloc id (hlt hl)).symm.trans hl)
    obj := fun id l o hl ho => plain_rel (hplain ho) (S.obj (ρ id) l o ((hloc id (hlt hl)).symm.trans hl) ((hH id (hlt hl)).trans ho))
    inj := fun i j l l' o o' hl hl' ho ho' hown hown' hb => hinj i j (hlt hl) (hlt hl') (S.inj (ρ i) (ρ j) l l' o o' ((hloc i (hlt hl)).symm.trans hl) ((hloc j (hlt hl')).symm.trans hl') ((hH i (hlt hl)).trans ho) ((hH j (hlt hl')).trans ho') hown hown' hb) }
  have hac : VsRel βc.loc args args'.toList := ren_rels (fun i hi => hloc i hi) args _ ha hi
  refine (h.2 βc w args' Sc hac).mono fun e w' hA => ?_
  obtain ⟨β', H', St, S', hE⟩ := hA
  have hkeep : ∀ id l o, β.loc id = some l → H[id]? = some o → o.own = true → ORel β.loc β.w0 w' l o := by
    intro id l o hl ho hown
    have hO := S.obj id l o hl ho
    by_cases him : ∃ i, i < Hc.length ∧ ρ i = id
    · obtain ⟨i, hi, rfl⟩ := him
      have hc : Hc[i]? = some o := (hH i hi).symm.trans ho
      have hlc : βc.loc i = some l := (hloc i hi).trans hl
      have hun : H'[i]? = some o := by
        match e, hE with
        | .returned v', ⟨u, _, hu⟩ => exact hu.2 i o hc hown
        | .panicked chain, ⟨u, _, _, _, hu⟩ => cases hu.1
      have hO' := S'.obj i l o (St.le.2 i l hlc) hun
      have ew : β'.w0 = β.w0 := St.le.1.1
      rw [ew] at hO'
      exact plain_rel (hplain hc) hO'
    · refine hO.keep fun _ => St.frame l.block (S.blk id l hl) fun i li hli hb => ?_
      have hi := hlt hli
      have hli' : β.loc (ρ i) = some li := (hloc i hi).symm.trans hli
      have hoi : H[ρ i]? = Hc[i]? := hH i hi
      have hget : Hc[i]? = some Hc[i] := List.getElem?_eq_getElem hi
      have hpl := hplain hget
      have hO2 := S.obj (ρ i) li _ hli' (hoi.trans hget)
      have hbl := hO.block_lt hown
      generalize Hc[i] = oi at hget hpl hO2
      match oi, hpl, hget, hO2 with
      | .cells cs true, _, hget, _ => exact him ⟨i, hi, S.inj (ρ i) id li l _ o hli' hl (hoi.trans hget) ho rfl hown hb⟩
      | .cells cs false, _, _, ⟨_, h1, _⟩ => rw [hb] at h1; exact absurd h1 (Nat.not_lt.2 hbl.2)
      | .map es c, _, hget, _ => exact him ⟨i, hi, S.inj (ρ i) id li l _ o hli' hl (hoi.trans hget) ho rfl hown hb⟩
  refine ⟨β, H, ⟨Emb.le.refl _, St.size, fun id l hl => .inl ⟨id, l, hl, rfl⟩, fun k hk hn => St.frame k hk fun i li hli => hn (ρ i) li ((hloc i (hlt hli)).symm.trans hli)⟩, ?_, ?_⟩
  · have hb := S'.below
    rw [St.le.1.1] at hb
    exact {
      below := hb
      dom := S.dom
      held := S.held
      blk := fun id l hl => Nat.lt_of_lt_of_le (S.blk id l hl) St.size
      obj := fun id l o hl ho => by
        cases hown : o.own with
        | true => exact hkeep id l o hl ho hown
        | false => exact (S.obj id l o hl ho).keep fun hh => by rw [hown] at hh; cases hh
      inj := S.inj }
  · match e, hE with
    | .returned v', ⟨u, hu, he⟩ =>
      have e1 := he.1
      injection e1 with e1
      subst e1
      exact ⟨u, hv _ _ _ hu, rfl, rfl⟩
    | .panicked chain, ⟨u, _, _, _, hu⟩ => cases hu.1

/-- What is made within code, and no longer known, is left out. -/
def envIn (n : Nat) : Env → Bool
  | [] => true
  | (_, v) :: r => inV n v && envIn n r
theorem envIn_lk {n : Nat} : ∀ {e : Env}, envIn n e = true → ∀ t, inV n (lk e t) = true
  | [], _, t => rfl
  | (s, v) :: r, h, t => by
    simp only [envIn, Bool.and_eq_true] at h
    simp only [lk]
    cases Nat.beq s t with
    | true => exact h.1
    | false => exact envIn_lk h.2 t

mutual
theorem ren_id : ∀ v : Value, renV id v = v
  | .bool b => rfl
  | .int k m => rfl
  | .string s => rfl
  | .nilFunc => rfl
  | .nilIface => rfl
  | .chan c => rfl
  | .float .. => rfl
  | .complex .. => rfl
  | .pointer none => rfl
  | .pointer (some ⟨i, o, s⟩) => rfl
  | .slice none a b => rfl
  | .slice (some ⟨i, o, s⟩) a b => rfl
  | .map none => rfl
  | .map (some i) => rfl
  | .iface t v => by simp only [renV]; rw [ren_id v]
  | .agg ⟨l⟩ => by simp only [renV, renV.go]; rw [ren_ids l]
  | .tuple ⟨l⟩ => by simp only [renV, renV.go]; rw [ren_ids l]
  | .func f ⟨a⟩ ⟨c⟩ => by cases f <;> simp only [renV, renV.go, renF] <;> rw [ren_ids a, ren_ids c] <;> rfl
theorem ren_ids : ∀ l : List Value, renV.goL id l = l
  | [] => rfl
  | v :: l => by simp only [renV.goL]; rw [ren_id v, ren_ids l]
end

def inO (n : Nat) : IObj → Bool
  | .cells cs _ => inV.goL n cs
  | .dead => true
  | .free => true
  | .map es _ => es.all fun e => inV n e.val
  | _ => false

theorem in_rel {n : Nat} {L L' : LMap} (hL : ∀ i, i < n → L' i = L i) {w0 w : World} {l : Loc} {o : IObj} (ho : inO n o = true) (h : ORel L w0 w l o) : ORel L' w0 w l o := by
  have key : ∀ (l l' : List Value), VsRel L l l' → inV.goL n l = true → VsRel L' l l' := fun l l' h hi => ren_rels (ρ := id) hL l l' (by rw [ren_ids]; exact h) hi
  match o, ho, h with
  | .cells cs true, ho, ⟨h0, h1, arr, T, vs, h2, h3, h3', h4, h5⟩ => exact ⟨h0, h1, arr, T, vs, h2, h3, h3', key _ _ h4 ho, h5⟩
  | .cells cs false, ho, ⟨h0, h1, vs, h2, h3⟩ => exact ⟨h0, h1, vs, key _ _ h2 ho, h3⟩
  | .dead, _, _ => trivial
  | .map es clock, ho, ⟨h1, es', h2, h3⟩ =>
    refine ⟨h1, es', h2, ?_⟩
    have go : ∀ (a b : List MapEntry), EsRel L a b → (a.all fun e => inV n e.val) = true → EsRel L' a b := by
      intro a
      induction a with
      | nil => intro b h _; cases b <;> exact h
      | cons x a ih =>
        intro b h hi
        cases b with
        | nil => exact h
        | cons y b =>
          obtain ⟨h1, h2, h3, h4, h5⟩ := h
          simp only [List.all_cons, Bool.and_eq_true] at hi
          exact ⟨h1, h2, h3, ren_rel (ρ := id) hL _ _ (by rw [ren_id]; exact h4) hi.1, ih b h5 hi.2⟩
    exact go _ _ h3 (by simpa [inO] using ho)

theorem IW.trunc {ro : Option Nat} {P : Program} {nt : Nat} {c : Code} {Q : IExit → Env → IHeap → Prop} {env : Env} {H : IHeap} (n : Nat) (hn : H.length ≤ n)
    (h : IW ro P nt c (fun e env' H' => ∃ env'', (∀ t, lk env'' t = lk env' t ∨ lk env'' t = anyV) ∧ envIn n env'' = true ∧ (H'.take n).all (inO n) = true ∧ (∀ v, e ≠ .panic v) ∧ Q e env'' (H'.take n)) env H) : IW ro P nt c Q env H := by
  intro n0 β w a S hT hM
  refine wpIn_mono (h n0 β w a S hT hM) fun e a' w' hq => ?_
  have key : ∀ (x : IExit) (β' : Emb) (H' : IHeap) (env' : Env), Step β w β' w' → Sim β' H' w' → TRel β'.loc nt env' a'.tmps → Mk n0 β' w' a'.defers →
      (∃ env'', (∀ t, lk env'' t = lk env' t ∨ lk env'' t = anyV) ∧ envIn n env'' = true ∧ (H'.take n).all (inO n) = true ∧ (∀ v, x ≠ .panic v) ∧ Q x env'' (H'.take n)) →
      ∃ β' H' env', Step β w β' w' ∧ Sim β' H' w' ∧ TRel β'.loc nt env' a'.tmps ∧ Mk n0 β' w' a'.defers ∧ Q x env' H' := by
    rintro x β' H' env' St S' hT' hM' ⟨env'', hw, hin, hO, _, hQ⟩
    let β2 : Emb := { w0 := β'.w0, loc := fun i => if i < n then β'.loc i else none, held := β'.held }
    have hl2 : ∀ {i l}, β2.loc i = some l → i < n ∧ β'.loc i = some l := by
      intro i l h
      by_cases e : i < n
      · have : β2.loc i = β'.loc i := if_pos e
        exact ⟨e, this.symm.trans h⟩
      · have : β2.loc i = none := if_neg e
        rw [this] at h; cases h
    have hL : ∀ i, i < n → β2.loc i = β'.loc i := fun i hi => if_pos hi
    have htake : ∀ {i o}, (H'.take n)[i]? = some o → i < n ∧ H'[i]? = some o := by
      intro i o h
      rw [List.getElem?_take] at h
      split at h
      · exact ⟨‹_›, h⟩
      · cases h
    refine ⟨β2, H'.take n, env'', ?_, ?_, ?_, ?_, hQ⟩
    · exact {
        le := ⟨⟨St.le.1.1, St.le.1.2⟩, fun id l hl => by
          have h1 := S.dom id l hl
          rw [hL id (by omega)]
          exact St.le.2 id l hl⟩
        size := St.size
        newb := fun id l hl => St.newb id l (hl2 hl).2
        frame := St.frame }
    · exact {
        below := S'.below
        dom := fun id l hl => by have h1 := S'.dom id l (hl2 hl).2; have h2 := (hl2 hl).1; simp; omega
        held := fun id hh => by
          have hh0 : β.held id := by have := St.le.1.2; rw [← this]; exact hh
          have h1 := (S.held id hh0).1
          have h2 := S'.held id hh
          refine ⟨by simp; omega, ?_⟩
          rw [hL id (by omega)]
          exact ⟨h2.2.1, fun h4 => h2.2.2 (htake h4).2⟩
        blk := fun id l hl => S'.blk id l (hl2 hl).2
        obj := fun id l o hl ho => in_rel hL (List.all_eq_true.1 hO _ (List.mem_of_getElem? ho)) (S'.obj id l o (hl2 hl).2 (htake ho).2)
        inj := fun i j l l' o o' hl hl' ho ho' => S'.inj i j l l' o o' (hl2 hl).2 (hl2 hl').2 (htake ho).2 (htake ho').2 }
    · refine ⟨hT'.1, fun t ht => ?_⟩
      rcases hw t with e | e
      · have h1 := hT'.2 t ht
        rw [← e] at h1
        exact ren_rel (ρ := id) hL _ _ (by rw [ren_id]; exact h1) (envIn_lk hin t)
      · rw [e]; exact .any _
    · refine ⟨hM'.1, ?_⟩
      have go : ∀ ds : List Deferred, MkL n0 β' w' ds → MkL n0 β2 w' ds := by
        intro ds
        induction ds with
        | nil => intro _; trivial
        | cons d ds ih =>
          rintro ⟨⟨r, h1, ⟨h2, h3, h4⟩, h5⟩, h6⟩
          exact ⟨⟨r, h1, ⟨h2, fun id l hl => h3 id l (hl2 hl).2, h4⟩, h5⟩, ih h6⟩
      exact go _ hM'.2
  cases e with
  | normal => obtain ⟨β', H', env', St, S', hT', hM', hq⟩ := hq; exact key .normal β' H' env' St S' hT' hM' hq
  | exit id => obtain ⟨β', H', env', St, S', hT', hM', hq⟩ := hq; exact key (.exit id) β' H' env' St S' hT' hM' hq
  | ret => obtain ⟨β', H', env', St, S', hT', hM', hq⟩ := hq; exact key .ret β' H' env' St S' hT' hM' hq
  | panic ch => obtain ⟨β', H', env', v, v', _, _, _, _, _, _, _, _, _, _, hne, _⟩ := hq; exact absurd rfl (hne v)
  | goto t => exact hq.elim
  | outgrown => exact hq.elim

end Ide

/- A reckoner over variables: what code without loops comes to, as a proposition that is laid open by the text alone. -/
set_option linter.unusedVariables false
set_option linter.unusedSimpArgs false
namespace Ide
open Go Go.RowKit
variable [Pol]

theorem Det.mono {α : Type} {F : (α → Prop) → Prop} (h : Det F) {K K' : α → Prop} (hk : ∀ v, K v → K' v) (hf : F K) : F K' := let ⟨v, h1, h2⟩ := h K hf; h2 K' (hk v h1)

/-- What may be called: a call comes to a value and a heap for which K holds. -/
abbrev SCall := FuncId → List Value → IHeap → (Value → IHeap → Prop) → Prop

def SOk (P : Program) (sc : SCall) : Prop := ∀ g args H K, sc g args H K → ICalls P g args H (fun e H' => ∃ v, e = .ret v ∧ K v H')

/-- Nothing may be called. -/
def sc0 : SCall := fun _ _ _ _ => False
theorem sc0_ok {P : Program} : SOk P sc0 := fun g args H K h => h.elim

/-- The cells of some types, from a place on: they are there, whatever they are. -/
def ldKs (P : Program) (cs : List Value) : List TypeId → Nat → (List Value → Prop) → Prop
  | [], _, K => K []
  | t :: ts, o, K =>
    match P.underlying t with
    | some (.int k) => ∃ n, cs[o]? = some (.int k n) ∧ ldKs P cs ts (o + 1) fun vs => K (.int k n :: vs)
    | some .bool => ∃ b, cs[o]? = some (.bool b) ∧ ldKs P cs ts (o + 1) fun vs => K (.bool b :: vs)
    | some .string => ∃ s, cs[o]? = some (.string s) ∧ ldKs P cs ts (o + 1) fun vs => K (.string s :: vs)
    | _ => False

theorem ldKs_sound {P : Program} {cs : List Value} : ∀ (ts : List TypeId) (o : Nat) (K : List Value → Prop), ldKs P cs ts o K → ∃ vs, vs.length = ts.length ∧ (∀ j v, vs[j]? = some v → cs[o + j]? = some v) ∧ K vs
  | [], o, K, h => ⟨[], rfl, fun j v h => by simp at h, h⟩
  | t :: ts, o, K, h => by
    have step : ∀ (v : Value), cs[o]? = some v → ldKs P cs ts (o + 1) (fun vs => K (v :: vs)) → ∃ vs, vs.length = (t :: ts).length ∧ (∀ j v, vs[j]? = some v → cs[o + j]? = some v) ∧ K vs := by
      intro v hv hk
      obtain ⟨vs, h1, h2, h3⟩ := ldKs_sound ts (o + 1) _ hk
      refine ⟨v :: vs, by simp [h1], fun j u hj => ?_, h3⟩
      cases j with
      | zero => simp at hj; rw [← hj]; exact hv
      | succ j =>
        have := h2 j u (by simpa using hj)
        rw [show o + (j + 1) = o + 1 + j by omega]
        exact this
    simp only [ldKs] at h
    split at h
    · obtain ⟨n, h1, h2⟩ := h; exact step _ h1 h2
    · obtain ⟨n, h1, h2⟩ := h; exact step _ h1 h2
    · obtain ⟨n, h1, h2⟩ := h; exact step _ h1 h2
    · exact h.elim

/-- A load: of what is there to be seen, or, of hinted ones, of cells of which only the types are. -/
def sload (P : Program) (hint : Bool) (t : TypeId) (H : IHeap) (i o : Nat) (K : Value → Prop) : Prop :=
  match H[i]? with
  | some (.cells cs _) =>
    (match hint with
    | true =>
      (match flat P 10 t with
      | some l =>
        bif Nat.ble 1 (ssz P t) && Nat.beq l.length (ssz P t) then
          (match isAggT P t with
          | true => ldKs P cs l o fun vs => K (.agg ⟨vs⟩)
          | false => ldKs P cs [t] o fun vs => (match vs with | [v] => K v | _ => False))
        else False
      | none => False)
    | false =>
      (match P.underlying t with
      | some (.struct _) => bif Nat.ble (o + ssz P t) cs.length then K (.agg ⟨(cs.drop o).take (ssz P t)⟩) else False
      | some (.array _ _) => bif Nat.ble (o + ssz P t) cs.length then K (.agg ⟨(cs.drop o).take (ssz P t)⟩) else False
      | some d => (match cs[o]? with | some v => bif noAgg v then shaped (some d) v K else False | none => False)
      | none => False))
  | _ => False

theorem bifF {b : Bool} {X : Prop} (h : bif b then X else False) : b = true ∧ X := by cases b with | true => exact ⟨rfl, h⟩ | false => exact h.elim

theorem sload_sound {P : Program} {hint : Bool} {t : TypeId} {H : IHeap} {i o : Nat} {K : Value → Prop} (h : sload P hint t H i o K) : load P t H i o K := by
  unfold sload at h
  split at h
  · rename_i cs rw' hH
    have hcell : ∀ j, cellAt H i j = cs[j]? := fun j => by unfold cellAt; rw [hH]
    split at h
    · split at h
      · rename_i l hl
        obtain ⟨hb, h⟩ := bifF h
        simp only [Bool.and_eq_true] at hb
        have hpos := Nat.le_of_ble_eq_true hb.1
        have hlen := Nat.eq_of_beq_eq_true hb.2
        have hst : ∀ t, ldKs P cs [t] o (fun vs => (match vs with | [v] => K v | _ => False)) → (P.underlying t = some (.struct #[]) → False) → load P t H i o K := by
          intro t h _
          simp only [ldKs] at h
          unfold load
          split at h
          · rename_i k hu; obtain ⟨n, h1, h2⟩ := h; simp only [hu]; exact ⟨n, (hcell o).trans h1, h2⟩
          · rename_i hu; obtain ⟨n, h1, h2⟩ := h; simp only [hu]; exact ⟨n, (hcell o).trans h1, h2⟩
          · rename_i hu; obtain ⟨n, h1, h2⟩ := h; simp only [hu]; exact ⟨n, (hcell o).trans h1, h2⟩
          · exact h.elim
        split at h
        · rename_i ha
          obtain ⟨vs, h1, h2, h3⟩ := ldKs_sound l o _ h
          have hall : cellsAt H i o (ssz P t) = some vs := by
            unfold cellsAt
            rw [hH]
            simp only
            have hvs : ∀ j, j < vs.length → cs[o + j]? = vs[j]? := fun j hj => by rw [List.getElem?_eq_getElem hj]; exact h2 j _ (List.getElem?_eq_getElem hj)
            have hle : o + ssz P t ≤ cs.length := by
              cases hs : vs.length with
              | zero => omega
              | succ k =>
                have := hvs k (by omega)
                rw [List.getElem?_eq_getElem (by omega : k < vs.length)] at this
                have := (List.getElem?_eq_some_iff.1 this).1
                omega
            rw [if_pos hle]
            congr 1
            apply List.ext_getElem?
            intro j
            rw [List.getElem?_take]
            by_cases hj : j < ssz P t
            · rw [if_pos hj, List.getElem?_drop]; exact hvs j (by omega)
            · rw [if_neg hj, List.getElem?_eq_none (by omega)]
          unfold isAggT at ha
          unfold load
          split at ha
          · rename_i fs hu; simp only [hu]; exact ⟨vs, hall, h3⟩
          · rename_i n e hu; simp only [hu]; exact ⟨vs, hall, h3⟩
          · cases ha
        · exact hst t h (fun _ => by rename_i ha hu; simp [isAggT, hu] at ha)
      · exact h.elim
    · have agg : ∀ n, (bif Nat.ble (o + n) cs.length then K (.agg ⟨(cs.drop o).take n⟩) else False) → ldA H i o n fun cs => K (.agg ⟨cs⟩) := by
        intro n h
        obtain ⟨hb, h⟩ := bifF h
        refine ⟨(cs.drop o).take n, ?_, h⟩
        unfold cellsAt
        rw [hH]
        exact if_pos (Nat.le_of_ble_eq_true hb)
      unfold load
      split at h
      · rename_i fs hu; simp only [hu]; exact agg _ h
      · rename_i n e hu; simp only [hu]; exact agg _ h
      · rename_i d h1 h2 hu
        split at h
        · rename_i v hv
          obtain ⟨hna, h⟩ := bifF h
          have hc := (hcell o).trans hv
          rw [hu]
          cases d with
          | int k =>
            simp only [shaped, isI] at h
            split at h
            · obtain ⟨hk, h⟩ := bifF h
              have := kbeq_eq hk
              subst this
              exact ⟨_, hc, h⟩
            · exact h.elim
          | bool => simp only [shaped, isB] at h; split at h; · exact ⟨_, hc, h⟩
                    · exact h.elim
          | string => simp only [shaped, isS] at h; split at h; · exact ⟨_, hc, h⟩
                      · exact h.elim
          | pointer e => simp only [shaped, isP] at h; split at h; · exact ⟨_, hc, h⟩
                         · exact h.elim
          | slice e => simp only [shaped, isL] at h; split at h; · exact ⟨_, _, _, hc, h⟩
                       · exact h.elim
          | map a b => simp only [shaped, isM] at h; split at h; · exact ⟨_, hc, h⟩
                       · exact h.elim
          | struct fs => exact (h1 _ rfl).elim
          | array n e => exact (h2 _ _ rfl).elim
          | _ => exact ⟨v, hc, hna, h⟩
        · exact h.elim
      · exact h.elim
  · exact h.elim

def sst (P : Program) (t : TypeId) (H : IHeap) (i o : Nat) (v : Value) (K : IHeap → Prop) : Prop :=
  match H[i]?, vcells v with
  | some (.cells cs true), some vs =>
    bif Nat.ble 1 (ssz P t) && Nat.beq vs.length (ssz P t) && vs.all okCell && Nat.ble (o + vs.length) cs.length then K (H.set i (.cells (splice cs o vs) true)) else False
  | _, _ => False
theorem sst_sound {P : Program} {t : TypeId} {H : IHeap} {i o : Nat} {v : Value} {K : IHeap → Prop} (h : sst P t H i o v K) : stV P t H i o v K := by
  unfold sst at h
  split at h
  · rename_i cs vs hH hv
    obtain ⟨hb, h⟩ := bifF h
    simp only [Bool.and_eq_true] at hb
    unfold stV
    simp only [hv, hb.1.1.1, cond_true]
    exact ⟨⟨Nat.eq_of_beq_eq_true hb.1.1.2, hb.1.2⟩, cs, hH, Nat.le_of_ble_eq_true hb.2, h⟩
  · exact h.elim

def sbin (P : Program) (op : BinOp) (t : TypeId) (x y : Value) (K : Value → Prop) : Prop :=
  match x, y with
  | .int k a, .int k' b =>
    (match op with
    | .shl => binOp P op t x y K
    | .shr => binOp P op t x y K
    | op => bif kbeq k k' then intBin op k a b K else False)
  | x, y => binOp P op t x y K
theorem sbin_sound {P : Program} {op : BinOp} {t : TypeId} {x y : Value} {K : Value → Prop} (h : sbin P op t x y K) : binOp P op t x y K := by
  unfold sbin at h
  split at h
  · rename_i k a k' b
    split at h
    · exact h
    · exact h
    · rename_i h1 h2
      obtain ⟨hb, h3⟩ := bifF h
      clear h
      have := kbeq_eq hb
      subst this
      unfold binOp
      cases op <;> first | exact (h1 rfl).elim | exact (h2 rfl).elim | exact ⟨rfl, h3⟩
  · exact h

def sbuildSlice (P : Program) (t : TypeId) (len : Nat) (ps : List (Nat × Value)) (H : IHeap) (K : Value → IHeap → Prop) : Prop :=
  match P.underlying t with
  | some (.slice e) =>
    (match zeroOf P e with
    | some zs =>
      bif Nat.beq zs.length (ssz P e) && Nat.ble 1 (ssz P e) && Nat.ble (len * ssz P e) 16777216 then
        (match xfill (fun i => some (i * ssz P e, ssz P e)) (repeatL len zs) ps with
        | some cs => K (.slice (some ⟨Pol.pos H, 0, some (2 * ssz P e + 1)⟩) len len) (newO H (.cells cs true))
        | none => False)
      else False
    | none => False)
  | _ => False

/-! append, where the row is not known to have room -/
def scells (H : IHeap) (a : Option Addr) (n sz : Nat) (K : List Value → Prop) : Prop :=
  match a with
  | none => n = 0 ∧ K []
  | some ⟨i, o, some _⟩ => (match H[i]? with | some (.cells cs _) => o + n * sz ≤ cs.length ∧ K ((cs.drop o).take (n * sz)) | _ => False)
  | _ => False
theorem scells_sound {H : IHeap} {a : Option Addr} {n sz : Nat} {K : List Value → Prop} (h : scells H a n sz K) : sliceCells H a n sz K := by
  unfold scells at h
  unfold sliceCells
  split at h
  · exact h
  · split at h
    · rename_i hH
      obtain ⟨h1, h2⟩ := h
      refine ⟨_, ?_, h2⟩
      unfold cellsAt
      rw [hH]
      exact if_pos h1
    · exact h.elim
  · exact h.elim

def sappended (H : IHeap) (a : Option Addr) (n c m sz : Nat) (old new : List Value) (K : Value → IHeap → Prop) : Prop :=
  bcase (Nat.beq m 0) (K (.slice a n c) H)
    (match a with
    | none => K (newSlice H (n + m) sz) (newO H (.cells (old ++ new) true))
    | some ⟨i, o, some q⟩ =>
      (q / 2 = sz ∧ new.all okCell = true) ∧ c < n + m ∧
        bcase (Nat.beq (q % 2) 1) (K (newSlice H (n + m) sz) (newO H (.cells (old ++ new) true)))
          (match H[i]? with | some (.cells _ true) => K (newSlice H (n + m) sz) (newO (H.set i .dead) (.cells (old ++ new) true)) | _ => False)
    | _ => False)
theorem sappended_sound {H : IHeap} {a : Option Addr} {n c m sz : Nat} {old new : List Value} {K K' : Value → IHeap → Prop} (hk : ∀ v H, K v H → K' v H) (h : sappended H a n c m sz old new K) : appended H a n c m sz old new K' := by
  unfold sappended at h
  unfold appended
  unfold bcase at h ⊢
  cases hm : Nat.beq m 0 with
  | true => rw [hm] at h; exact hk _ _ h
  | false =>
    rw [hm] at h
    simp only at h ⊢
    split at h
    · exact hk _ _ h
    · rename_i i o q
      obtain ⟨h1, h2, h3⟩ := h
      refine ⟨h1, fun hle => absurd hle (by omega), fun _ => ?_⟩
      cases hq : Nat.beq (q % 2) 1 with
      | true => rw [hq] at h3; exact hk _ _ h3
      | false =>
        rw [hq] at h3
        simp only at h3 ⊢
        split at h3
        · rename_i cs hc; exact ⟨⟨cs, hc⟩, hk _ _ h3⟩
        · exact h3.elim
    · exact h.elim

def sappend (P : Program) (t : TypeId) (x y : Value) (H : IHeap) (K : Value → IHeap → Prop) : Prop :=
  match P.underlying t, x, y with
  | some (.slice e), .slice a n c, .slice b m _ =>
    bif rowOk P e then
      ((n + m) * sby P e ≤ 70368744177664 ∧ n + m ≤ 70368744177664) ∧
      scells H a n (ssz P e) fun old => scells H b m (ssz P e) fun new => sappended H a n c m (ssz P e) old new K
    else False
  | _, _, _ => False
theorem sappend_sound {P : Program} {t : TypeId} {x y : Value} {H : IHeap} {K K' : Value → IHeap → Prop} (hk : ∀ v H, K v H → K' v H) (h : sappend P t x y H K) : append P t x y H K' := by
  unfold sappend at h
  unfold append
  split at h
  · rename_i e a n c b m c' hu
    obtain ⟨hb, h1, h2⟩ := bifF h
    simp only [hu, hb, cond_true]
    have mono : ∀ {a : Option Addr} {n sz : Nat} {F G : List Value → Prop}, (∀ l, F l → G l) → sliceCells H a n sz F → sliceCells H a n sz G := by
      intro a n sz F G hFG h
      unfold sliceCells at h ⊢
      split at h
      · exact ⟨h.1, hFG _ h.2⟩
      · obtain ⟨cs, h1, h2⟩ := h; exact ⟨cs, h1, hFG _ h2⟩
      · exact h.elim
    exact ⟨h1, mono (fun old h => mono (fun new h => .inl (sappended_sound hk h)) (scells_sound h)) (scells_sound h2)⟩
  · exact h.elim

/-! maps with variables as keys -/
def findV (P : Program) (t : TypeId) (k : Value) (es : List MapEntry) : Option (Option Value) :=
  match findE P t k es with
  | some (some e) => some (some e.val)
  | some none => some none
  | none => none
def optK (d : Option TypeDesc) (r : Option Value) (Y : Value → Prop) (N : Prop) : Prop :=
  match r with
  | some v => shaped d v Y
  | none => N
def optS (r : Option Value) (Y : ByteArray → Prop) (N : Prop) : Prop :=
  match r with
  | some v => isS v Y
  | none => N
def slookup (P : Program) (t : TypeId) (H : IHeap) (m k : Value) (ok : Bool) (K : Value → Prop) : Prop :=
  match P.underlying t, m with
  | some (.map kt et), .map (some r) =>
    (match zeroV P et, H[r]? with
    | some z, some (.map es _) => keyOk P kt k = true ∧ ∃ res : Option Value, findV P kt k es = some res ∧ optK (P.underlying et) res (fun v => K (okV ok v true)) (K (okV ok z false))
    | _, _ => False)
  | _, _ => False
theorem slookup_sound {P : Program} {t : TypeId} {H : IHeap} {m k : Value} {ok : Bool} {K : Value → Prop} (h : slookup P t H m k ok K) : lookup P t H m k ok K := by
  unfold slookup at h
  unfold lookup
  split at h
  · rename_i kt et r hu
    simp only [hu]
    split at h
    · rename_i z es c hz hH
      obtain ⟨h1, res, h2, h3⟩ := h
      simp only [hz]
      refine ⟨h1, es, c, hH, ?_⟩
      unfold lookE
      unfold findV at h2
      unfold optK at h3
      split at h2
      · rename_i e he
        cases h2
        simp only [he]
        exact h3
      · rename_i he
        cases h2
        simp only [he]
        exact h3
      · cases h2
    · exact h.elim
  · exact h.elim

def smapUpdate (P : Program) (t : TypeId) (H : IHeap) (m k v : Value) (K : IHeap → Prop) : Prop :=
  match P.underlying t, m with
  | some (.map kt et), .map (some r) =>
    (match H[r]? with
    | some (.map es clock) => keyOk P kt k = true ∧ ∃ (es' : List MapEntry) (c' : Nat), putE P kt es clock k v (fun a b => a = es' ∧ b = c') ∧ K (H.set r (.map es' c'))
    | _ => False)
  | _, _ => False
theorem smapUpdate_sound {P : Program} {t : TypeId} {H : IHeap} {m k v : Value} {K K' : IHeap → Prop} (hk : ∀ H, K H → K' H) (h : smapUpdate P t H m k v K) : mapUpdate P t H m k v K' := by
  unfold smapUpdate at h
  unfold mapUpdate
  split at h
  · rename_i kt et r hu
    simp only [hu]
    split at h
    · rename_i es c hH
      obtain ⟨h1, es', c', h2, h3⟩ := h
      refine ⟨h1, es, c, hH, ?_⟩
      unfold putE at h2 ⊢
      split at h2
      · rename_i hf; simp only [hf]; obtain ⟨rfl, rfl⟩ := h2; exact hk _ h3
      · rename_i hf; simp only [hf]; obtain ⟨rfl, rfl⟩ := h2; exact hk _ h3
      · exact h2.elim
    · exact h.elim
  · exact h.elim

def hintd (hs : List Nat) (d : Option Nat) : Bool :=
  match d with
  | some t => memN t hs
  | none => false

def sop (P : Program) (hs : List Nat) (sc : SCall) (o : Oper) (env : Env) (H : IHeap) (K : Value → IHeap → Prop) (Qp : Value → IHeap → Prop) : Prop :=
  match o.op with
  | .move x => K (iev env x) H
  | .assign x => K (iev env x) H
  | .pick c a b =>
    (match iev env c with
    | .bool c => pickV c (iev env a) (iev env b) fun v => K v H
    | _ => False)
  | .alloc t => alloc P t H K
  | .box t x => box (iev env x) H K
  | .build t ps => (match xbuild P t (ps.toList.map fun p => (p.1, iev env p.2)) with | some v => K v H | none => False)
  | .buildSlice t n ps => sbuildSlice P t n (ps.toList.map fun p => (p.1, iev env p.2)) H K
  | .load t a => ptrAt (iev env a) fun i f => sload P (hintd hs o.dst) t H i f fun v => K v H
  | .store t a x => ptrAt (iev env a) fun i f => sst P t H i f (iev env x) fun H' => K anyV H'
  | .nilCheck x =>
    (match iev env x with
    | .pointer a => pcase a fun i f => K (ptrTo i f) H
    | .func f a b => K (.func f a b) H
    | _ => False)
  | .binOp op t x y _ => sbin P op t (iev env x) (iev env y) fun v => K v H
  | .unOp op _ x => unOp op (iev env x) fun v => K v H
  | .convert s d x => convert P s d (iev env x) fun v => K v H
  | .makeFunc (.func f) first cap => K (.func (.func f) ⟨first.toList.map (iev env)⟩ ⟨cap.toList.map (iev env)⟩) H
  | .makeMap _ none => K (.map (some (Pol.pos H))) (newO H (.map [] 0))
  | .slice t x lo hi mx => slice P t H (iev env x) (lo.map (iev env)) (hi.map (iev env)) (mx.map (iev env)) fun v => K v H
  | .fieldAddr t x f => fieldAddr P t (iev env x) f fun v => K v H
  | .indexAddr t x i => indexAddr P t (iev env x) (iev env i) fun v => K v H
  | .extract x i => extractOf (iev env x) i fun v => K v H
  | .call { callee := .value f, args := ⟨as⟩, .. } =>
    (match iev env f with
    | .func (.func g) ⟨first⟩ ⟨cap⟩ => sc g (first ++ as.map (iev env) ++ cap) H fun v H' => result P o.type v fun v => K v H'
    | _ => False)
  | .call { callee := .builtin .len, args := ⟨x :: _⟩, argTypes := ⟨t :: _⟩ } => lenOf P t H (iev env x) fun v => K v H
  | .call { callee := .builtin .append, args := ⟨x :: y :: _⟩, argTypes := ⟨t :: u :: _⟩ } => (match P.underlying u with | some (.slice _) => sappend P t (iev env x) (iev env y) H K | _ => False)
  | .lookup t m k ok => slookup P t H (iev env m) (iev env k) ok fun v => K v H
  | .mapUpdate t m k v => smapUpdate P t H (iev env m) (iev env k) (iev env v) fun H' => K anyV H'
  | .insert t m k v => smapUpdate P t H (iev env m) (iev env k) (iev env v) fun H' => K anyV H'
  | .call { callee := .builtin .min, args := ⟨as⟩, argTypes := ⟨_ :: _⟩ } => minMax false (as.map (iev env)) fun v => K v H
  | .call { callee := .builtin .max, args := ⟨as⟩, argTypes := ⟨_ :: _⟩ } => minMax true (as.map (iev env)) fun v => K v H
  | _ => False

theorem parts_mono {P : Program} {K K' : List Value → Prop} (hk : ∀ v, K v → K' v) : ∀ (ts : List TypeId) (vs acc : List Value), parts P ts vs acc K → parts P ts vs acc K'
  | [], vs, acc, h => by cases vs with | nil => exact hk _ h | cons v vs => exact h
  | t :: ts, vs, acc, h => by
    cases vs with
    | nil => exact h
    | cons v vs =>
      simp only [parts, hd] at h ⊢
      exact det_shaped.mono (fun v h => parts_mono hk ts vs _ h) h

theorem result_mono {P : Program} {t : TypeId} {v : Value} {K K' : Value → Prop} (hk : ∀ v, K v → K' v) (h : result P t v K) : result P t v K' := by
  unfold result at h ⊢
  generalize P.underlying t = d at h ⊢
  cases d with
  | none => exact det_shaped.mono hk h
  | some d =>
    cases d with
    | tuple ts =>
      obtain ⟨ts⟩ := ts
      simp only at h ⊢
      unfold isT at h ⊢
      cases v with
      | tuple vs => obtain ⟨vs⟩ := vs; exact parts_mono (fun vs h => hk _ h) _ _ _ h
      | _ => exact h.elim
    | _ => exact det_shaped.mono hk h

theorem sop_sound {P : Program} {hs : List Nat} {sc : SCall} (hsc : SOk P sc) {o : Oper} {env : Env} {H : IHeap} {K K' : Value → IHeap → Prop} {Qp : Value → IHeap → Prop} (hk : ∀ v H, K v H → K' v H) (h : sop P hs sc o env H K Qp) : iop P o env H K' Qp := by
  obtain ⟨dst, op, type, pos, after, guard⟩ := o
  have ptr : ∀ {v : Value} {F G : Nat → Nat → Prop}, ptrAt v F → (∀ i f, F i f → G i f) → ptrAt v G := by
    intro v F G h hFG
    unfold ptrAt at h ⊢
    split at h
    · unfold pcase at h ⊢
      split at h
      · exact hFG _ _ h
      · exact h
    · exact h
  cases op with
  | move x => exact hk _ _ h
  | assign x => exact hk _ _ h
  | pick c a b =>
    simp only [sop] at h
    simp only [iop]
    split at h
    · rename_i c' hc
      simp only [hc]
      exact det_pickV.mono (fun v h => hk v H h) h
    · exact h.elim
  | alloc t =>
    simp only [sop, alloc] at h
    simp only [iop, alloc]
    split at h
    · exact hk _ _ h
    · exact h
  | box t x =>
    simp only [sop, box] at h
    simp only [iop, box]
    split at h <;> first | exact hk _ _ h | exact h.elim
  | build t ps =>
    simp only [sop] at h
    split at h
    · rename_i v hv; exact xbuild_sound hv (K := fun v => K' v H) (hk _ _ h)
    · exact h.elim
  | buildSlice t n ps =>
    simp only [sop, sbuildSlice] at h
    simp only [iop, buildSlice]
    split at h
    · split at h
      · obtain ⟨hb, h⟩ := bifF h
        simp only [*, cond_true]
        split at h
        · rename_i cs hc; exact xfill_sound hc (hk _ _ h)
        · exact h.elim
      · exact h.elim
    · exact h.elim
  | load t a => exact ptr (v := iev env a) h fun i f h => (det_load.mono (fun v h => hk v H h) (sload_sound h))
  | store t a x =>
    refine ptr (v := iev env a) h fun i f h => ?_
    have h' := sst_sound h
    unfold stV at h' ⊢
    split at h'
    · obtain ⟨hb, h'⟩ := bifF h'
      simp only [hb, cond_true]
      obtain ⟨h1, cs, h2, h3, h4⟩ := h'
      exact ⟨h1, cs, h2, h3, hk _ _ h4⟩
    · exact h'.elim
  | nilCheck x =>
    simp only [sop] at h
    simp only [iop]
    generalize iev env x = v at h ⊢
    cases v with
    | pointer a =>
      simp only at h ⊢
      unfold pcase at h ⊢
      split at h
      · exact hk _ _ h
      · exact h.elim
    | func f a b => exact hk _ _ h
    | _ => exact h.elim
  | binOp op t x y z => exact det_binOp.mono (fun v h => hk v H h) (sbin_sound h)
  | unOp op t x => exact det_unOp.mono (fun v h => hk v H h) h
  | convert s d x => exact det_convert.mono (fun v h => hk v H h) h
  | makeFunc f first cap => cases f <;> first | exact hk _ _ h | exact h.elim
  | makeMap t r => cases r <;> first | exact hk _ _ h | exact h.elim
  | slice t x lo hi mx => exact det_slice.mono (fun v h => hk v H h) h
  | fieldAddr t x f => exact det_fieldAddr.mono (fun v h => hk v H h) h
  | indexAddr t x i => exact det_indexAddr.mono (fun v h => hk v H h) h
  | lookup t m k ok => exact det_lookup.mono (fun v h => hk v H h) (slookup_sound (K := fun v => K v H) h)
  | mapUpdate t m k v => exact smapUpdate_sound (K := fun H' => K anyV H') (fun H' h => hk anyV H' h) h
  | insert t m k v => exact smapUpdate_sound (K := fun H' => K anyV H') (fun H' h => hk anyV H' h) h
  | extract x i => exact det_extract.mono (fun v h => hk v H h) h
  | call c =>
    obtain ⟨callee, ⟨as⟩, ⟨tys⟩⟩ := c
    cases callee with
    | value f =>
      simp only [sop] at h
      show icallV P (iev env f) (as.map (iev env)) H (endK P type K' Qp)
      unfold icallV
      split at h
      · rename_i g first cap hf
        rw [hf]
        refine (hsc _ _ _ _ h).mono fun e H' he => ?_
        obtain ⟨v, rfl, hv⟩ := he
        exact result_mono (fun v h => hk v H' h) hv
      · exact h.elim
    | builtin b =>
      cases b with
      | len =>
        cases as with
        | nil => exact h.elim
        | cons x as =>
          cases tys with
          | nil => exact h.elim
          | cons t tys => exact det_lenOf.mono (fun v h => hk v H h) h
      | append =>
        cases as with
        | nil => exact h.elim
        | cons x as =>
          cases as with
          | nil => exact h.elim
          | cons y as =>
            cases tys with
            | nil => exact h.elim
            | cons t tys =>
              cases tys with
              | nil => exact h.elim
              | cons u tys =>
                have h : (match P.underlying u with | some (.slice _) => sappend P t (iev env x) (iev env y) H K | _ => False) := h
                show (match P.underlying u with | some (.slice _) => append P t (iev env x) (iev env y) H K' | _ => False)
                split at h
                · exact sappend_sound hk h
                · exact h.elim
      | min =>
        cases tys with
        | nil => cases as <;> exact h.elim
        | cons t tys =>
          have h : minMax false (as.map (iev env)) (fun v => K v H) := by cases as <;> exact h
          have h2 := det_minMax.mono (K' := fun v => K' v H) (fun v h => hk v H h) h
          cases as <;> exact h2
      | max =>
        cases tys with
        | nil => cases as <;> exact h.elim
        | cons t tys =>
          have h : minMax true (as.map (iev env)) (fun v => K v H) := by cases as <;> exact h
          have h2 := det_minMax.mono (K' := fun v => K' v H) (fun v h => hk v H h) h
          cases as <;> exact h2
      | _ => cases as <;> cases tys <;> exact h.elim
    | invoke a b => cases as <;> cases tys <;> exact h.elim
  | _ => exact h.elim

theorem guarded_mono {all : List Oper} {g : Option (Nat × Bool)} {env : Env} {Y Y' N N' : Env → Prop} (hy : ∀ e, Y e → Y' e) (hn : ∀ e, N e → N' e) (h : guarded all g env Y N) : guarded all g env Y' N' := by
  unfold guarded at h ⊢
  cases g with
  | none => exact hy _ h
  | some p =>
    obtain ⟨j, want⟩ := p
    simp only at h ⊢
    generalize dstAt all j = d at h ⊢
    cases d with
    | none => exact hn _ h
    | some t =>
      simp only at h ⊢
      generalize lk env t = v at h ⊢
      cases v with
      | bool b =>
        simp only [bcase] at h ⊢
        cases b <;> cases want <;> first | exact hy _ h | exact hn _ h
      | tuple vs =>
        obtain ⟨vs⟩ := vs
        cases vs with
        | nil => exact hn _ h
        | cons v vs => exact h.elim
      | _ => exact h.elim

def srun (P : Program) (hs : List Nat) (sc : SCall) (all : List Oper) : List Oper → Env → IHeap → (Env → IHeap → Prop) → (Value → IHeap → Prop) → Prop
  | [], env, H, K, _ => K env H
  | o :: l, env, H, K, Qp =>
    guarded all o.guard env (fun env => sop P hs sc o env H (fun v H' => srun P hs sc all l (put env o.dst v) H' K Qp) Qp) (fun env => srun P hs sc all l (put env o.dst undef) H K Qp)

theorem srun_sound {P : Program} {hs : List Nat} {sc : SCall} (hsc : SOk P sc) {all : List Oper} {K : Env → IHeap → Prop} {Qp : Value → IHeap → Prop} : ∀ (l : List Oper) (env : Env) (H : IHeap), srun P hs sc all l env H K Qp → irun P all l env H K Qp
  | [], env, H, h => h
  | o :: l, env, H, h => guarded_mono (fun e h => sop_sound hsc (fun v H' h => srun_sound hsc l _ H' h) h) (fun e h => srun_sound hsc l _ H h) h

theorem watching_mono {bm : Nat} {H : IHeap} {X Y : Prop} (hxy : X → Y) : ∀ (ws : Watch), watching ws bm H X → watching ws bm H Y
  | [], h => hxy h
  | (k, w) :: r, h => by
    simp only [watching] at h ⊢
    cases hb : bm.testBit k with
    | true => rw [hb] at h; exact watching_mono hxy r h
    | false => rw [hb] at h; exact ⟨h.1, watching_mono hxy r h.2⟩

def srunD (P : Program) (hs : List Nat) (sc : SCall) (all : List Oper) (bs : List Nat) : List Nat → Env → IHeap → Watch → (Env → IHeap → Prop) → (Value → IHeap → Prop) → Prop
  | [], env, H, _, K, _ => K env H
  | i :: l, env, H, ws, K, Qp =>
    match all[i]? with
    | none => False
    | some o =>
      guarded all o.guard env
        (fun env => sop P hs sc o env H (fun v H' =>
          bif isActs o then watching ws (bs.getD i 0) H' (srunD P hs sc all bs l (put env o.dst v) H' ws K Qp)
          else srunD P hs sc all bs l (put env o.dst v) H' (watchOf i o env v H H' ++ ws) K Qp) Qp)
        (fun env => srunD P hs sc all bs l (put env o.dst undef) H ws K Qp)

theorem srunD_sound {P : Program} {hs : List Nat} {sc : SCall} (hsc : SOk P sc) {all : List Oper} {bs : List Nat} {K : Env → IHeap → Prop} {Qp : Value → IHeap → Prop} : ∀ (l : List Nat) (env : Env) (H : IHeap) (ws : Watch), srunD P hs sc all bs l env H ws K Qp → irunD P all bs l env H ws K Qp
  | [], env, H, ws, h => h
  | i :: l, env, H, ws, h => by
    cases ho : all[i]? with
    | none => simp only [srunD, ho] at h
    | some o =>
      simp only [srunD, ho] at h
      simp only [irunD, ho]
      refine guarded_mono (fun e h => sop_sound hsc (fun v H' h => ?_) h) (fun e h => srunD_sound hsc l _ H _ h) h
      cases ha : isActs o with
      | true => rw [ha] at h; exact watching_mono (fun h => srunD_sound hsc l _ H' _ h) _ h
      | false => rw [ha] at h; exact srunD_sound hsc l _ H' _ h

/-- Code without loops. -/
def sx (P : Program) (hs : List Nat) (sc : SCall) : Code → (IExit → Env → IHeap → Prop) → Env → IHeap → Prop
  | .skip, Q, env, H => Q .normal env H
  | .region _ ops false, Q, env, H => srun P hs sc ops.toList ops.toList env H (Q .normal) (fun v => Q (.panic v) [])
  | .region _ ops true, Q, env, H => srunD P hs sc ops.toList (befores ops.toList []) (canon ops.toList) env H [] (Q .normal) (fun v => Q (.panic v) [])
  | .seq a b, Q, env, H => sx P hs sc a (thn (fun env H => sx P hs sc b Q env H) Q) env H
  | .cond c a b, Q, env, H =>
    (match iev env c with
    | .bool t => bcase t (sx P hs sc a Q env H) (sx P hs sc b Q env H)
    | _ => False)
  | .block id a, Q, env, H => sx P hs sc a (inB id Q) env H
  | .exit id, Q, env, H => Q (.exit id) env H
  | .scope a, Q, env, H => sx P hs sc a Q env H
  | .label _, Q, env, H => Q .normal env H
  | .ret, Q, env, H => Q .ret env H
  | _, _, _, _ => False

theorem sx_sound {P : Program} {hs : List Nat} {sc : SCall} {nt : Nat} {ro : Option Nat} {rf : Bool} (hm : P.follows .mixedOrders = true) (hsc : SOk P sc) :
    ∀ (c : Code) (Q : IExit → Env → IHeap → Prop) (env : Env) (H : IHeap), codeOk P nt rf c = true → sx P hs sc c Q env H → IW ro P nt c Q env H := by
  intro c
  induction c with
  | skip => intro Q env H _ h n0 β w a S hT hM; exact wpIn_skip ⟨β, H, env, Step.refl _ _, S, hT, hM, h⟩
  | region id ops draws =>
    intro Q env H hok h
    cases draws with
    | false => exact region_sound hok (srun_sound hsc _ _ _ h)
    | true => exact draw_sound hm hok (srunD_sound hsc _ _ _ _ h)
  | seq x y ihx ihy =>
    intro Q env H hok h
    simp only [codeOk, Bool.and_eq_true] at hok
    refine seq_of (IW.mono (ihx _ _ _ hok.1 h) fun e env H hq => ?_)
    cases e with
    | normal => exact ihy _ _ _ hok.2 hq
    | exit id => exact hq
    | ret => exact hq
    | panic v => exact hq
  | cond c x y ihx ihy =>
    intro Q env H hok h
    simp only [codeOk, Bool.and_eq_true] at hok
    simp only [sx] at h
    split at h
    · rename_i t ht
      refine cond_of hok.1.1 ht ?_
      unfold bcase at h
      cases t with
      | true => exact ihx _ _ _ hok.1.2 h
      | false => exact ihy _ _ _ hok.2 h
    · exact h.elim
  | block id x ih => intro Q env H hok h; exact block_of (ih _ _ _ hok h)
  | scope x ih => intro Q env H hok h; exact scope_of (ih _ _ _ hok h)
  | exit id => intro Q env H _ h n0 β w a S hT hM; exact wpIn_exit ⟨β, H, env, Step.refl _ _, S, hT, hM, h⟩
  | label l => intro Q env H _ h n0 β w a S hT hM; exact wpIn_label ⟨β, H, env, Step.refl _ _, S, hT, hM, h⟩
  | ret => intro Q env H _ h n0 β w a S hT hM; exact wpIn_ret ⟨β, H, env, Step.refl _ _, S, hT, hM, h⟩
  | _ => intro Q env H _ h; exact h.elim

/-! ### parts of code, one after another -/
def spine : Code → List Code → List Code
  | .seq a b, acc => spine a (spine b acc)
  | c, acc => c :: acc

def IWL (ro : Option Nat) (P : Program) (nt : Nat) : List Code → (IExit → Env → IHeap → Prop) → Env → IHeap → Prop
  | [], Q, env, H => Q .normal env H
  | c :: cs, Q, env, H => IW ro P nt c (thn (fun env H => IWL ro P nt cs Q env H) Q) env H

theorem IWL.mono {ro : Option Nat} {P : Program} {nt : Nat} : ∀ (cs : List Code) {Q Q' : IExit → Env → IHeap → Prop} {env : Env} {H : IHeap}, (∀ e env H, Q e env H → Q' e env H) → IWL ro P nt cs Q env H → IWL ro P nt cs Q' env H
  | [], Q, Q', env, H, hq, h => hq _ _ _ h
  | c :: cs, Q, Q', env, H, hq, h => by
    refine IW.mono h fun e env H h => ?_
    cases e with
    | normal => exact IWL.mono cs hq h
    | exit id => exact hq _ _ _ h
    | ret => exact hq _ _ _ h
    | panic v => exact hq _ _ _ h

theorem iw_spine {ro : Option Nat} {P : Program} {nt : Nat} : ∀ (c : Code) (acc : List Code) {Q : IExit → Env → IHeap → Prop} {env : Env} {H : IHeap}, IWL ro P nt (spine c acc) Q env H → IW ro P nt c (thn (fun env H => IWL ro P nt acc Q env H) Q) env H := by
  intro c
  induction c with
  | seq a b iha ihb =>
    intro acc Q env H h
    refine seq_of (IW.mono (iha (spine b acc) h) fun e env H h => ?_)
    cases e with
    | normal => exact ihb acc h
    | exit id => exact h
    | ret => exact h
    | panic v => exact h
  | _ => intro acc Q env H h; exact h

theorem iw_of_spine {ro : Option Nat} {P : Program} {nt : Nat} {c : Code} {Q : IExit → Env → IHeap → Prop} {env : Env} {H : IHeap} (h : IWL ro P nt (spine c []) Q env H) : IW ro P nt c Q env H := by
  refine IW.mono (iw_spine c [] h) fun e env H h => ?_
  cases e <;> exact h

def sxl (P : Program) (hs : List Nat) (sc : SCall) : List Code → (IExit → Env → IHeap → Prop) → Env → IHeap → Prop
  | [], Q, env, H => Q .normal env H
  | c :: cs, Q, env, H => sx P hs sc c (thn (fun env H => sxl P hs sc cs Q env H) Q) env H

/-- Parts without loops, ahead of others. l: what is known further on. -/
theorem iwl_seg {P : Program} {hs : List Nat} {sc : SCall} {nt : Nat} {ro : Option Nat} {rf : Bool} (hm : P.follows .mixedOrders = true) (hsc : SOk P sc) (l : List Nat) :
    ∀ (A : List Code) (b : Code) (bs : List Code) {Q : IExit → Env → IHeap → Prop} {env : Env} {H : IHeap}, A.all (codeOk P nt rf) = true → sxl P hs sc A (thn (fun env H => IWL ro P nt (b :: bs) Q (keep l env) H) Q) env H → IWL ro P nt (A ++ b :: bs) Q env H
  | [], b, bs, Q, env, H, hok, h => IW.weaken h fun t => lk_keep l env t
  | c :: A, b, bs, Q, env, H, hok, h => by
    simp only [List.all_cons, Bool.and_eq_true] at hok
    refine IW.mono (sx_sound hm hsc c _ _ _ hok.1 h) fun e env H h => ?_
    cases e with
    | normal => exact iwl_seg hm hsc l A b bs hok.2 h
    | exit id => exact h
    | ret => exact h
    | panic v => exact h

/-- The last parts. -/
theorem iwl_last {P : Program} {hs : List Nat} {sc : SCall} {nt : Nat} {ro : Option Nat} {rf : Bool} (hm : P.follows .mixedOrders = true) (hsc : SOk P sc) :
    ∀ (A : List Code) {Q : IExit → Env → IHeap → Prop} {env : Env} {H : IHeap}, A.all (codeOk P nt rf) = true → sxl P hs sc A Q env H → IWL ro P nt A Q env H
  | [], Q, env, H, hok, h => h
  | c :: A, Q, env, H, hok, h => by
    simp only [List.all_cons, Bool.and_eq_true] at hok
    refine IW.mono (sx_sound hm hsc c _ _ _ hok.1 h) fun e env H h => ?_
    cases e with
    | normal => exact iwl_last hm hsc A hok.2 h
    | exit id => exact h
    | ret => exact h
    | panic v => exact h

end Ide
