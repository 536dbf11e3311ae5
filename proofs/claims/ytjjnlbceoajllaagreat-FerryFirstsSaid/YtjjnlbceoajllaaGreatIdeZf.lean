/- A contract over few objects serves in every heap that has them. -/
import Derived.Test.YtjjnlbceoajllaaGreatIdeZe
set_option linter.unusedVariables false
set_option linter.unusedSimpArgs false
namespace Ide
open Go Go.RowKit

def renA (ρ : Nat → Nat) : Option Addr → Option Addr
  | some ⟨i, o, s⟩ => some ⟨ρ i, o, s⟩
  | none => none
def renR (ρ : Nat → Nat) : Option Nat → Option Nat
  | some i => some (ρ i)
  | none => none
def renF (ρ : Nat → Nat) : Fn → Fn
  | .yield i => .yield (ρ i)
  | f => f

/-- Ids are renamed. -/
def renV (ρ : Nat → Nat) : Value → Value
  | .pointer a => .pointer (renA ρ a)
  | .slice a n m => .slice (renA ρ a) n m
  | .map r => .map (renR ρ r)
  | .func f a c => .func (renF ρ f) (go a) (go c)
  | .iface t v => .iface t (renV ρ v)
  | .agg cs => .agg (go cs)
  | .tuple cs => .tuple (go cs)
  | v => v
  where
  go : Array Value → Array Value
    | ⟨l⟩ => ⟨goL l⟩
  goL : List Value → List Value
    | [] => []
    | v :: l => renV ρ v :: goL l

def inA (n : Nat) : Option Addr → Bool
  | some ⟨i, _, _⟩ => Nat.blt i n
  | none => true
def inR (n : Nat) : Option Nat → Bool
  | some i => Nat.blt i n
  | none => true
def inF (n : Nat) : Fn → Bool
  | .yield i => Nat.blt i n
  | _ => true

/-- All ids of a value are small. -/
def inV (n : Nat) : Value → Bool
  | .pointer a => inA n a
  | .slice a _ _ => inA n a
  | .map r => inR n r
  | .func f a c => inF n f && go a && go c
  | .iface _ v => inV n v
  | .agg cs => go cs
  | .tuple cs => go cs
  | _ => true
  where
  go : Array Value → Bool
    | ⟨l⟩ => goL l
  goL : List Value → Bool
    | [] => true
    | v :: l => inV n v && goL l

mutual
theorem ren_rel {ρ : Nat → Nat} {n : Nat} {L L' : LMap} (hL : ∀ i, i < n → L' i = L (ρ i)) : ∀ (v v' : Value), VRel L (renV ρ v) v' → inV n v = true → VRel L' v v'
  | .bool b, v', h, _ => by simp only [renV] at h; cases h; exact .bool b
  | .int k m, v', h, _ => by simp only [renV] at h; cases h; exact .int k m
  | .string s, v', h, _ => by simp only [renV] at h; cases h; exact .str s
  | .nilFunc, v', h, _ => by simp only [renV] at h; cases h; exact .nilFunc
  | .nilIface, v', h, _ => by simp only [renV] at h; cases h; exact .nilIface
  | .chan c, v', h, _ => by
    simp only [renV] at h
    cases c with
    | none => exact .any v'
    | some c => cases h
  | .float .., v', h, _ => by simp only [renV] at h; cases h
  | .complex .., v', h, _ => by simp only [renV] at h; cases h
  | .pointer none, v', h, _ => by simp only [renV, renA] at h; cases h; exact .ptrNil
  | .pointer (some ⟨i, o, s⟩), v', h, hi => by
    simp only [renV, renA] at h
    simp only [inV, inA, Nat.blt_eq] at hi
    cases h with
    | ptr h => exact .ptr ((hL i hi).trans h)
  | .slice none a b, v', h, _ => by simp only [renV, renA] at h; cases h; exact .sliceNil
  | .slice (some ⟨i, o, s⟩) a b, v', h, hi => by
    simp only [renV, renA] at h
    simp only [inV, inA, Nat.blt_eq] at hi
    cases h with
    | slice h hn hm hx ho hb => exact .slice ((hL i hi).trans h) hn hm hx ho hb
  | .map none, v', h, _ => by simp only [renV, renR] at h; cases h; exact .mapNil
  | .map (some i), v', h, hi => by
    simp only [renV, renR] at h
    simp only [inV, inR, Nat.blt_eq] at hi
    cases h with
    | map h => exact .map ((hL i hi).trans h)
  | .iface t v, v', h, hi => by
    simp only [renV] at h
    simp only [inV] at hi
    cases h with
    | iface h => exact .iface (ren_rel hL v _ h hi)
  | .agg ⟨l⟩, v', h, hi => by
    simp only [renV, renV.go] at h
    simp only [inV, inV.go] at hi
    cases h with
    | agg h => exact .agg (ren_rels hL l _ h hi)
  | .tuple ⟨l⟩, v', h, hi => by
    simp only [renV, renV.go] at h
    simp only [inV, inV.go] at hi
    cases h with
    | tuple h => exact .tuple (ren_rels hL l _ h hi)
  | .func (.func f) ⟨a⟩ ⟨c⟩, v', h, hi => by
    simp only [renV, renV.go, renF] at h
    simp only [inV, inV.go, inF, Bool.true_and, Bool.and_eq_true] at hi
    cases h with
    | func h1 h2 => exact .func (ren_rels hL a _ h1 hi.1) (ren_rels hL c _ h2 hi.2)
  | .func (.yield i) ⟨a⟩ ⟨c⟩, v', h, hi => by
    simp only [renV, renV.go, renF] at h
    simp only [inV, inV.go, inF, Bool.and_eq_true, Nat.blt_eq] at hi
    generalize ha : renV.goL ρ a = a1 at h
    generalize hc : renV.goL ρ c = c1 at h
    cases h with
    | yield h =>
      cases a with
      | cons x a => simp [renV.goL] at ha
      | nil =>
        cases c with
        | cons x c => simp [renV.goL] at hc
        | nil => exact .yield ((hL i hi.1.1).trans h)
  | .func (.method m) ⟨a⟩ ⟨c⟩, v', h, hi => by simp only [renV, renV.go, renF] at h; cases h
  | .func (.methodOf t m) ⟨a⟩ ⟨c⟩, v', h, hi => by simp only [renV, renV.go, renF] at h; cases h
  | .func (.via t p f q) ⟨a⟩ ⟨c⟩, v', h, hi => by simp only [renV, renV.go, renF] at h; cases h
theorem ren_rels {ρ : Nat → Nat} {n : Nat} {L L' : LMap} (hL : ∀ i, i < n → L' i = L (ρ i)) : ∀ (l l' : List Value), VsRel L (renV.goL ρ l) l' → inV.goL n l = true → VsRel L' l l'
  | [], l', h, _ => by simp only [renV.goL] at h; cases h; exact .nil
  | v :: l, l', h, hi => by
    simp only [renV.goL] at h
    simp only [inV.goL, Bool.and_eq_true] at hi
    cases h with
    | cons h t => exact .cons (ren_rel hL v _ h hi.1) (ren_rels hL l _ t hi.2)
end

/-- Objects of plain cells: what they are does not hang on where anything lies. -/
def plainO : IObj → Bool
  | .cells cs _ => ground.groundL cs
  | _ => false

theorem plain_rel {L L' : LMap} {w0 w : World} {l : Loc} {o : IObj} (ho : plainO o = true) (h : ORel L w0 w l o) : ORel L' w0 w l o := by
  match o, ho, h with
  | .cells cs true, ho, ⟨h0, h1, arr, T, vs, h2, h3, h3', h4, h5⟩ =>
    have e := h4.eq_of_ground ho
    subst e
    exact ⟨h0, h1, arr, T, _, h2, h3, h3', VsRel.of_ground _ _ ho, h5⟩
  | .cells cs false, ho, ⟨h0, h1, vs, h2, h3⟩ =>
    have e := h2.eq_of_ground ho
    subst e
    exact ⟨h0, h1, _, VsRel.of_ground _ _ ho, h3⟩

/-- Values that hold no place of memory. -/
def plainV : Value → Bool
  | .tuple ⟨l⟩ => ground.groundL l
  | v => ground v
theorem plainV_rel {v : Value} (h : plainV v = true) (L L' : LMap) (v' : Value) (hr : VRel L v v') : VRel L' v v' := by
  unfold plainV at h
  split at h
  · rename_i l
    cases hr with
    | tuple hr => rw [hr.eq_of_ground h]; exact .tuple (VsRel.of_ground _ _ h)
  · rw [hr.eq_of_ground h]; exact VRel.of_ground _ _ h

/-- A call that hands back a plain value and leaves its own objects as they were: so in every heap that has the objects. -/
theorem ICalls.frame {P : Program} {f : FuncId} {args : List Value} {Hc H : IHeap} {v : Value} (ρ : Nat → Nat) (hv : ∀ (L L' : LMap) (v' : Value), VRel L v v' → VRel L' v v')
    (h : ICalls P f args Hc (fun e H' => e = .ret v ∧ ∀ (i : Nat) (o : IObj), Hc[i]? = some o → o.own = true → H'[i]? = some o))
    (hp : Hc.all plainO = true) (hi : inV.goL Hc.length args = true) (hH : ∀ i, i < Hc.length → H[ρ i]? = Hc[i]?) (hinj : ∀ i j, i < Hc.length → j < Hc.length → ρ i = ρ j → i = j) :
    ICalls P f (renV.goL ρ args) H (fun e H' => e = .ret v ∧ H' = H) := by
  refine ⟨h.1, fun β w args' S ha => ?_⟩
  let βc : Emb := { w0 := β.w0, loc := fun i => if i < Hc.length then β.loc (ρ i) else none, held := fun _ => False }
  have hloc : ∀ i, i < Hc.length → βc.loc i = β.loc (ρ i) := fun i hi => if_pos hi
  have hlt : ∀ {i l}, βc.loc i = some l → i < Hc.length := by
    intro i l h
    by_cases e : i < Hc.length
    · exact e
    · have : βc.loc i = none := if_neg e
      rw [this] at h; cases h
  have hplain : ∀ {i o}, Hc[i]? = some o → plainO o = true := fun h => List.all_eq_true.1 hp _ (List.mem_of_getElem? h)
  have Sc : Sim βc Hc w := {
    below := S.below
    dom := fun id l hl => hlt hl
    held := fun id h => h.elim
    blk := fun id l hl => S.blk (ρ id) l ((hloc id (hlt hl)).symm.trans hl)
    obj := fun id l o hl ho => plain_rel (hplain ho) (S.obj (ρ id) l o ((hloc id (hlt hl)).symm.trans hl) ((hH id (hlt hl)).trans ho))
    inj := fun i j l l' o o' hl hl' ho ho' hown hown' hb => hinj i j (hlt hl) (hlt hl') (S.inj (ρ i) (ρ j) l l' o o' ((hloc i (hlt hl)).symm.trans hl) ((hloc j (hlt hl')).symm.trans hl') ((hH i (hlt hl)).trans ho) ((hH j (hlt hl')).trans ho') hown hown' hb) }
  have hac : VsRel βc.loc args args'.toList := ren_rels (fun i hi => hloc i hi) args _ ha hi
  refine (h.2 βc w args' Sc hac).mono fun e w' hA => ?_
  obtain ⟨β', H', St, S', hE⟩ := hA
  have hkeep : ∀ id l o, β.loc id = some l → H[id]? = some o → o.own = true → ORel β.loc β.w0 w' l o := by
    intro id l o hl ho hown
    have hO := S.obj id l o hl ho
    by_cases him : ∃ i, i < Hc.length ∧ ρ i = id
    · obtain ⟨i, hi, rfl⟩ := him
      have hc : Hc[i]? = some o := (hH i hi).symm.trans ho
      have hlc : βc.loc i = some l := (hloc i hi).trans hl
      have hun : H'[i]? = some o := by
        match e, hE with
        | .returned v', ⟨u, _, hu⟩ => exact hu.2 i o hc hown
        | .panicked chain, ⟨u, _, _, _, hu⟩ => cases hu.1
      have hO' := S'.obj i l o (St.le.2 i l hlc) hun
      have ew : β'.w0 = β.w0 := St.le.1.1
      rw [ew] at hO'
      exact plain_rel (hplain hc) hO'
    · refine hO.keep fun _ => St.frame l.block (S.blk id l hl) fun i li hli hb => ?_
      have hi := hlt hli
      have hli' : β.loc (ρ i) = some li := (hloc i hi).symm.trans hli
      have hoi : H[ρ i]? = Hc[i]? := hH i hi
      have hget : Hc[i]? = some Hc[i] := List.getElem?_eq_getElem hi
      have hpl := hplain hget
      have hO2 := S.obj (ρ i) li _ hli' (hoi.trans hget)
      have hbl := hO.block_lt hown
      generalize Hc[i] = oi at hget hpl hO2
      match oi, hpl, hget, hO2 with
      | .cells cs true, _, hget, _ => exact him ⟨i, hi, S.inj (ρ i) id li l _ o hli' hl (hoi.trans hget) ho rfl hown hb⟩
      | .cells cs false, _, _, ⟨_, h1, _⟩ => rw [hb] at h1; exact absurd h1 (Nat.not_lt.2 hbl.2)
  refine ⟨β, H, ⟨Emb.le.refl _, St.size, fun id l hl => .inl ⟨id, l, hl, rfl⟩, fun k hk hn => St.frame k hk fun i li hli => hn (ρ i) li ((hloc i (hlt hli)).symm.trans hli)⟩, ?_, ?_⟩
  · have hb := S'.below
    rw [St.le.1.1] at hb
    exact {
      below := hb
      dom := S.dom
      held := S.held
      blk := fun id l hl => Nat.lt_of_lt_of_le (S.blk id l hl) St.size
      obj := fun id l o hl ho => by
        cases hown : o.own with
        | true => exact hkeep id l o hl ho hown
        | false => exact (S.obj id l o hl ho).keep fun hh => by rw [hown] at hh; cases hh
      inj := S.inj }
  · match e, hE with
    | .returned v', ⟨u, hu, he⟩ =>
      have e1 := he.1
      injection e1 with e1
      subst e1
      exact ⟨u, hv _ _ _ hu, rfl, rfl⟩
    | .panicked chain, ⟨u, _, _, _, hu⟩ => cases hu.1

/-- What is made within code, and no longer known, is left out. -/
def envIn (n : Nat) : Env → Bool
  | [] => true
  | (_, v) :: r => inV n v && envIn n r
theorem envIn_lk {n : Nat} : ∀ {e : Env}, envIn n e = true → ∀ t, inV n (lk e t) = true
  | [], _, t => rfl
  | (s, v) :: r, h, t => by
    simp only [envIn, Bool.and_eq_true] at h
    simp only [lk]
    cases Nat.beq s t with
    | true => exact h.1
    | false => exact envIn_lk h.2 t

mutual
theorem ren_id : ∀ v : Value, renV id v = v
  | .bool b => rfl
  | .int k m => rfl
  | .string s => rfl
  | .nilFunc => rfl
  | .nilIface => rfl
  | .chan c => rfl
  | .float .. => rfl
  | .complex .. => rfl
  | .pointer none => rfl
  | .pointer (some ⟨i, o, s⟩) => rfl
  | .slice none a b => rfl
  | .slice (some ⟨i, o, s⟩) a b => rfl
  | .map none => rfl
  | .map (some i) => rfl
  | .iface t v => by simp only [renV]; rw [ren_id v]
  | .agg ⟨l⟩ => by simp only [renV, renV.go]; rw [ren_ids l]
  | .tuple ⟨l⟩ => by simp only [renV, renV.go]; rw [ren_ids l]
  | .func f ⟨a⟩ ⟨c⟩ => by cases f <;> simp only [renV, renV.go, renF] <;> rw [ren_ids a, ren_ids c] <;> rfl
theorem ren_ids : ∀ l : List Value, renV.goL id l = l
  | [] => rfl
  | v :: l => by simp only [renV.goL]; rw [ren_id v, ren_ids l]
end

def inO (n : Nat) : IObj → Bool
  | .cells cs _ => inV.goL n cs
  | .dead => true
  | .map es _ => es.all fun e => inV n e.val
  | _ => false

theorem in_rel {n : Nat} {L L' : LMap} (hL : ∀ i, i < n → L' i = L i) {w0 w : World} {l : Loc} {o : IObj} (ho : inO n o = true) (h : ORel L w0 w l o) : ORel L' w0 w l o := by
  have key : ∀ (l l' : List Value), VsRel L l l' → inV.goL n l = true → VsRel L' l l' := fun l l' h hi => ren_rels (ρ := id) hL l l' (by rw [ren_ids]; exact h) hi
  match o, ho, h with
  | .cells cs true, ho, ⟨h0, h1, arr, T, vs, h2, h3, h3', h4, h5⟩ => exact ⟨h0, h1, arr, T, vs, h2, h3, h3', key _ _ h4 ho, h5⟩
  | .cells cs false, ho, ⟨h0, h1, vs, h2, h3⟩ => exact ⟨h0, h1, vs, key _ _ h2 ho, h3⟩
  | .dead, _, _ => trivial
  | .map es clock, ho, ⟨h1, es', h2, h3⟩ =>
    refine ⟨h1, es', h2, ?_⟩
    have go : ∀ (a b : List MapEntry), EsRel L a b → (a.all fun e => inV n e.val) = true → EsRel L' a b := by
      intro a
      induction a with
      | nil => intro b h _; cases b <;> exact h
      | cons x a ih =>
        intro b h hi
        cases b with
        | nil => exact h
        | cons y b =>
          obtain ⟨h1, h2, h3, h4, h5⟩ := h
          simp only [List.all_cons, Bool.and_eq_true] at hi
          exact ⟨h1, h2, h3, ren_rel (ρ := id) hL _ _ (by rw [ren_id]; exact h4) hi.1, ih b h5 hi.2⟩
    exact go _ _ h3 (by simpa [inO] using ho)

theorem IW.trunc {ro : Option Nat} {P : Program} {nt : Nat} {c : Code} {Q : IExit → Env → IHeap → Prop} {env : Env} {H : IHeap} (n : Nat) (hn : H.length ≤ n)
    (h : IW ro P nt c (fun e env' H' => ∃ env'', (∀ t, lk env'' t = lk env' t ∨ lk env'' t = anyV) ∧ envIn n env'' = true ∧ (H'.take n).all (inO n) = true ∧ (∀ v, e ≠ .panic v) ∧ Q e env'' (H'.take n)) env H) : IW ro P nt c Q env H := by
  intro n0 β w a S hT hM
  refine wpIn_mono (h n0 β w a S hT hM) fun e a' w' hq => ?_
  have key : ∀ (x : IExit) (β' : Emb) (H' : IHeap) (env' : Env), Step β w β' w' → Sim β' H' w' → TRel β'.loc nt env' a'.tmps → Mk n0 β' w' a'.defers →
      (∃ env'', (∀ t, lk env'' t = lk env' t ∨ lk env'' t = anyV) ∧ envIn n env'' = true ∧ (H'.take n).all (inO n) = true ∧ (∀ v, x ≠ .panic v) ∧ Q x env'' (H'.take n)) →
      ∃ β' H' env', Step β w β' w' ∧ Sim β' H' w' ∧ TRel β'.loc nt env' a'.tmps ∧ Mk n0 β' w' a'.defers ∧ Q x env' H' := by
    rintro x β' H' env' St S' hT' hM' ⟨env'', hw, hin, hO, _, hQ⟩
    let β2 : Emb := { w0 := β'.w0, loc := fun i => if i < n then β'.loc i else none, held := β'.held }
    have hl2 : ∀ {i l}, β2.loc i = some l → i < n ∧ β'.loc i = some l := by
      intro i l h
      by_cases e : i < n
      · have : β2.loc i = β'.loc i := if_pos e
        exact ⟨e, this.symm.trans h⟩
      · have : β2.loc i = none := if_neg e
        rw [this] at h; cases h
    have hL : ∀ i, i < n → β2.loc i = β'.loc i := fun i hi => if_pos hi
    have htake : ∀ {i o}, (H'.take n)[i]? = some o → i < n ∧ H'[i]? = some o := by
      intro i o h
      rw [List.getElem?_take] at h
      split at h
      · exact ⟨‹_›, h⟩
      · cases h
    refine ⟨β2, H'.take n, env'', ?_, ?_, ?_, ?_, hQ⟩
    · exact {
        le := ⟨⟨St.le.1.1, St.le.1.2⟩, fun id l hl => by
          have h1 := S.dom id l hl
          rw [hL id (by omega)]
          exact St.le.2 id l hl⟩
        size := St.size
        newb := fun id l hl => St.newb id l (hl2 hl).2
        frame := St.frame }
    · exact {
        below := S'.below
        dom := fun id l hl => by have h1 := S'.dom id l (hl2 hl).2; have h2 := (hl2 hl).1; simp; omega
        held := fun id hh => by
          have hh0 : β.held id := by have := St.le.1.2; rw [← this]; exact hh
          have h1 := (S.held id hh0).1
          have h2 := S'.held id hh
          refine ⟨by simp; omega, ?_⟩
          rw [hL id (by omega)]
          exact h2.2
        blk := fun id l hl => S'.blk id l (hl2 hl).2
        obj := fun id l o hl ho => in_rel hL (List.all_eq_true.1 hO _ (List.mem_of_getElem? ho)) (S'.obj id l o (hl2 hl).2 (htake ho).2)
        inj := fun i j l l' o o' hl hl' ho ho' => S'.inj i j l l' o o' (hl2 hl).2 (hl2 hl').2 (htake ho).2 (htake ho').2 }
    · refine ⟨hT'.1, fun t ht => ?_⟩
      rcases hw t with e | e
      · have h1 := hT'.2 t ht
        rw [← e] at h1
        exact ren_rel (ρ := id) hL _ _ (by rw [ren_id]; exact h1) (envIn_lk hin t)
      · rw [e]; exact .any _
    · refine ⟨hM'.1, ?_⟩
      have go : ∀ ds : List Deferred, MkL n0 β' w' ds → MkL n0 β2 w' ds := by
        intro ds
        induction ds with
        | nil => intro _; trivial
        | cons d ds ih =>
          rintro ⟨⟨r, h1, ⟨h2, h3, h4⟩, h5⟩, h6⟩
          exact ⟨⟨r, h1, ⟨h2, fun id l hl => h3 id l (hl2 hl).2, h4⟩, h5⟩, ih h6⟩
      exact go _ hM'.2
  cases e with
  | normal => obtain ⟨β', H', env', St, S', hT', hM', hq⟩ := hq; exact key .normal β' H' env' St S' hT' hM' hq
  | exit id => obtain ⟨β', H', env', St, S', hT', hM', hq⟩ := hq; exact key (.exit id) β' H' env' St S' hT' hM' hq
  | ret => obtain ⟨β', H', env', St, S', hT', hM', hq⟩ := hq; exact key .ret β' H' env' St S' hT' hM' hq
  | panic ch => obtain ⟨β', H', env', v, v', _, _, _, _, _, _, _, _, _, _, hne, _⟩ := hq; exact absurd rfl (hne v)
  | goto t => exact hq.elim
  | outgrown => exact hq.elim

end Ide
