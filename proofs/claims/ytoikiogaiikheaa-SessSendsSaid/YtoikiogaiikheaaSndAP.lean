/- A contract over few objects, which makes and writes memory, in every heap that has the objects. -/
import Derived.Test.YtoikiogaiikheaaSndAO
set_option linter.unusedSectionVars false
set_option linter.unusedVariables false
set_option linter.unusedSimpArgs false
namespace Ide
open Go Go.RowKit
variable [Pol]

mutual
theorem idV_in (n : Nat) : ∀ v : Value, idV (fun i => Nat.blt i n) v = inV n v
  | .pointer a => by cases a <;> rfl
  | .slice a _ _ => by cases a <;> rfl
  | .map r => by cases r <;> rfl
  | .func f ⟨a⟩ ⟨c⟩ => by simp only [idV, inV, idV.go, inV.go]; rw [idVs_in n a, idVs_in n c]; cases f <;> rfl
  | .iface _ v => by simp only [idV, inV]; exact idV_in n v
  | .agg ⟨l⟩ => by simp only [idV, inV, idV.go, inV.go]; exact idVs_in n l
  | .tuple ⟨l⟩ => by simp only [idV, inV, idV.go, inV.go]; exact idVs_in n l
  | .bool _ => rfl
  | .int .. => rfl
  | .string _ => rfl
  | .nilFunc => rfl
  | .nilIface => rfl
  | .chan _ => rfl
  | .float .. => rfl
  | .complex .. => rfl
theorem idVs_in (n : Nat) : ∀ l : List Value, idV.goL (fun i => Nat.blt i n) l = inV.goL n l
  | [] => rfl
  | v :: l => by simp only [idV.goL, inV.goL]; rw [idV_in n v, idVs_in n l]
 end

/-- An object as the caller knows it. -/
def Back (n : Nat) (ρ : Nat → Nat) (o o' : IObj) : Prop := (plainO o = true ∧ o' = o) ∨ (idO (fun i => Nat.blt i n) o = true ∧ o' = renO ρ o)

theorem Back.rel {n : Nat} {ρ : Nat → Nat} {L L' : LMap} (hL : ∀ i, i < n → L' i = L (ρ i)) {w0 w : World} {l : Ide.Loc} {o o' : IObj} (h : Back n ρ o o') (hr : ORel L w0 w l o') : ORel L' w0 w l o := by
  rcases h with ⟨h, rfl⟩ | ⟨h, rfl⟩
  · exact plain_rel h hr
  · have hl : ∀ l : List Value, (renV.goL ρ l).length = l.length := by intro l; induction l with | nil => rfl | cons v l ih => simp [renV.goL, ih]
    match o, h, hr with
    | .cells cs true, ho, ⟨h0, h1, arr, T, vs, h2, h3, h3', h4, h5⟩ =>
      have ho : idV.goL (fun i => Nat.blt i n) cs = true := ho
      rw [idVs_in] at ho
      exact ⟨h0, h1, arr, T, vs, h2, h3, by rw [hl] at h3'; exact h3', ren_rels hL _ _ h4 ho, h5⟩
    | .cells cs false, ho, ⟨h0, h1, vs, h2, h3⟩ =>
      have ho : idV.goL (fun i => Nat.blt i n) cs = true := ho
      rw [idVs_in] at ho
      exact ⟨h0, h1, vs, ren_rels hL _ _ h2 ho, h3⟩
    | .map es clock, ho, ⟨h1, es', h2, h3⟩ =>
      refine ⟨h1, es', h2, ?_⟩
      have go : ∀ (a b : List MapEntry), EsRel L (renEs ρ a) b → (a.all fun e => idV (fun i => Nat.blt i n) e.val) = true → EsRel L' a b := by
        intro a
        induction a with
        | nil => intro b h _; cases b <;> exact h
        | cons x a ih =>
          intro b h hi
          cases b with
          | nil => exact h
          | cons y b =>
            obtain ⟨h1, h2, h3, h4, h5⟩ := h
            simp only [List.all_cons, Bool.and_eq_true] at hi
            have hi1 := hi.1
            rw [idV_in] at hi1
            exact ⟨h1, h2, h3, ren_rel hL _ _ h4 hi1, ih b h5 hi.2⟩
      exact go _ _ h3 (by simpa [idO] using ho)

theorem Back.own {n : Nat} {ρ : Nat → Nat} {o o' : IObj} (h : Back n ρ o o') : o.own = o'.own := by
  rcases h with ⟨_, rfl⟩ | ⟨_, rfl⟩
  · rfl
  · cases o <;> rfl

/-- An object that is not own, of those that a call may be given, is old memory. -/
theorem Back.ro {n : Nat} {ρ : Nat → Nat} {L : LMap} {w0 w : World} {l : Ide.Loc} {o o' : IObj} (h : Back n ρ o o') (hr : ORel L w0 w l o') (hown : o'.own = false) : l.block < w0.heap.size := by
  rcases h with ⟨h, rfl⟩ | ⟨h, rfl⟩
  · match o', h, hown, hr with
    | .cells cs false, _, _, hr => exact hr.2.1
  · match o, h, hown, hr with
    | .cells cs false, _, _, hr => exact hr.2.1

def rho (rs : List Nat) (i : Nat) : Nat := rs.getD i 0
def sigR (rs : List Nat) (n N : Nat) (ks : List Nat) (i : Nat) : Nat := bif Nat.blt i n then rho rs i else N + posN i ks

/-- The caller's heap behind a call. rs: the ids of the objects that the call was given; ks: the ids of those of the new objects that are kept. -/
structure Glue (rs : List Nat) (Hc H Hc' : IHeap) (ks : List Nat) (H2 : IHeap) : Prop where
  len : H2.length = H.length + ks.length
  nodup : ks.Nodup
  ge : ∀ k, k ∈ ks → Hc.length ≤ k
  inn : ∀ (i j : Nat) (o : IObj), rs[i]? = some j → H2[j]? = some o → ∃ o', Hc'[i]? = some o' ∧ ObjTo (kept Hc.length ks) (sigR rs Hc.length H.length ks) o' o
  out : ∀ (j : Nat), j < H.length → memN j rs = false → H2[j]? = H[j]?
  new : ∀ (j k : Nat) (o : IObj), ks[j]? = some k → H2[H.length + j]? = some o → k < Hc'.length → ∃ o', Hc'[k]? = some o' ∧ ObjTo (kept Hc.length ks) (sigR rs Hc.length H.length ks) o' o

theorem ICalls.reframe {P : Program} {f : FuncId} {args : List Value} {Hc H : IHeap} {R R2 : IEnd → IHeap → Prop} (rs : List Nat) (h : ICalls P f args Hc R) (hrs : rs.length = Hc.length) (hnd : rs.Nodup)
    (ha : inV.goL Hc.length args = true) (hH : ∀ i o, Hc[i]? = some o → ∃ o', H[rho rs i]? = some o' ∧ Back Hc.length (rho rs) o o')
    (hR : ∀ e Hc', R e Hc' → ∃ v ks H2, e = .ret v ∧ idV (kept Hc.length ks) v = true ∧ Glue rs Hc H Hc' ks H2 ∧ R2 (.ret (renV (sigR rs Hc.length H.length ks) v)) H2) :
    ICalls P f (renV.goL (rho rs) args) H R2 := by
  refine ⟨h.1, fun β w args' S hargs => ?_⟩
  let βc : Emb := { w0 := β.w0, loc := fun i => if i < Hc.length then β.loc (rho rs i) else none, held := fun i => i < Hc.length ∧ β.held (rho rs i) }
  have hloc : ∀ i, i < Hc.length → βc.loc i = β.loc (rho rs i) := fun i hi => if_pos hi
  have hlt : ∀ {i l}, βc.loc i = some l → i < Hc.length := by
    intro i l h
    by_cases e : i < Hc.length
    · exact e
    · have : βc.loc i = none := if_neg e
      rw [this] at h; cases h
  have hrho : ∀ {i j}, rs[i]? = some j → rho rs i = j := fun {i j} h => by unfold rho; rw [List.getD_eq_getElem?_getD, h]; rfl
  have hget : ∀ {i}, i < Hc.length → rs[i]? = some (rho rs i) := fun {i} hi => by unfold rho; rw [List.getD_eq_getElem?_getD, List.getElem?_eq_getElem (by omega)]; rfl
  have hinj : ∀ {i j}, i < Hc.length → j < Hc.length → rho rs i = rho rs j → i = j := fun hi hj e => nod_inj hnd (hget hi) (by rw [hget hj, e])
  have back : ∀ {i o}, Hc[i]? = some o → ∃ o', H[rho rs i]? = some o' ∧ Back Hc.length (rho rs) o o' := fun h => hH _ _ h
  have Sc : Sim βc Hc w := {
    below := S.below
    dom := fun id l hl => hlt hl
    held := fun id hh => ⟨hh.1, by rw [hloc id hh.1]; exact (S.held _ hh.2).2.1, fun h4 => by
      obtain ⟨o', h1, h2⟩ := back h4
      have : o' = .free := by
        rcases h2 with ⟨_, rfl⟩ | ⟨_, rfl⟩ <;> rfl
      subst this
      exact (S.held _ hh.2).2.2 h1⟩
    blk := fun id l hl => S.blk _ l ((hloc id (hlt hl)).symm.trans hl)
    obj := fun id l o hl ho => by
      obtain ⟨o', h1, h2⟩ := back ho
      exact h2.rel hloc (S.obj _ l o' ((hloc id (hlt hl)).symm.trans hl) h1)
    inj := fun i j l l' o o' hl hl' ho ho' hown hown' hb => by
      obtain ⟨p, p1, p2⟩ := back ho
      obtain ⟨q, q1, q2⟩ := back ho'
      exact hinj (hlt hl) (hlt hl') (S.inj _ _ l l' p q ((hloc i (hlt hl)).symm.trans hl) ((hloc j (hlt hl')).symm.trans hl') p1 q1 (p2.own ▸ hown) (q2.own ▸ hown') hb) }
  have hac : VsRel βc.loc args args'.toList := ren_rels hloc args _ hargs ha
  refine (h.2 βc w args' Sc hac).mono fun e w' hA => ?_
  obtain ⟨β', H', St, S', hE⟩ := hA
  have main : ∀ v v', VRel β'.loc v v' → R (.ret v) H' → After β w R2 (.returned v') w' := by
    intro v v' hv hr
    obtain ⟨u, ks, H2, hu, hids, G, hR2⟩ := hR _ _ hr
    injection hu with hu
    subst hu
    let loc2 : LMap := fun j => if j < H.length then (bif memN j rs then β'.loc (posN j rs) else β.loc j) else (ks[j - H.length]?).bind β'.loc
    have lowIn : ∀ {j}, j < H.length → memN j rs = true → loc2 j = β'.loc (posN j rs) := fun h1 h2 => by show (if _ then _ else _) = _; rw [if_pos h1, h2]; rfl
    have lowOut : ∀ {j}, j < H.length → memN j rs = false → loc2 j = β.loc j := fun h1 h2 => by show (if _ then _ else _) = _; rw [if_pos h1, h2]; rfl
    have high : ∀ {j}, ¬ j < H.length → loc2 j = (ks[j - H.length]?).bind β'.loc := fun h1 => if_neg h1
    have pos : ∀ {j}, memN j rs = true → posN j rs < Hc.length ∧ rho rs (posN j rs) = j := fun {j} h => by
      have h1 := posN_get (memN_iff.1 h)
      have h2 := (List.getElem?_eq_some_iff.1 h1).1
      exact ⟨by omega, hrho h1⟩
    have rlt : ∀ {i}, i < Hc.length → rho rs i < H.length := fun {i} hi => by
      obtain ⟨o', h1, _⟩ := back (List.getElem?_eq_getElem hi)
      exact (List.getElem?_eq_some_iff.1 h1).1
    have rmem : ∀ {i}, i < Hc.length → memN (rho rs i) rs = true := fun {i} hi => memN_iff.2 (List.mem_of_getElem? (hget hi))
    have rpos : ∀ {i}, i < Hc.length → posN (rho rs i) rs = i := fun {i} hi => by
      have h1 := pos (rmem hi)
      exact hinj h1.1 hi h1.2
    have hsig : ∀ i l, kept Hc.length ks i = true → β'.loc i = some l → loc2 (sigR rs Hc.length H.length ks i) = some l := by
      intro i l hi hl
      unfold sigR
      cases hb : Nat.blt i Hc.length with
      | true =>
        have hi' : i < Hc.length := by simpa [Nat.blt_eq] using hb
        simp only [cond_true]
        rw [lowIn (rlt hi') (rmem hi'), rpos hi']
        exact hl
      | false =>
        simp only [cond_false]
        rw [high (by omega), Nat.add_sub_cancel_left]
        unfold kept at hi
        rw [hb, Bool.false_or, memN_iff] at hi
        rw [posN_get hi]
        exact hl
    -- where an id of the new embedding comes from
    have src : ∀ {j l o}, loc2 j = some l → H2[j]? = some o →
        (j < H.length ∧ memN j rs = false ∧ β.loc j = some l ∧ H[j]? = some o) ∨
        (∃ i o', β'.loc i = some l ∧ H'[i]? = some o' ∧ ObjTo (kept Hc.length ks) (sigR rs Hc.length H.length ks) o' o ∧ ((j < H.length ∧ i < Hc.length ∧ rho rs i = j) ∨ (H.length ≤ j ∧ Hc.length ≤ i ∧ ks[j - H.length]? = some i))) := by
      intro j l o hl ho
      by_cases hj : j < H.length
      · cases hm : memN j rs with
        | true =>
          rw [lowIn hj hm] at hl
          have hp := pos hm
          obtain ⟨o', h1, h2⟩ := G.inn (posN j rs) j o (posN_get (memN_iff.1 hm)) ho
          exact .inr ⟨_, o', hl, h1, h2, .inl ⟨hj, hp.1, hp.2⟩⟩
        | false =>
          rw [lowOut hj hm] at hl
          exact .inl ⟨hj, rfl, hl, by rw [← G.out j hj hm]; exact ho⟩
      · rw [high hj] at hl
        obtain ⟨k, h1, h2⟩ := Option.bind_eq_some_iff.1 hl
        obtain ⟨o', h3, h4⟩ := G.new (j - H.length) k o h1 (by rw [show H.length + (j - H.length) = j by omega]; exact ho) (S'.dom k l h2)
        exact .inr ⟨k, o', h2, h3, h4, .inr ⟨by omega, G.ge k (List.mem_of_getElem? h1), h1⟩⟩
    -- an own object of the caller that the call was not given lies apart
    have apart : ∀ {j l o i l'}, j < H.length → memN j rs = false → β.loc j = some l → H[j]? = some o → o.own = true → βc.loc i = some l' → l'.block ≠ l.block := by
      intro j l o i l' hj hm hl ho hown hl' hb
      have hi := hlt hl'
      have hl'' : β.loc (rho rs i) = some l' := (hloc i hi).symm.trans hl'
      obtain ⟨o', h1, h2⟩ := back (List.getElem?_eq_getElem hi)
      cases ho' : o'.own with
      | true =>
        have := S.inj (rho rs i) j l' l o' o hl'' hl h1 ho ho' hown hb
        rw [← this, rmem hi] at hm
        cases hm
      | false =>
        have h3 := h2.ro (S.obj _ l' o' hl'' h1) ho'
        have h4 := ((S.obj j l o hl ho).block_lt hown).2
        omega
    have hnewb : ∀ {i l}, β'.loc i = some l → (∃ id0 l0, β.loc id0 = some l0 ∧ l0.block = l.block) ∨ w.heap.size ≤ l.block := by
      intro i l hl
      rcases St.newb i l hl with ⟨i0, l0, h1, h2⟩ | h
      · exact .inl ⟨rho rs i0, l0, (hloc i0 (hlt h1)).symm.trans h1, h2⟩
      · exact .inr h
    have ew : β'.w0 = β.w0 := St.le.1.1
    refine ⟨{ w0 := β.w0, loc := loc2, held := β.held }, H2, ?_, ?_, ?_⟩
    · exact {
        le := ⟨⟨rfl, rfl⟩, fun id l hl => by
          have hd := S.dom id l hl
          cases hm : memN id rs with
          | true =>
            have hp := pos hm
            show loc2 id = some l
            rw [lowIn hd hm]
            exact St.le.2 _ l (by rw [hloc _ hp.1, hp.2]; exact hl)
          | false => show loc2 id = some l; rw [lowOut hd hm]; exact hl⟩
        size := St.size
        newb := fun j l hl => by
          by_cases hj : j < H.length
          · cases hm : memN j rs with
            | true => exact hnewb (i := posN j rs) (by rw [← lowIn hj hm]; exact hl)
            | false => exact .inl ⟨j, l, by rw [← lowOut hj hm]; exact hl, rfl⟩
          · have hl : loc2 j = some l := hl
            rw [high hj] at hl
            obtain ⟨k, _, h2⟩ := Option.bind_eq_some_iff.1 hl
            exact hnewb h2
        frame := fun k hk hn => St.frame k hk fun i li hli => hn (rho rs i) li ((hloc i (hlt hli)).symm.trans hli) }
    · exact {
        below := by have := S'.below; rw [ew] at this; exact this
        dom := fun j l hl => by
          rw [G.len]
          by_cases hj : j < H.length
          · omega
          · have hl : loc2 j = some l := hl
            rw [high hj] at hl
            obtain ⟨k, h1, _⟩ := Option.bind_eq_some_iff.1 hl
            have := (List.getElem?_eq_some_iff.1 h1).1
            omega
        held := fun id hh => by
          have h1 := S.held id hh
          have inv : memN id rs = true → β'.held (posN id rs) := fun hm => by
            have hp := pos hm
            have : βc.held (posN id rs) := ⟨hp.1, by rw [hp.2]; exact hh⟩
            rw [St.le.1.2]; exact this
          refine ⟨by rw [G.len]; omega, ?_, fun h4 => ?_⟩
          · show loc2 id = none
            cases hm : memN id rs with
            | true => rw [lowIn h1.1 hm]; exact (S'.held _ (inv hm)).2.1
            | false => rw [lowOut h1.1 hm]; exact h1.2.1
          · cases hm : memN id rs with
            | true =>
              obtain ⟨o', g1, g2⟩ := G.inn (posN id rs) id _ (posN_get (memN_iff.1 hm)) h4
              have := g2.free
              subst this
              exact (S'.held _ (inv hm)).2.2 g1
            | false => rw [G.out id h1.1 hm] at h4; exact h1.2.2 h4
        blk := fun j l hl => by
          by_cases hj : j < H.length
          · cases hm : memN j rs with
            | true => exact S'.blk (posN j rs) l (by rw [← lowIn hj hm]; exact hl)
            | false => exact Nat.lt_of_lt_of_le (S.blk j l (by rw [← lowOut hj hm]; exact hl)) St.size
          · have hl : loc2 j = some l := hl
            rw [high hj] at hl
            obtain ⟨k, _, h2⟩ := Option.bind_eq_some_iff.1 hl
            exact S'.blk k l h2
        obj := fun j l o hl ho => by
          rcases src hl ho with ⟨h1, h2, h3, h4⟩ | ⟨i, o', h1, h2, h3, _⟩
          · have hO := S.obj j l o h3 h4
            cases hown : o.own with
            | false =>
              have key : ORel β.loc β.w0 w' l o := hO.keep fun hh => by rw [hown] at hh; cases hh
              refine ORel.mono (L := β.loc) (fun id l hl => ?_) key
              have hd := S.dom id l hl
              cases hm : memN id rs with
              | true =>
                have hp := pos hm
                show loc2 id = some l
                rw [lowIn hd hm]
                exact St.le.2 _ l (by rw [hloc _ hp.1, hp.2]; exact hl)
              | false => show loc2 id = some l; rw [lowOut hd hm]; exact hl
            | true =>
              have key : ORel β.loc β.w0 w' l o := hO.keep fun _ => St.frame l.block (S.blk j l h3) fun i li hli => apart h1 h2 h3 h4 hown hli
              refine ORel.mono (L := β.loc) (fun id l hl => ?_) key
              have hd := S.dom id l hl
              cases hm : memN id rs with
              | true =>
                have hp := pos hm
                show loc2 id = some l
                rw [lowIn hd hm]
                exact St.le.2 _ l (by rw [hloc _ hp.1, hp.2]; exact hl)
              | false => show loc2 id = some l; rw [lowOut hd hm]; exact hl
          · have := S'.obj i l o' h1 h2
            rw [ew] at this
            exact h3.rel hsig this
        inj := fun a b l l' o o' hl hl' ho ho' hown hown' hb => by
          have mixed : ∀ {j l o i l'}, j < H.length → memN j rs = false → β.loc j = some l → H[j]? = some o → o.own = true → β'.loc i = some l' → l'.block ≠ l.block := by
            intro j l o i l' hj hm hl ho hown hl' hb
            rcases St.newb i l' hl' with ⟨i0, l0, h1, h2⟩ | h
            · exact apart hj hm hl ho hown h1 (h2.trans hb)
            · have := S.blk j l hl; omega
          rcases src hl ho with ⟨a1, a2, a3, a4⟩ | ⟨i, oi, a1, a2, a3, a4⟩ <;> rcases src hl' ho' with ⟨b1, b2, b3, b4⟩ | ⟨j, oj, b1, b2, b3, b4⟩
          · exact S.inj a b l l' o o' a3 b3 a4 b4 hown hown' hb
          · exact absurd hb.symm (mixed a1 a2 a3 a4 hown b1)
          · exact absurd hb (mixed b1 b2 b3 b4 hown' a1)
          · have hij := S'.inj i j l l' oi oj a1 b1 a2 b2 (a3.own hown) (b3.own hown') hb
            subst hij
            rcases a4 with ⟨p1, p2, p3⟩ | ⟨p1, p2, p3⟩ <;> rcases b4 with ⟨q1, q2, q3⟩ | ⟨q1, q2, q3⟩
            · rw [← p3, ← q3]
            · omega
            · omega
            · have := nod_inj G.nodup p3 q3; omega }
    · exact ⟨_, rel_ren hsig hv hids, hR2⟩
  match e, hE with
  | .returned v', ⟨v, hv, hr⟩ => exact main v v' hv hr
  | .panicked chain, ⟨v, v', _, _, hr⟩ =>
    obtain ⟨u, ks, H2, hu, _⟩ := hR _ _ hr
    cases hu

end Ide

/- A reckoner that parts where a test is not decided: code that is run to its end, over variables. -/
set_option linter.unusedVariables false
set_option linter.unusedSimpArgs false
namespace Ide
open Go Go.RowKit

/-- A call: what it comes to has K. -/
abbrev YCall := Fn → List Value → XHeap → (Value → XHeap → Prop) → Prop

def YOk (P : Program) (call : YCall) : Prop := ∀ f args h K, call f args h K → ∀ H, RepH H h → ICallF P f args H (fun e H' => ∃ v h', e = .ret v ∧ RepH H' h' ∧ K v h')

def ysetB (e : XEnv) (t : Nat) (b : Bool) (K : XEnv → Prop) : Prop :=
  match Tr.set 20 e t (.bool b) with
  | some e' => K e'
  | none => False

/-- Which way a test goes, of tests on some temporaries: what is said so must be shown. -/
abbrev Guide := List (Nat × Bool)
def gdAt : Guide → Nat → Option Bool
  | [], _ => none
  | (s, b) :: r, t => bif Nat.beq s t then some b else gdAt r t
def ysplit (gd : Guide) (t : Nat) (b : Bool) (X Y : Prop) : Prop :=
  match gdAt gd t with
  | some true => b = true ∧ X
  | some false => b = false ∧ Y
  | none => bcase b X Y
theorem ysplit_bcase {gd : Guide} {t : Nat} {b : Bool} {X Y : Prop} (h : ysplit gd t b X Y) : bcase b X Y := by
  unfold ysplit at h
  split at h
  · obtain ⟨rfl, h⟩ := h; exact h
  · obtain ⟨rfl, h⟩ := h; exact h
  · exact h
def tmpOf : Operand → Nat
  | .tmp t => t
  | _ => 0

def yguard (gd : Guide) (all : List Oper) (g : Option (Nat × Bool)) (e : XEnv) (Y N : XEnv → Prop) : Prop :=
  match g with
  | none => Y e
  | some (j, want) =>
    match dstAt all j with
    | none => N e
    | some t =>
      match XEnv.lk e t with
      | .bool b => ysplit gd t b (ysetB e t true (match want with | true => Y | false => N)) (ysetB e t false (match want with | true => N | false => Y))
      | .tuple ⟨[]⟩ => N e
      | _ => False

def ydo (P : Program) (call : YCall) (o : Oper) (e : XEnv) (h : XHeap) (K : Value → XHeap → Prop) : Prop :=
  match o.op with
  | .call { callee := .value f, args := ⟨ags⟩, .. } =>
    (match xev e f with
    | .func (.func g) ⟨first⟩ ⟨cap⟩ => call (.func g) (first ++ ags.map (xev e) ++ cap) h fun v h' => bif xresult P o.type v then K v h' else False
    | .func (.yield l) _ _ => call (.yield l) (ags.map (xev e)) h fun v h' => bif xresult P o.type v then K v h' else False
    | _ => False)
  | .pick c a b => (match xev e c with | .bool c => pickV c (xev e a) (xev e b) fun v => K v h | _ => False)
  | _ => (match xop P o e h with | some (v, h') => K v h' | none => False)

def yput (e : XEnv) (d : Option Nat) (v : Value) (K : XEnv → Prop) : Prop :=
  match xput e d v with
  | some e' => K e'
  | none => False

def yops (P : Program) (gd : Guide) (call : YCall) (all : List Oper) : List Oper → XEnv → XHeap → (XEnv → XHeap → Prop) → Prop
  | [], e, h, K => K e h
  | o :: l, e, h, K => yguard gd all o.guard e (fun e => ydo P call o e h fun v h' => yput e o.dst v fun e' => yops P gd call all l e' h' K) (fun e => yput e o.dst undef fun e' => yops P gd call all l e' h K)

def yopsD (P : Program) (gd : Guide) (call : YCall) (all : List Oper) (bs : List Nat) : List Nat → XEnv → XHeap → XWatch → (XEnv → XHeap → Prop) → Prop
  | [], e, h, _, K => K e h
  | i :: l, e, h, ws, K =>
    match all[i]? with
    | none => False
    | some o =>
      yguard gd all o.guard e
        (fun e => ydo P call o e h fun v h' => yput e o.dst v fun e' =>
          bif isActs o then (bif xwatching ws (bs.getD i 0) h' then yopsD P gd call all bs l e' h' ws K else False)
          else yopsD P gd call all bs l e' h' (xwatchOf i o e v h h' ++ ws) K)
        (fun e => yput e o.dst undef fun e' => yopsD P gd call all bs l e' h ws K)

def thnY (next : XEnv → XHeap → Prop) (K : IExit → XEnv → XHeap → Prop) : IExit → XEnv → XHeap → Prop
  | .normal, e, h => next e h
  | x, e, h => K x e h
def inBY (id : Nat) (K : IExit → XEnv → XHeap → Prop) : IExit → XEnv → XHeap → Prop
  | .exit i, e, h => bif Nat.beq i id then K .normal e h else K (.exit i) e h
  | x, e, h => K x e h

def yrangeEnd (l : Nat) (e : XEnv) (h : XHeap) (K : IExit → XEnv → XHeap → Prop) : Prop :=
  match xrangeEnd l e h with
  | some (x, e', h') => K x e' h'
  | none => False

def ycode (P : Program) (gd : Guide) (nt : Nat) (call : YCall) : Nat → Code → (IExit → XEnv → XHeap → Prop) → XEnv → XHeap → Prop
  | 0, _, _, _, _ => False
  | n + 1, c, K, e, h =>
    match c with
    | .skip => K .normal e h
    | .region _ ops false => yops P gd call ops.toList ops.toList e h (K .normal)
    | .region _ ops true => yopsD P gd call ops.toList (befores ops.toList []) (canon ops.toList) e h [] (K .normal)
    | .seq a b => ycode P gd nt call n a (thnY (fun e h => ycode P gd nt call n b K e h) K) e h
    | .cond c a b => (match xev e c with | .bool t => ysplit gd (tmpOf c) t (ycode P gd nt call n a K e h) (ycode P gd nt call n b K e h) | _ => False)
    | .block id a => ycode P gd nt call n a (inBY id K) e h
    | .loop a => ycode P gd nt call n a (thnY (fun e h => ycode P gd nt call n (.loop a) K e h) K) e h
    | .scope a => ycode P gd nt call n a K e h
    | .exit id => K (.exit id) e h
    | .label _ => K .normal e h
    | .ret => K .ret e h
    | .rangeFunc g ps a b =>
      (match xev e g with
      | .func (.func gf) ⟨first⟩ ⟨cap⟩ =>
        (match h.push (.loop .ready none 0 (envL e (minusN (unN (gens a) (gens b)) ps.toList)) nt ps a b) with
        | some h1 => call (.func gf) (first ++ [.func (.yield h.n) #[] #[]] ++ cap) h1 fun _ h2 => yrangeEnd h.n e h2 K
        | none => False)
      | _ => False)
    | _ => False

def yres (P : Program) (rs : List ResultVar) (e : XEnv) (h : XHeap) (K : Value → XHeap → Prop) : Prop :=
  match xres P rs e h [] with
  | some vs => K (oneV vs) h
  | none => False

def ybody (P : Program) (rs : List ResultVar) (K : Value → XHeap → Prop) : IExit → XEnv → XHeap → Prop
  | .normal, e, h => yres P rs e h K
  | .ret, e, h => yres P rs e h K
  | _, _, _ => False

def yroundEnd (l : Nat) (K : Value → XHeap → Prop) (x : IExit) (e : XEnv) (h : XHeap) : Prop :=
  match xroundEnd l x h with
  | some (v, h') => K v h'
  | none => False

def yround (P : Program) (gd : Guide) (fuel : Nat) (call : YCall) (l : Nat) (args : List Value) (h : XHeap) (K : Value → XHeap → Prop) : Prop :=
  match h.t.get l with
  | some (.loop st pend fn tm nt ps ags bd) =>
    bif Nat.beq args.length ps.size && ps.toList.all (Nat.blt · nt) && codeOk P nt false ags && codeOk P nt false bd then
      (match xofL (putAll ps.toList args tm) with
      | some e =>
        ycode P gd nt call fuel ags (fun x e1 h1 => match x with
          | .normal =>
            (match h1.t.get l with
            | some (.loop .ready none fn1 tm1 nt1 ps1 as1 bd1) =>
              (match h1.set l (.loop .busy none fn1 tm1 nt1 ps1 as1 bd1) with
              | some h2 => ycode P gd nt call fuel bd (yroundEnd l K) e1 h2
              | none => False)
            | _ => False)
          | _ => False) e h
      | none => False)
    else False
  | _ => False

/-- Calls, of functions of a list, so and so deep, with so much fuel each; others by base. -/
def yfun (P : Program) (gds : FuncId → Guide) (ok : List FuncId) (fuel : Nat) (base : YCall) : Nat → YCall
  | d + 1, .yield l, args, h, K => yround P [] fuel (yfun P gds ok fuel base d) l args h K
  | d + 1, .func f, args, h, K =>
    bif memN f ok then
      match P.funcs[f]? with
      | some fn =>
        (match fn.body with
        | some c =>
          bif Nat.ble args.length fn.ntmps then
            (match xenv 0 args .nil with
            | some e => ycode P (gds f) fn.ntmps (yfun P gds ok fuel base d) fuel c (ybody P fn.results.toList K) e h
            | none => False)
          else False
        | none => False)
      | none => False
    else base (.func f) args h K
  | _, _, _, _, _ => False

section
variable {P : Program} {gd : Guide} {nt : Nat} {call : YCall}

/-- What a post-condition over trees says of lists. -/
def liftK (K : IExit → XEnv → XHeap → Prop) (x : IExit) (env : Env) (H : IHeap) : Prop := ∃ e h, RepE env e ∧ RepH H h ∧ K x e h

theorem ICallF.mono {f : Fn} {args : List Value} {H : IHeap} {R R' : IEnd → IHeap → Prop} (h : ICallF P f args H R) (hr : ∀ e H', R e H' → R' e H') : ICallF P f args H R' := by
  cases f with
  | func g => exact ICalls.mono h hr
  | yield l =>
    obtain ⟨st, pend, fn, tm, nt, params, assign, body, g1, g2, g3, g4⟩ := (h : IYield P l args H R)
    exact ⟨st, pend, fn, tm, nt, params, assign, body, g1, g2, g3, fun fn => (g4 fn).mono hr⟩
  | method m => exact h
  | methodOf t m => exact h
  | via a b c d => exact h

theorem yguard_sound {all : List Oper} {g : Option (Nat × Bool)} {env : Env} {e : XEnv} {Y N : XEnv → Prop} {Y' N' : Env → Prop} (he : RepE env e) (hy : ∀ env e, RepE env e → Y e → Y' env) (hn : ∀ env e, RepE env e → N e → N' env) (h : yguard gd all g e Y N) : guarded all g env Y' N' := by
  unfold yguard at h
  unfold guarded
  cases g with
  | none => exact hy _ _ he h
  | some p =>
    obtain ⟨j, want⟩ := p
    simp only at h ⊢
    generalize dstAt all j = d at h ⊢
    cases d with
    | none => exact hn _ _ he h
    | some t =>
      simp only at h ⊢
      rw [he t]
      generalize XEnv.lk e t = v at h ⊢
      have set : ∀ (b : Bool) (Z : XEnv → Prop) (Z' : Env → Prop), (∀ env e, RepE env e → Z e → Z' env) → ysetB e t b Z → Z' ((t, .bool b) :: env) := by
        intro b Z Z' hz h
        unfold ysetB at h
        split at h
        · rename_i e' hs
          refine hz _ _ ?_ h
          exact xput_rep (d := some t) he hs
        · exact h.elim
      cases v with
      | bool b =>
        have h := ysplit_bcase h
        simp only [bcase] at h ⊢
        cases b <;> cases want <;> first | exact set _ _ _ hy h | exact set _ _ _ hn h
      | tuple vs =>
        obtain ⟨vs⟩ := vs
        cases vs with
        | nil => exact hn _ _ he h
        | cons v vs => exact h.elim
      | _ => exact h.elim

theorem ydo_sound (hc : YOk P call) {H : IHeap} {h : XHeap} {o : Oper} {env : Env} {e : XEnv} {K : Value → XHeap → Prop} {K' : Value → IHeap → Prop} {Qp : Value → IHeap → Prop} (he : RepE env e) (hr : RepH H h)
    (hk : ∀ v h' H', RepH H' h' → K v h' → K' v H') (hx : ydo P call o e h K) : iop P o env H K' Qp := by
  have hev : iev env = xev e := funext fun x => xev_eq he x
  have plain : (match xop P o e h with | some (v, h') => K v h' | none => False) → iop P o env H K' Qp := by
    intro hx
    split at hx
    · rename_i v h' ho
      obtain ⟨H', h1, h2⟩ := xop_sound he hr ho
      exact h2 _ _ (hk v h' H' h1 hx)
    · exact hx.elim
  unfold ydo at hx
  split at hx
  · rename_i f ags x1 hop
    unfold iop
    rw [hop]
    show icall P o.type _ env H K' Qp
    unfold icall
    simp only [hev]
    unfold icallV
    have fin : ∀ {e' : IEnd} {H' : IHeap}, (∃ v h', e' = .ret v ∧ RepH H' h' ∧ (bif xresult P o.type v then K v h' else False)) → endK P o.type K' Qp e' H' := by
      rintro e' H' ⟨v, h', rfl, h1, h2⟩
      obtain ⟨hb, h2⟩ := bifF h2
      exact xresult_sound (K := fun u => K' u H') hb (hk v h' H' h1 h2)
    split at hx
    · rename_i g first cap hf
      rw [hf]
      exact ICalls.mono (show ICalls P g _ H _ from hc _ _ _ _ hx H hr) fun e' H' hh => fin hh
    · rename_i l z1 z2 hf
      rw [hf]
      exact ICallF.mono (f := .yield l) (hc _ _ _ _ hx H hr) fun e' H' hh => fin hh
    · exact hx.elim
  · rename_i c a b hop
    unfold iop
    rw [hop]
    simp only [hev]
    split at hx
    · rename_i c' hc'
      rw [hc']
      exact det_pickV.mono (fun v h' => hk v h H hr h') hx
    · exact hx.elim
  · exact plain hx

theorem yput_sound {env : Env} {e : XEnv} {d : Option Nat} {v : Value} {K : XEnv → Prop} (he : RepE env e) (h : yput e d v K) : ∃ e', RepE (put env d v) e' ∧ K e' := by
  unfold yput at h
  split at h
  · rename_i e' hp; exact ⟨e', xput_rep he hp, h⟩
  · exact h.elim

theorem yops_sound (hc : YOk P call) {all : List Oper} {K : XEnv → XHeap → Prop} {K' : Env → IHeap → Prop} {Qp : Value → IHeap → Prop} (hk : ∀ env e H h, RepE env e → RepH H h → K e h → K' env H) :
    ∀ (l : List Oper) {H : IHeap} {h : XHeap} {env : Env} {e : XEnv}, RepE env e → RepH H h → yops P gd call all l e h K → irun P all l env H K' Qp
  | [], H, h, env, e, he, hr, hx => hk _ _ _ _ he hr hx
  | o :: l, H, h, env, e, he, hr, hx => by
    refine yguard_sound he (fun env e he hx => ydo_sound hc he hr (fun v h' H' hr' hx => ?_) hx) (fun env e he hx => ?_) hx
    · obtain ⟨e', he', hx⟩ := yput_sound he hx
      exact yops_sound hc hk l he' hr' hx
    · obtain ⟨e', he', hx⟩ := yput_sound he hx
      exact yops_sound hc hk l he' hr hx

theorem yopsD_sound (hc : YOk P call) {all : List Oper} {bs : List Nat} {K : XEnv → XHeap → Prop} {K' : Env → IHeap → Prop} {Qp : Value → IHeap → Prop} (hk : ∀ env e H h, RepE env e → RepH H h → K e h → K' env H) :
    ∀ (l : List Nat) {H : IHeap} {h : XHeap} {env : Env} {e : XEnv} {ws : Watch} {xs : XWatch}, RepE env e → RepH H h → RepW ws xs → yopsD P gd call all bs l e h xs K → irunD P all bs l env H ws K' Qp
  | [], H, h, env, e, ws, xs, he, hr, hw, hx => hk _ _ _ _ he hr hx
  | i :: l, H, h, env, e, ws, xs, he, hr, hw, hx => by
    cases ho : all[i]? with
    | none => simp only [yopsD, ho] at hx
    | some o =>
      simp only [yopsD, ho] at hx
      simp only [irunD, ho]
      refine yguard_sound he (fun env e he hx => ydo_sound hc he hr (fun v h' H' hr' hx => ?_) hx) (fun env e he hx => ?_) hx
      · obtain ⟨e', he', hx⟩ := yput_sound he hx
        cases ha : isActs o with
        | true =>
          rw [ha] at hx
          obtain ⟨hb, hx⟩ := bifF (hx : bif _ then _ else False)
          exact xwatching_sound hw hr' hb (yopsD_sound hc hk l he' hr' hw hx)
        | false =>
          rw [ha] at hx
          exact yopsD_sound hc hk l he' hr' ((xwatchOf_rep he hr hr').append hw) hx
      · obtain ⟨e', he', hx⟩ := yput_sound he hx
        exact yopsD_sound hc hk l he' hr hw hx

theorem ycode_sound {ro : Option Nat} {rf : Bool} (hro : rf = true → ro = none) (hm : P.follows .mixedOrders = true) (hc : YOk P call) : ∀ (n : Nat),
    (∀ (c : Code) (K : IExit → XEnv → XHeap → Prop) (H : IHeap) (h : XHeap) (env : Env) (e : XEnv), codeOk P nt rf c = true → RepE env e → RepH H h → ycode P gd nt call n c K e h → IW ro P nt c (liftK K) env H) ∧
    (∀ (c : Code) (K : IExit → XEnv → XHeap → Prop) (H : IHeap) (h : XHeap) (env : Env) (e : XEnv), codeOk P nt rf c = true → RepE env e → RepH H h → ycode P gd nt call n (.loop c) K e h → LW ro P nt c (liftK K) env H)
  | 0 => ⟨(fun c K H h env e _ _ _ hx => hx.elim), (fun c K H h env e _ _ _ hx => hx.elim)⟩
  | n + 1 => by
    obtain ⟨ihA, ihB⟩ := ycode_sound hro hm hc n
    have B : ∀ (c : Code) (K : IExit → XEnv → XHeap → Prop) (H : IHeap) (h : XHeap) (env : Env) (e : XEnv), codeOk P nt rf c = true → RepE env e → RepH H h → ycode P gd nt call (n + 1) (.loop c) K e h → LW ro P nt c (liftK K) env H := by
      intro c K H h env e hok he hr hx
      simp only [ycode] at hx
      refine loop_step0 (IW.mono (ihA c _ H h env e hok he hr hx) fun x env' H' hq => ?_)
      obtain ⟨e', h', he', hr', hk⟩ := hq
      cases x with
      | normal => exact ihB c K H' h' env' e' hok he' hr' hk
      | exit id => exact ⟨e', h', he', hr', hk⟩
      | ret => exact ⟨e', h', he', hr', hk⟩
      | panic v => exact ⟨e', h', he', hr', hk⟩
    refine ⟨?_, B⟩
    intro c K H h env e hok he hr hx
    have stay : ∀ {x : IExit}, K x e h → liftK K x env H := fun hk => ⟨e, h, he, hr, hk⟩
    cases c with
    | skip => exact fun n0 β w a S hT hM => wpIn_skip ⟨β, H, env, Step.refl _ _, S, hT, hM, stay hx⟩
    | exit id => exact fun n0 β w a S hT hM => wpIn_exit ⟨β, H, env, Step.refl _ _, S, hT, hM, stay hx⟩
    | label l => exact fun n0 β w a S hT hM => wpIn_label ⟨β, H, env, Step.refl _ _, S, hT, hM, stay hx⟩
    | ret => exact fun n0 β w a S hT hM => wpIn_ret ⟨β, H, env, Step.refl _ _, S, hT, hM, stay hx⟩
    | region id ops draws =>
      cases draws with
      | false => exact region_sound hok (yops_sound hc (fun env e H h he hr hk => ⟨e, h, he, hr, hk⟩) _ he hr hx)
      | true => exact draw_sound hm hok (yopsD_sound hc (fun env e H h he hr hk => ⟨e, h, he, hr, hk⟩) _ he hr .nil hx)
    | seq x y =>
      simp only [codeOk, Bool.and_eq_true] at hok
      simp only [ycode] at hx
      refine seq_of (IW.mono (ihA x _ H h env e hok.1 he hr hx) fun x env' H' hq => ?_)
      obtain ⟨e', h', he', hr', hk⟩ := hq
      cases x with
      | normal => exact ihA y K H' h' env' e' hok.2 he' hr' hk
      | exit id => exact ⟨e', h', he', hr', hk⟩
      | ret => exact ⟨e', h', he', hr', hk⟩
      | panic v => exact ⟨e', h', he', hr', hk⟩
    | cond c x y =>
      simp only [codeOk, Bool.and_eq_true] at hok
      simp only [ycode] at hx
      split at hx
      · rename_i t ht
        refine cond_of hok.1.1 ((xev_eq he c).trans ht) ?_
        have hx := ysplit_bcase hx
        cases t with
        | true => exact ihA x K H h env e hok.1.2 he hr hx
        | false => exact ihA y K H h env e hok.2 he hr hx
      · exact hx.elim
    | block id x =>
      simp only [codeOk] at hok
      simp only [ycode] at hx
      refine block_of (IW.mono (ihA x _ H h env e hok he hr hx) fun x env' H' hq => ?_)
      obtain ⟨e', h', he', hr', hk⟩ := hq
      cases x with
      | exit i =>
        simp only [inBY] at hk
        simp only [inB]
        cases hb : Nat.beq i id with
        | true => rw [hb] at hk; exact ⟨e', h', he', hr', hk⟩
        | false => rw [hb] at hk; exact ⟨e', h', he', hr', hk⟩
      | normal => exact ⟨e', h', he', hr', hk⟩
      | ret => exact ⟨e', h', he', hr', hk⟩
      | panic v => exact ⟨e', h', he', hr', hk⟩
    | loop x =>
      simp only [codeOk] at hok
      exact loop_of0 (B x K H h env e hok he hr hx)
    | scope x =>
      simp only [codeOk] at hok
      simp only [ycode] at hx
      exact scope_of (ihA x K H h env e hok he hr hx)
    | rangeFunc g ps a b =>
      simp only [ycode] at hx
      split at hx
      · rename_i gf first cap hg
        split at hx
        · rename_i h1 hp
          simp only [codeOk, Bool.and_eq_true] at hok
          have hrf : rf = true := hok.1.1.1.1
          have hro' := hro hrf
          subst hro'
          refine range_of hok.1.1.1.2 ((xev_eq he g).trans hg) (tm := envL e (minusN (unN (gens a) (gens b)) ps.toList)) (fun t => by rw [he t]; exact lk_envL e _ t) ?_
          rw [pos_end, newO_end, hr.1]
          refine ICalls.mono (show ICalls P gf _ _ _ from hc _ _ _ _ hx _ (push_rep hr hp)) fun e' H' hh => ?_
          obtain ⟨v, h2, rfl, hr2, hk⟩ := hh
          unfold yrangeEnd at hk
          split at hk
          · rename_i x e3 h3 hxr
            obtain ⟨e1, H3, hr3, hend⟩ := xrangeEnd_sound hr2 hxr
            refine hend _ ?_
            have e1 : e3 = e := e1
            subst e1
            exact ⟨e3, h3, he, hr3, hk⟩
          · exact hk.elim
        · exact hx.elim
      · exact hx.elim
    | _ => exact hx.elim

theorem yround_sound (hm : P.follows .mixedOrders = true) {fuel : Nat} (hc : YOk P call) {l : Nat} {args : List Value} {h : XHeap} {K : Value → XHeap → Prop} (hx : yround P gd fuel call l args h K) {H : IHeap} (hr : RepH H h) :
    IYield P l args H (fun e H' => ∃ v h', e = .ret v ∧ RepH H' h' ∧ K v h') := by
  unfold yround at hx
  split at hx
  · rename_i st pend fn tm nt ps ags bd hg
    obtain ⟨hb, hx⟩ := bifF hx
    simp only [Bool.and_eq_true] at hb
    split at hx
    · rename_i e he
      refine ⟨st, pend, fn, tm, nt, ps, ags, bd, (hr.2 l).trans hg, Nat.eq_of_beq_eq_true hb.1.1.1, hb.1.1.2, fun fn' => iround_of fun ro => ?_⟩
      refine IW.mono ((ycode_sound (nt := nt) (ro := some ro) (rf := false) (fun h => by cases h) hm hc fuel).1 ags _ H h (putAll ps.toList args tm) e hb.1.2 (xofL_rep _ _ he) hr hx) fun x env1 H1 hq => ?_
      obtain ⟨e1, h1, g1, g2, hk⟩ := hq
      cases x with
      | normal =>
        simp only at hk
        split at hk
        · rename_i fn1 tm1 nt1 ps1 as1 bd1 hg1
          split at hk
          · rename_i h2 hs2
            refine ⟨fn1, tm1, nt1, ps1, as1, bd1, (g2.2 l).trans hg1, ?_⟩
            refine IW.mono ((ycode_sound (nt := nt) (ro := some ro) (rf := false) (fun h => by cases h) hm hc fuel).1 bd _ _ h2 env1 e1 hb.2 g1 (set_rep g2 hs2) hk) fun x env3 H3 hq => ?_
            obtain ⟨e3, h3, k1, k2, hk⟩ := hq
            unfold yroundEnd at hk
            split at hk
            · rename_i v h' hxr
              obtain ⟨H', r1, r2⟩ := xroundEnd_sound k2 hxr
              exact r2 _ env3 ⟨v, h', rfl, r1, hk⟩
            · exact hk.elim
          · exact hk.elim
        · exact hk.elim
      | exit id => exact hk
      | ret => exact hk
      | panic v => exact hk
    · exact hx.elim
  · exact hx.elim

theorem yfun_sound {gds : FuncId → Guide} (hm : P.follows .mixedOrders = true) {ok : List FuncId} (hok : ok.all (fnOk P) = true) (fuel : Nat) {base : YCall} (hb : YOk P base) : ∀ d, YOk P (yfun P gds ok fuel base d)
  | 0 => by intro g args h K hx; cases g <;> exact hx.elim
  | d + 1 => by
    intro F args h K hx H hr
    have ih := yfun_sound (gds := gds) hm hok fuel hb d
    cases F with
    | yield l => exact yround_sound hm ih hx hr
    | method n => exact hx.elim
    | methodOf t n => exact hx.elim
    | via t n f => exact hx.elim
    | func f =>
      simp only [yfun] at hx
      rcases bif2' hx with ⟨hmem, hx⟩ | ⟨_, hx⟩
      · have hfn : fnOk P f = true := List.all_eq_true.1 hok f (memN_iff.1 hmem)
        unfold fnOk at hfn
        show ICalls P f args H _
        split at hx
        · rename_i fn h1
          simp only [h1] at hfn
          split at hx
          · rename_i c h2
            simp only [h2, Bool.and_eq_true, Bool.not_eq_true'] at hfn
            obtain ⟨hlen, hx⟩ := bifF hx
            have hF : funcOk P f fn c args.length := ⟨h1, h2, hfn.1.1, hfn.1.2, hfn.2, Nat.le_of_ble_eq_true hlen⟩
            split at hx
            · rename_i e he
              have hrep : RepE (envOf 0 args) e := by
                intro t
                rw [xenv_rep args 0 .nil e he t]
                by_cases h : t < args.length
                · rw [if_pos (by omega)]
                · rw [if_neg (by omega), lk_envOf, if_pos (Nat.zero_le _), Nat.sub_zero, List.getElem?_eq_none (by omega)]; rfl
              refine icalls_of_iw hF (IW.mono ((ycode_sound (nt := fn.ntmps) (ro := none) (rf := true) (fun _ => rfl) hm ih fuel).1 c _ H h (envOf 0 args) e hfn.1.2 hrep hr hx) fun x env' H' hq => ?_)
              obtain ⟨e', h', g1, g2, hk⟩ := hq
              have res : yres P fn.results.toList e' h' K → resV P fn.results.toList env' H' fun v => ∃ v' h', IEnd.ret v = .ret v' ∧ RepH H' h' ∧ K v' h' := by
                intro hk
                unfold yres at hk
                split at hk
                · rename_i vs hvs
                  exact xres_sound g1 g2 _ _ _ hvs _ ⟨_, h', rfl, g2, hk⟩
                · exact hk.elim
              cases x with
              | normal => exact res hk
              | ret => exact res hk
              | exit id => exact hk.elim
              | panic v => exact hk.elim
            · exact hx.elim
          · exact hx.elim
        · exact hx.elim
      · exact hb _ _ _ _ hx H hr
where
  bif2' {b : Bool} {X Y : Prop} (h : bif b then X else Y) : (b = true ∧ X) ∨ (b = false ∧ Y) := by cases b with | true => exact .inl ⟨rfl, h⟩ | false => exact .inr ⟨rfl, h⟩

end

/-- A call without arguments, as reckoned. -/
theorem icalls_xtrue {P : Program} {f : FuncId} {ok : List FuncId} {fuel d : Nat} (hm : P.follows .mixedOrders = true) (hok : ok.all (fnOk P) = true) (hx : xtrue P ok fuel d f = true) : ICalls P f [] [] (fun e _ => e = .ret (.bool true)) := by
  unfold xtrue at hx
  split at hx
  · rename_i h' hh
    obtain ⟨H', _, hc⟩ := xfun_sound hm hok fuel d _ _ _ _ _ hh [] ⟨rfl, fun i => by simp [Tr.get]⟩
    exact ICalls.mono (show ICalls P f [] [] _ from hc) fun r H' h => h.1
  · cases hx

theorem yfun_use {P : Program} {gds : FuncId → Guide} {ok : List FuncId} {fuel d : Nat} {bs : YCall} {f : FuncId} {args : List Value} {h : XHeap} {H : IHeap} {K : Value → XHeap → Prop} (hm : P.follows .mixedOrders = true) (hok : ok.all (fnOk P) = true) (hb : YOk P bs) (hr : RepH H h)
    (hx : yfun P gds ok fuel bs d (.func f) args h K) : ICalls P f args H (fun e H' => ∃ v h', e = .ret v ∧ RepH H' h' ∧ K v h') :=
  yfun_sound (gds := gds) hm hok fuel hb d _ _ _ _ hx _ hr

end Ide

/- A contract in every heap that has those of its objects that are used. -/
set_option linter.unusedVariables false
set_option linter.unusedSimpArgs false
namespace Ide
open Go Go.RowKit
variable [Pol]

mutual
theorem ren_relp {ρ : Nat → Nat} {p : Nat → Bool} {L L' : LMap} (hL : ∀ i, p i = true → L' i = L (ρ i)) : ∀ (v v' : Value), VRel L (renV ρ v) v' → idV p v = true → VRel L' v v'
  | .bool b, v', h, _ => by simp only [renV] at h; cases h; exact .bool b
  | .int k m, v', h, _ => by simp only [renV] at h; cases h; exact .int k m
  | .string s, v', h, _ => by simp only [renV] at h; cases h; exact .str s
  | .nilFunc, v', h, _ => by simp only [renV] at h; cases h; exact .nilFunc
  | .nilIface, v', h, _ => by simp only [renV] at h; cases h; exact .nilIface
  | .chan c, v', h, _ => by
    simp only [renV] at h
    cases c with
    | none => exact .any v'
    | some c => cases h
  | .float .., v', h, _ => by simp only [renV] at h; cases h
  | .complex .., v', h, _ => by simp only [renV] at h; cases h
  | .pointer none, v', h, _ => by simp only [renV, renA] at h; cases h; exact .ptrNil
  | .pointer (some ⟨i, o, s⟩), v', h, hi => by
    simp only [renV, renA] at h
    cases h with
    | ptr h => exact .ptr ((hL i hi).trans h)
  | .slice none a b, v', h, _ => by simp only [renV, renA] at h; cases h; exact .sliceNil
  | .slice (some ⟨i, o, s⟩) a b, v', h, hi => by
    simp only [renV, renA] at h
    cases h with
    | sliceE hq => exact .sliceE hq
    | slice h hn hm hx ho hb => exact .slice ((hL i hi).trans h) hn hm hx ho hb
  | .map none, v', h, _ => by simp only [renV, renR] at h; cases h; exact .mapNil
  | .map (some i), v', h, hi => by
    simp only [renV, renR] at h
    cases h with
    | map h => exact .map ((hL i hi).trans h)
  | .iface t v, v', h, hi => by
    simp only [renV] at h
    simp only [idV] at hi
    cases h with
    | iface h => exact .iface (ren_relp hL v _ h hi)
  | .agg ⟨l⟩, v', h, hi => by
    simp only [renV, renV.go] at h
    simp only [idV, idV.go] at hi
    cases h with
    | agg h => exact .agg (ren_relsp hL l _ h hi)
  | .tuple ⟨l⟩, v', h, hi => by
    simp only [renV, renV.go] at h
    simp only [idV, idV.go] at hi
    cases h with
    | tuple h => exact .tuple (ren_relsp hL l _ h hi)
  | .func (.func f) ⟨a⟩ ⟨c⟩, v', h, hi => by
    simp only [renV, renV.go, renF] at h
    simp only [idV, idV.go, idF, Bool.true_and, Bool.and_eq_true] at hi
    cases h with
    | func h1 h2 => exact .func (ren_relsp hL a _ h1 hi.1) (ren_relsp hL c _ h2 hi.2)
  | .func (.yield i) ⟨a⟩ ⟨c⟩, v', h, hi => by
    simp only [renV, renV.go, renF] at h
    simp only [idV, idV.go, idF, Bool.and_eq_true] at hi
    generalize ha : renV.goL ρ a = a1 at h
    generalize hc : renV.goL ρ c = c1 at h
    cases h with
    | yield h =>
      cases a with
      | cons x a => simp [renV.goL] at ha
      | nil =>
        cases c with
        | cons x c => simp [renV.goL] at hc
        | nil => exact .yield ((hL i hi.1.1).trans h)
  | .func (.method m) ⟨a⟩ ⟨c⟩, v', h, hi => by simp only [renV, renV.go, renF] at h; cases h
  | .func (.methodOf t m) ⟨a⟩ ⟨c⟩, v', h, hi => by simp only [renV, renV.go, renF] at h; cases h
  | .func (.via t p f q) ⟨a⟩ ⟨c⟩, v', h, hi => by simp only [renV, renV.go, renF] at h; cases h
theorem ren_relsp {ρ : Nat → Nat} {p : Nat → Bool} {L L' : LMap} (hL : ∀ i, p i = true → L' i = L (ρ i)) : ∀ (l l' : List Value), VsRel L (renV.goL ρ l) l' → idV.goL p l = true → VsRel L' l l'
  | [], l', h, _ => by simp only [renV.goL] at h; cases h; exact .nil
  | v :: l, l', h, hi => by
    simp only [renV.goL] at h
    simp only [idV.goL, Bool.and_eq_true] at hi
    cases h with
    | cons h t => exact .cons (ren_relp hL v _ h hi.1) (ren_relsp hL l _ t hi.2)
 end

/-- A call that hands back a plain value and leaves its own objects as they were: so in every heap that has those of the objects that are used. -/
theorem ICalls.frameU {P : Program} {f : FuncId} {args : List Value} {Hc H : IHeap} {v : Value} (ρ : Nat → Nat) (use : Nat → Bool) (hv : ∀ (L L' : LMap) (v' : Value), VRel L v v' → VRel L' v v')
    (h : ICalls P f args Hc (fun e H' => e = .ret v ∧ ∀ (i : Nat) (o : IObj), Hc[i]? = some o → o.own = true → H'[i]? = some o))
    (hp : Hc.all plainO = true) (hi : idV.goL (fun i => Nat.blt i Hc.length && use i) args = true) (hH : ∀ i, i < Hc.length → use i = true → H[ρ i]? = Hc[i]?) (hinj : ∀ i j, i < Hc.length → j < Hc.length → use i = true → use j = true → ρ i = ρ j → i = j) :
    ICalls P f (renV.goL ρ args) H (fun e H' => e = .ret v ∧ H' = H) := by
  refine ⟨h.1, fun β w args' S ha => ?_⟩
  let βc : Emb := { w0 := β.w0, loc := fun i => if i < Hc.length ∧ use i = true then β.loc (ρ i) else none, held := fun _ => False }
  have hloc : ∀ i, i < Hc.length ∧ use i = true → βc.loc i = β.loc (ρ i) := fun i hi => if_pos hi
  have hlt : ∀ {i l}, βc.loc i = some l → i < Hc.length ∧ use i = true := by
    intro i l h
    by_cases e : i < Hc.length ∧ use i = true
    · exact e
    · have : βc.loc i = none := if_neg e
      rw [this] at h; cases h
  have hplain : ∀ {i o}, Hc[i]? = some o → plainO o = true := fun h => List.all_eq_true.1 hp _ (List.mem_of_getElem? h)
  have Sc : Sim βc Hc w := {
    below := S.below
    dom := fun id l hl => (hlt hl).1
    held := fun id h => h.elim
    blk := fun id l hl => S.blk (ρ id) l ((hloc id (hlt hl)).symm.trans hl)
    obj := fun id l o hl ho => plain_rel (hplain ho) (S.obj (ρ id) l o ((hloc id (hlt hl)).symm.trans hl) ((hH id (hlt hl).1 (hlt hl).2).trans ho))
    inj := fun i j l l' o o' hl hl' ho ho' hown hown' hb => hinj i j (hlt hl).1 (hlt hl').1 (hlt hl).2 (hlt hl').2 (S.inj (ρ i) (ρ j) l l' o o' ((hloc i (hlt hl)).symm.trans hl) ((hloc j (hlt hl')).symm.trans hl') ((hH i (hlt hl).1 (hlt hl).2).trans ho) ((hH j (hlt hl').1 (hlt hl').2).trans ho') hown hown' hb) }
  have hac : VsRel βc.loc args args'.toList := ren_relsp (p := fun i => Nat.blt i Hc.length && use i) (fun i hi => hloc i (by simp only [Bool.and_eq_true, Nat.blt_eq] at hi; exact hi)) args _ ha hi
  refine (h.2 βc w args' Sc hac).mono fun e w' hA => ?_
  obtain ⟨β', H', St, S', hE⟩ := hA
  have hkeep : ∀ id l o, β.loc id = some l → H[id]? = some o → o.own = true → ORel β.loc β.w0 w' l o := by
    intro id l o hl ho hown
    have hO := S.obj id l o hl ho
    by_cases him : ∃ i, (i < Hc.length ∧ use i = true) ∧ ρ i = id
    · obtain ⟨i, hi, rfl⟩ := him
      have hc : Hc[i]? = some o := (hH i hi.1 hi.2).symm.trans ho
      have hlc : βc.loc i = some l := (hloc i hi).trans hl
      have hun : H'[i]? = some o := by
        match e, hE with
        | .returned v', ⟨u, _, hu⟩ => exact hu.2 i o hc hown
        | .panicked chain, ⟨u, _, _, _, hu⟩ => cases hu.1
      have hO' := S'.obj i l o (St.le.2 i l hlc) hun
      have ew : β'.w0 = β.w0 := St.le.1.1
      rw [ew] at hO'
      exact plain_rel (hplain hc) hO'
    · refine hO.keep fun _ => St.frame l.block (S.blk id l hl) fun i li hli hb => ?_
      have hi := hlt hli
      have hli' : β.loc (ρ i) = some li := (hloc i hi).symm.trans hli
      have hoi : H[ρ i]? = Hc[i]? := hH i hi.1 hi.2
      have hget : Hc[i]? = some (Hc[i]'hi.1) := List.getElem?_eq_getElem hi.1
      have hpl := hplain hget
      have hO2 := S.obj (ρ i) li _ hli' (hoi.trans hget)
      have hbl := hO.block_lt hown
      generalize (Hc[i]'hi.1) = oi at hget hpl hO2
      match oi, hpl, hget, hO2 with
      | .cells cs true, _, hget, _ => exact him ⟨i, hi, S.inj (ρ i) id li l _ o hli' hl (hoi.trans hget) ho rfl hown hb⟩
      | .cells cs false, _, _, ⟨_, h1, _⟩ => rw [hb] at h1; exact absurd h1 (Nat.not_lt.2 hbl.2)
      | .map es c, _, hget, _ => exact him ⟨i, hi, S.inj (ρ i) id li l _ o hli' hl (hoi.trans hget) ho rfl hown hb⟩
  refine ⟨β, H, ⟨Emb.le.refl _, St.size, fun id l hl => .inl ⟨id, l, hl, rfl⟩, fun k hk hn => St.frame k hk fun i li hli => hn (ρ i) li ((hloc i (hlt hli)).symm.trans hli)⟩, ?_, ?_⟩
  · have hb := S'.below
    rw [St.le.1.1] at hb
    exact {
      below := hb
      dom := S.dom
      held := S.held
      blk := fun id l hl => Nat.lt_of_lt_of_le (S.blk id l hl) St.size
      obj := fun id l o hl ho => by
        cases hown : o.own with
        | true => exact hkeep id l o hl ho hown
        | false => exact (S.obj id l o hl ho).keep fun hh => by rw [hown] at hh; cases hh
      inj := S.inj }
  · match e, hE with
    | .returned v', ⟨u, hu, he⟩ =>
      have e1 := he.1
      injection e1 with e1
      subst e1
      exact ⟨u, hv _ _ _ hu, rfl, rfl⟩
    | .panicked chain, ⟨u, _, _, _, hu⟩ => cases hu.1

mutual
theorem renV_ground (ρ : Nat → Nat) : ∀ (v : Value), ground v = true → renV ρ v = v
  | .bool _, _ => rfl
  | .int .., _ => rfl
  | .string _, _ => rfl
  | .pointer none, _ => rfl
  | .pointer (some _), h => by simp [ground] at h
  | .slice none a b, _ => rfl
  | .slice (some _) _ _, h => by simp [ground] at h
  | .map none, _ => rfl
  | .map (some _), h => by simp [ground] at h
  | .nilFunc, _ => rfl
  | .nilIface, _ => rfl
  | .iface t v, h => by simp only [renV]; rw [renV_ground ρ v (by simpa [ground] using h)]
  | .agg ⟨l⟩, h => by simp only [renV, renV.go]; rw [renVs_ground ρ l (by simpa [ground, ground.groundA] using h)]
  | .float .., h => by simp [ground] at h
  | .complex .., h => by simp [ground] at h
  | .chan _, h => by simp [ground] at h
  | .func .., h => by simp [ground] at h
  | .tuple _, h => by simp [ground] at h
theorem renVs_ground (ρ : Nat → Nat) : ∀ (l : List Value), ground.groundL l = true → renV.goL ρ l = l
  | [], _ => rfl
  | v :: l, h => by
    have h' : ground v = true ∧ ground.groundL l = true := by simpa [ground.groundL] using h
    simp only [renV.goL, renV_ground ρ v h'.1, renVs_ground ρ l h'.2]
 end

mutual
theorem idV_ground (p : Nat → Bool) : ∀ (v : Value), ground v = true → idV p v = true
  | .bool _, _ => rfl
  | .int .., _ => rfl
  | .string _, _ => rfl
  | .pointer none, _ => rfl
  | .pointer (some _), h => by simp [ground] at h
  | .slice none a b, _ => rfl
  | .slice (some _) _ _, h => by simp [ground] at h
  | .map none, _ => rfl
  | .map (some _), h => by simp [ground] at h
  | .nilFunc, _ => rfl
  | .nilIface, _ => rfl
  | .iface t v, h => by simp only [idV]; exact idV_ground p v (by simpa [ground] using h)
  | .agg ⟨l⟩, h => by simp only [idV, idV.go]; exact idVs_ground p l (by simpa [ground, ground.groundA] using h)
  | .float .., h => by simp [ground] at h
  | .complex .., h => by simp [ground] at h
  | .chan _, h => by simp [ground] at h
  | .func .., h => by simp [ground] at h
  | .tuple _, h => by simp [ground] at h
theorem idVs_ground (p : Nat → Bool) : ∀ (l : List Value), ground.groundL l = true → idV.goL p l = true
  | [], _ => rfl
  | v :: l, h => by
    have h' : ground v = true ∧ ground.groundL l = true := by simpa [ground.groundL] using h
    simp only [idV.goL, idV_ground p v h'.1, idVs_ground p l h'.2, Bool.and_self]
 end

end Ide

/- Code with loops of few rounds, over variables. -/
set_option linter.unusedVariables false
set_option linter.unusedSimpArgs false
namespace Ide
open Go Go.RowKit
variable [Pol]

/-- As sx; loops are run round by round. -/
def sxu (P : Program) (hs : List Nat) (sc : SCall) : Nat → Code → (IExit → Env → IHeap → Prop) → Env → IHeap → Prop
  | 0, _, _, _, _ => False
  | n + 1, c, Q, env, H =>
    match c with
    | .skip => Q .normal env H
    | .region _ ops false => srun P hs sc ops.toList ops.toList env H (Q .normal) (fun v => Q (.panic v) [])
    | .region _ ops true => srunD P hs sc ops.toList (befores ops.toList []) (canon ops.toList) env H [] (Q .normal) (fun v => Q (.panic v) [])
    | .seq a b => sxu P hs sc n a (thn (fun env H => sxu P hs sc n b Q env H) Q) env H
    | .cond c a b =>
      (match iev env c with
      | .bool t => bcase t (sxu P hs sc n a Q env H) (sxu P hs sc n b Q env H)
      | _ => False)
    | .block id a => sxu P hs sc n a (inB id Q) env H
    | .loop a => sxu P hs sc n a (thn (fun env H => sxu P hs sc n (.loop a) Q env H) Q) env H
    | .exit id => Q (.exit id) env H
    | .scope a => sxu P hs sc n a Q env H
    | .label _ => Q .normal env H
    | .ret => Q .ret env H
    | _ => False

theorem sxu_sound {P : Program} {hs : List Nat} {sc : SCall} {nt : Nat} {ro : Option Nat} {rf : Bool} (hm : P.follows .mixedOrders = true) (hsc : SOk P sc) : ∀ (n : Nat),
    (∀ (c : Code) (Q : IExit → Env → IHeap → Prop) (env : Env) (H : IHeap), codeOk P nt rf c = true → sxu P hs sc n c Q env H → IW ro P nt c Q env H) ∧
    (∀ (c : Code) (Q : IExit → Env → IHeap → Prop) (env : Env) (H : IHeap), codeOk P nt rf c = true → sxu P hs sc n (.loop c) Q env H → LW ro P nt c Q env H)
  | 0 => ⟨(fun c Q env H _ h => h.elim), (fun c Q env H _ h => h.elim)⟩
  | n + 1 => by
    obtain ⟨ihA, ihB⟩ := sxu_sound (nt := nt) (ro := ro) (rf := rf) hm hsc n
    have B : ∀ (c : Code) (Q : IExit → Env → IHeap → Prop) (env : Env) (H : IHeap), codeOk P nt rf c = true → sxu P hs sc (n + 1) (.loop c) Q env H → LW ro P nt c Q env H := by
      intro c Q env H hok h
      simp only [sxu] at h
      refine loop_step0 (IW.mono (ihA c _ env H hok h) fun e env' H' hq => ?_)
      cases e with
      | normal => exact ihB c Q env' H' hok hq
      | exit id => exact hq
      | ret => exact hq
      | panic v => exact hq
    refine ⟨?_, B⟩
    intro c Q env H hok h
    cases c with
    | skip => intro n0 β w a S hT hM; exact wpIn_skip ⟨β, H, env, Step.refl _ _, S, hT, hM, h⟩
    | region id ops draws =>
      cases draws with
      | false => exact region_sound hok (srun_sound hsc _ _ _ h)
      | true => exact draw_sound hm hok (srunD_sound hsc _ _ _ _ h)
    | seq x y =>
      simp only [codeOk, Bool.and_eq_true] at hok
      simp only [sxu] at h
      refine seq_of (IW.mono (ihA x _ env H hok.1 h) fun e env' H' hq => ?_)
      cases e with
      | normal => exact ihA y _ _ _ hok.2 hq
      | exit id => exact hq
      | ret => exact hq
      | panic v => exact hq
    | cond c x y =>
      simp only [codeOk, Bool.and_eq_true] at hok
      simp only [sxu] at h
      split at h
      · rename_i t ht
        refine cond_of hok.1.1 ht ?_
        unfold bcase at h
        cases t with
        | true => exact ihA x _ _ _ hok.1.2 h
        | false => exact ihA y _ _ _ hok.2 h
      · exact h.elim
    | block id x => exact block_of (ihA x _ env H hok h)
    | loop x => exact loop_of0 (B x Q env H hok h)
    | scope x => exact scope_of (ihA x _ env H hok h)
    | exit id => intro n0 β w a S hT hM; exact wpIn_exit ⟨β, H, env, Step.refl _ _, S, hT, hM, h⟩
    | label l => intro n0 β w a S hT hM; exact wpIn_label ⟨β, H, env, Step.refl _ _, S, hT, hM, h⟩
    | ret => intro n0 β w a S hT hM; exact wpIn_ret ⟨β, H, env, Step.refl _ _, S, hT, hM, h⟩
    | _ => exact h.elim

/-- A whole function, run so. -/
theorem icalls_sxu {P : Program} {hs : List Nat} {sc : SCall} {f : FuncId} {args : List Value} {H : IHeap} {R : IEnd → IHeap → Prop} (n : Nat) (hm : P.follows .mixedOrders = true) (hsc : SOk P sc) (hok : fnOkN P f args.length = true) (hc : codeOk P (ntOf P f) true (bodyOf P f) = true)
    (h : sxu P hs sc n (bodyOf P f) (bodyS P (ressOf P f) R) (envOf 0 args) H) : ICalls P f args H R := by
  have h1 := (sxu_sound (nt := ntOf P f) (ro := none) (rf := true) hm hsc n).1 _ _ _ _ hc h
  simp only [fnOkN, Bool.and_eq_true] at hok
  obtain ⟨hok, hn⟩ := hok
  unfold fnOk at hok
  unfold ntOf ressOf bodyOf at h1
  unfold ntOf at hn
  split at hok
  · rename_i fn h2
    simp only [h2] at h1 hn
    split at hok
    · rename_i c h3
      simp only [h3] at h1
      simp only [Bool.and_eq_true, Bool.not_eq_true'] at hok
      exact icalls_of_iw ⟨h2, h3, hok.1.1, hok.1.2, hok.2, Nat.le_of_ble_eq_true hn⟩ (IW.mono h1 bodyS_sound)
    · cases hok
  · cases hok

end Ide
