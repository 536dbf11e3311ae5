/- A contract over few objects, which makes and writes memory, in every heap that has the objects. -/
import Derived.Test.YtjjnlbceoajllaaGreatIdeZj
set_option linter.unusedVariables false
set_option linter.unusedSimpArgs false
namespace Ide
open Go Go.RowKit

mutual
theorem idV_in (n : Nat) : ∀ v : Value, idV (fun i => Nat.blt i n) v = inV n v
  | .pointer a => by cases a <;> rfl
  | .slice a _ _ => by cases a <;> rfl
  | .map r => by cases r <;> rfl
  | .func f ⟨a⟩ ⟨c⟩ => by simp only [idV, inV, idV.go, inV.go]; rw [idVs_in n a, idVs_in n c]; cases f <;> rfl
  | .iface _ v => by simp only [idV, inV]; exact idV_in n v
  | .agg ⟨l⟩ => by simp only [idV, inV, idV.go, inV.go]; exact idVs_in n l
  | .tuple ⟨l⟩ => by simp only [idV, inV, idV.go, inV.go]; exact idVs_in n l
  | .bool _ => rfl
  | .int .. => rfl
  | .string _ => rfl
  | .nilFunc => rfl
  | .nilIface => rfl
  | .chan _ => rfl
  | .float .. => rfl
  | .complex .. => rfl
theorem idVs_in (n : Nat) : ∀ l : List Value, idV.goL (fun i => Nat.blt i n) l = inV.goL n l
  | [] => rfl
  | v :: l => by simp only [idV.goL, inV.goL]; rw [idV_in n v, idVs_in n l]
 end

/-- An object as the caller knows it. -/
def Back (n : Nat) (ρ : Nat → Nat) (o o' : IObj) : Prop := (plainO o = true ∧ o' = o) ∨ (idO (fun i => Nat.blt i n) o = true ∧ o' = renO ρ o)

theorem Back.rel {n : Nat} {ρ : Nat → Nat} {L L' : LMap} (hL : ∀ i, i < n → L' i = L (ρ i)) {w0 w : World} {l : Ide.Loc} {o o' : IObj} (h : Back n ρ o o') (hr : ORel L w0 w l o') : ORel L' w0 w l o := by
  rcases h with ⟨h, rfl⟩ | ⟨h, rfl⟩
  · exact plain_rel h hr
  · have hl : ∀ l : List Value, (renV.goL ρ l).length = l.length := by intro l; induction l with | nil => rfl | cons v l ih => simp [renV.goL, ih]
    match o, h, hr with
    | .cells cs true, ho, ⟨h0, h1, arr, T, vs, h2, h3, h3', h4, h5⟩ =>
      have ho : idV.goL (fun i => Nat.blt i n) cs = true := ho
      rw [idVs_in] at ho
      exact ⟨h0, h1, arr, T, vs, h2, h3, by rw [hl] at h3'; exact h3', ren_rels hL _ _ h4 ho, h5⟩
    | .cells cs false, ho, ⟨h0, h1, vs, h2, h3⟩ =>
      have ho : idV.goL (fun i => Nat.blt i n) cs = true := ho
      rw [idVs_in] at ho
      exact ⟨h0, h1, vs, ren_rels hL _ _ h2 ho, h3⟩
    | .map es clock, ho, ⟨h1, es', h2, h3⟩ =>
      refine ⟨h1, es', h2, ?_⟩
      have go : ∀ (a b : List MapEntry), EsRel L (renEs ρ a) b → (a.all fun e => idV (fun i => Nat.blt i n) e.val) = true → EsRel L' a b := by
        intro a
        induction a with
        | nil => intro b h _; cases b <;> exact h
        | cons x a ih =>
          intro b h hi
          cases b with
          | nil => exact h
          | cons y b =>
            obtain ⟨h1, h2, h3, h4, h5⟩ := h
            simp only [List.all_cons, Bool.and_eq_true] at hi
            have hi1 := hi.1
            rw [idV_in] at hi1
            exact ⟨h1, h2, h3, ren_rel hL _ _ h4 hi1, ih b h5 hi.2⟩
      exact go _ _ h3 (by simpa [idO] using ho)

theorem Back.own {n : Nat} {ρ : Nat → Nat} {o o' : IObj} (h : Back n ρ o o') : o.own = o'.own := by
  rcases h with ⟨_, rfl⟩ | ⟨_, rfl⟩
  · rfl
  · cases o <;> rfl

/-- An object that is not own, of those that a call may be given, is old memory. -/
theorem Back.ro {n : Nat} {ρ : Nat → Nat} {L : LMap} {w0 w : World} {l : Ide.Loc} {o o' : IObj} (h : Back n ρ o o') (hr : ORel L w0 w l o') (hown : o'.own = false) : l.block < w0.heap.size := by
  rcases h with ⟨h, rfl⟩ | ⟨h, rfl⟩
  · match o', h, hown, hr with
    | .cells cs false, _, _, hr => exact hr.2.1
  · match o, h, hown, hr with
    | .cells cs false, _, _, hr => exact hr.2.1

def rho (rs : List Nat) (i : Nat) : Nat := rs.getD i 0
def sigR (rs : List Nat) (n N : Nat) (ks : List Nat) (i : Nat) : Nat := bif Nat.blt i n then rho rs i else N + posN i ks

/-- The caller's heap behind a call. rs: the ids of the objects that the call was given; ks: the ids of those of the new objects that are kept. -/
structure Glue (rs : List Nat) (Hc H Hc' : IHeap) (ks : List Nat) (H2 : IHeap) : Prop where
  len : H2.length = H.length + ks.length
  nodup : ks.Nodup
  ge : ∀ k, k ∈ ks → Hc.length ≤ k
  inn : ∀ (i j : Nat) (o : IObj), rs[i]? = some j → H2[j]? = some o → ∃ o', Hc'[i]? = some o' ∧ ObjTo (kept Hc.length ks) (sigR rs Hc.length H.length ks) o' o
  out : ∀ (j : Nat), j < H.length → memN j rs = false → H2[j]? = H[j]?
  new : ∀ (j k : Nat) (o : IObj), ks[j]? = some k → H2[H.length + j]? = some o → ∃ o', Hc'[k]? = some o' ∧ ObjTo (kept Hc.length ks) (sigR rs Hc.length H.length ks) o' o

theorem ICalls.reframe {P : Program} {f : FuncId} {args : List Value} {Hc H : IHeap} {R R2 : IEnd → IHeap → Prop} (rs : List Nat) (h : ICalls P f args Hc R) (hrs : rs.length = Hc.length) (hnd : rs.Nodup)
    (ha : inV.goL Hc.length args = true) (hH : ∀ i o, Hc[i]? = some o → ∃ o', H[rho rs i]? = some o' ∧ Back Hc.length (rho rs) o o')
    (hR : ∀ e Hc', R e Hc' → ∃ v ks H2, e = .ret v ∧ idV (kept Hc.length ks) v = true ∧ Glue rs Hc H Hc' ks H2 ∧ R2 (.ret (renV (sigR rs Hc.length H.length ks) v)) H2) :
    ICalls P f (renV.goL (rho rs) args) H R2 := by
  refine ⟨h.1, fun β w args' S hargs => ?_⟩
  let βc : Emb := { w0 := β.w0, loc := fun i => if i < Hc.length then β.loc (rho rs i) else none, held := fun i => i < Hc.length ∧ β.held (rho rs i) }
  have hloc : ∀ i, i < Hc.length → βc.loc i = β.loc (rho rs i) := fun i hi => if_pos hi
  have hlt : ∀ {i l}, βc.loc i = some l → i < Hc.length := by
    intro i l h
    by_cases e : i < Hc.length
    · exact e
    · have : βc.loc i = none := if_neg e
      rw [this] at h; cases h
  have hrho : ∀ {i j}, rs[i]? = some j → rho rs i = j := fun {i j} h => by unfold rho; rw [List.getD_eq_getElem?_getD, h]; rfl
  have hget : ∀ {i}, i < Hc.length → rs[i]? = some (rho rs i) := fun {i} hi => by unfold rho; rw [List.getD_eq_getElem?_getD, List.getElem?_eq_getElem (by omega)]; rfl
  have hinj : ∀ {i j}, i < Hc.length → j < Hc.length → rho rs i = rho rs j → i = j := fun hi hj e => nod_inj hnd (hget hi) (by rw [hget hj, e])
  have back : ∀ {i o}, Hc[i]? = some o → ∃ o', H[rho rs i]? = some o' ∧ Back Hc.length (rho rs) o o' := fun h => hH _ _ h
  have Sc : Sim βc Hc w := {
    below := S.below
    dom := fun id l hl => hlt hl
    held := fun id hh => ⟨hh.1, by rw [hloc id hh.1]; exact (S.held _ hh.2).2⟩
    blk := fun id l hl => S.blk _ l ((hloc id (hlt hl)).symm.trans hl)
    obj := fun id l o hl ho => by
      obtain ⟨o', h1, h2⟩ := back ho
      exact h2.rel hloc (S.obj _ l o' ((hloc id (hlt hl)).symm.trans hl) h1)
    inj := fun i j l l' o o' hl hl' ho ho' hown hown' hb => by
      obtain ⟨p, p1, p2⟩ := back ho
      obtain ⟨q, q1, q2⟩ := back ho'
      exact hinj (hlt hl) (hlt hl') (S.inj _ _ l l' p q ((hloc i (hlt hl)).symm.trans hl) ((hloc j (hlt hl')).symm.trans hl') p1 q1 (p2.own ▸ hown) (q2.own ▸ hown') hb) }
  have hac : VsRel βc.loc args args'.toList := ren_rels hloc args _ hargs ha
  refine (h.2 βc w args' Sc hac).mono fun e w' hA => ?_
  obtain ⟨β', H', St, S', hE⟩ := hA
  have main : ∀ v v', VRel β'.loc v v' → R (.ret v) H' → After β w R2 (.returned v') w' := by
    intro v v' hv hr
    obtain ⟨u, ks, H2, hu, hids, G, hR2⟩ := hR _ _ hr
    injection hu with hu
    subst hu
    let loc2 : LMap := fun j => if j < H.length then (bif memN j rs then β'.loc (posN j rs) else β.loc j) else (ks[j - H.length]?).bind β'.loc
    have lowIn : ∀ {j}, j < H.length → memN j rs = true → loc2 j = β'.loc (posN j rs) := fun h1 h2 => by show (if _ then _ else _) = _; rw [if_pos h1, h2]; rfl
    have lowOut : ∀ {j}, j < H.length → memN j rs = false → loc2 j = β.loc j := fun h1 h2 => by show (if _ then _ else _) = _; rw [if_pos h1, h2]; rfl
    have high : ∀ {j}, ¬ j < H.length → loc2 j = (ks[j - H.length]?).bind β'.loc := fun h1 => if_neg h1
    have pos : ∀ {j}, memN j rs = true → posN j rs < Hc.length ∧ rho rs (posN j rs) = j := fun {j} h => by
      have h1 := posN_get (memN_iff.1 h)
      have h2 := (List.getElem?_eq_some_iff.1 h1).1
      exact ⟨by omega, hrho h1⟩
    have rlt : ∀ {i}, i < Hc.length → rho rs i < H.length := fun {i} hi => by
      obtain ⟨o', h1, _⟩ := back (List.getElem?_eq_getElem hi)
      exact (List.getElem?_eq_some_iff.1 h1).1
    have rmem : ∀ {i}, i < Hc.length → memN (rho rs i) rs = true := fun {i} hi => memN_iff.2 (List.mem_of_getElem? (hget hi))
    have rpos : ∀ {i}, i < Hc.length → posN (rho rs i) rs = i := fun {i} hi => by
      have h1 := pos (rmem hi)
      exact hinj h1.1 hi h1.2
    have hsig : ∀ i l, kept Hc.length ks i = true → β'.loc i = some l → loc2 (sigR rs Hc.length H.length ks i) = some l := by
      intro i l hi hl
      unfold sigR
      cases hb : Nat.blt i Hc.length with
      | true =>
        have hi' : i < Hc.length := by simpa [Nat.blt_eq] using hb
        simp only [cond_true]
        rw [lowIn (rlt hi') (rmem hi'), rpos hi']
        exact hl
      | false =>
        simp only [cond_false]
        rw [high (by omega), Nat.add_sub_cancel_left]
        unfold kept at hi
        rw [hb, Bool.false_or, memN_iff] at hi
        rw [posN_get hi]
        exact hl
    -- where an id of the new embedding comes from
    have src : ∀ {j l o}, loc2 j = some l → H2[j]? = some o →
        (j < H.length ∧ memN j rs = false ∧ β.loc j = some l ∧ H[j]? = some o) ∨
        (∃ i o', β'.loc i = some l ∧ H'[i]? = some o' ∧ ObjTo (kept Hc.length ks) (sigR rs Hc.length H.length ks) o' o ∧ ((j < H.length ∧ i < Hc.length ∧ rho rs i = j) ∨ (H.length ≤ j ∧ Hc.length ≤ i ∧ ks[j - H.length]? = some i))) := by
      intro j l o hl ho
      by_cases hj : j < H.length
      · cases hm : memN j rs with
        | true =>
          rw [lowIn hj hm] at hl
          have hp := pos hm
          obtain ⟨o', h1, h2⟩ := G.inn (posN j rs) j o (posN_get (memN_iff.1 hm)) ho
          exact .inr ⟨_, o', hl, h1, h2, .inl ⟨hj, hp.1, hp.2⟩⟩
        | false =>
          rw [lowOut hj hm] at hl
          exact .inl ⟨hj, rfl, hl, by rw [← G.out j hj hm]; exact ho⟩
      · rw [high hj] at hl
        obtain ⟨k, h1, h2⟩ := Option.bind_eq_some_iff.1 hl
        obtain ⟨o', h3, h4⟩ := G.new (j - H.length) k o h1 (by rw [show H.length + (j - H.length) = j by omega]; exact ho)
        exact .inr ⟨k, o', h2, h3, h4, .inr ⟨by omega, G.ge k (List.mem_of_getElem? h1), h1⟩⟩
    -- an own object of the caller that the call was not given lies apart
    have apart : ∀ {j l o i l'}, j < H.length → memN j rs = false → β.loc j = some l → H[j]? = some o → o.own = true → βc.loc i = some l' → l'.block ≠ l.block := by
      intro j l o i l' hj hm hl ho hown hl' hb
      have hi := hlt hl'
      have hl'' : β.loc (rho rs i) = some l' := (hloc i hi).symm.trans hl'
      obtain ⟨o', h1, h2⟩ := back (List.getElem?_eq_getElem hi)
      cases ho' : o'.own with
      | true =>
        have := S.inj (rho rs i) j l' l o' o hl'' hl h1 ho ho' hown hb
        rw [← this, rmem hi] at hm
        cases hm
      | false =>
        have h3 := h2.ro (S.obj _ l' o' hl'' h1) ho'
        have h4 := ((S.obj j l o hl ho).block_lt hown).2
        omega
    have hnewb : ∀ {i l}, β'.loc i = some l → (∃ id0 l0, β.loc id0 = some l0 ∧ l0.block = l.block) ∨ w.heap.size ≤ l.block := by
      intro i l hl
      rcases St.newb i l hl with ⟨i0, l0, h1, h2⟩ | h
      · exact .inl ⟨rho rs i0, l0, (hloc i0 (hlt h1)).symm.trans h1, h2⟩
      · exact .inr h
    have ew : β'.w0 = β.w0 := St.le.1.1
    refine ⟨{ w0 := β.w0, loc := loc2, held := β.held }, H2, ?_, ?_, ?_⟩
    · exact {
        le := ⟨⟨rfl, rfl⟩, fun id l hl => by
          have hd := S.dom id l hl
          cases hm : memN id rs with
          | true =>
            have hp := pos hm
            show loc2 id = some l
            rw [lowIn hd hm]
            exact St.le.2 _ l (by rw [hloc _ hp.1, hp.2]; exact hl)
          | false => show loc2 id = some l; rw [lowOut hd hm]; exact hl⟩
        size := St.size
        newb := fun j l hl => by
          by_cases hj : j < H.length
          · cases hm : memN j rs with
            | true => exact hnewb (i := posN j rs) (by rw [← lowIn hj hm]; exact hl)
            | false => exact .inl ⟨j, l, by rw [← lowOut hj hm]; exact hl, rfl⟩
          · have hl : loc2 j = some l := hl
            rw [high hj] at hl
            obtain ⟨k, _, h2⟩ := Option.bind_eq_some_iff.1 hl
            exact hnewb h2
        frame := fun k hk hn => St.frame k hk fun i li hli => hn (rho rs i) li ((hloc i (hlt hli)).symm.trans hli) }
    · exact {
        below := by have := S'.below; rw [ew] at this; exact this
        dom := fun j l hl => by
          rw [G.len]
          by_cases hj : j < H.length
          · omega
          · have hl : loc2 j = some l := hl
            rw [high hj] at hl
            obtain ⟨k, h1, _⟩ := Option.bind_eq_some_iff.1 hl
            have := (List.getElem?_eq_some_iff.1 h1).1
            omega
        held := fun id hh => by
          have h1 := S.held id hh
          refine ⟨by rw [G.len]; omega, ?_⟩
          show loc2 id = none
          cases hm : memN id rs with
          | true =>
            have hp := pos hm
            rw [lowIn h1.1 hm]
            have : βc.held (posN id rs) := ⟨hp.1, by rw [hp.2]; exact hh⟩
            exact (S'.held _ (by rw [St.le.1.2]; exact this)).2
          | false => rw [lowOut h1.1 hm]; exact h1.2
        blk := fun j l hl => by
          by_cases hj : j < H.length
          · cases hm : memN j rs with
            | true => exact S'.blk (posN j rs) l (by rw [← lowIn hj hm]; exact hl)
            | false => exact Nat.lt_of_lt_of_le (S.blk j l (by rw [← lowOut hj hm]; exact hl)) St.size
          · have hl : loc2 j = some l := hl
            rw [high hj] at hl
            obtain ⟨k, _, h2⟩ := Option.bind_eq_some_iff.1 hl
            exact S'.blk k l h2
        obj := fun j l o hl ho => by
          rcases src hl ho with ⟨h1, h2, h3, h4⟩ | ⟨i, o', h1, h2, h3, _⟩
          · have hO := S.obj j l o h3 h4
            cases hown : o.own with
            | false =>
              have key : ORel β.loc β.w0 w' l o := hO.keep fun hh => by rw [hown] at hh; cases hh
              refine ORel.mono (L := β.loc) (fun id l hl => ?_) key
              have hd := S.dom id l hl
              cases hm : memN id rs with
              | true =>
                have hp := pos hm
                show loc2 id = some l
                rw [lowIn hd hm]
                exact St.le.2 _ l (by rw [hloc _ hp.1, hp.2]; exact hl)
              | false => show loc2 id = some l; rw [lowOut hd hm]; exact hl
            | true =>
              have key : ORel β.loc β.w0 w' l o := hO.keep fun _ => St.frame l.block (S.blk j l h3) fun i li hli => apart h1 h2 h3 h4 hown hli
              refine ORel.mono (L := β.loc) (fun id l hl => ?_) key
              have hd := S.dom id l hl
              cases hm : memN id rs with
              | true =>
                have hp := pos hm
                show loc2 id = some l
                rw [lowIn hd hm]
                exact St.le.2 _ l (by rw [hloc _ hp.1, hp.2]; exact hl)
              | false => show loc2 id = some l; rw [lowOut hd hm]; exact hl
          · have := S'.obj i l o' h1 h2
            rw [ew] at this
            exact h3.rel hsig this
        inj := fun a b l l' o o' hl hl' ho ho' hown hown' hb => by
          have mixed : ∀ {j l o i l'}, j < H.length → memN j rs = false → β.loc j = some l → H[j]? = some o → o.own = true → β'.loc i = some l' → l'.block ≠ l.block := by
            intro j l o i l' hj hm hl ho hown hl' hb
            rcases St.newb i l' hl' with ⟨i0, l0, h1, h2⟩ | h
            · exact apart hj hm hl ho hown h1 (h2.trans hb)
            · have := S.blk j l hl; omega
          rcases src hl ho with ⟨a1, a2, a3, a4⟩ | ⟨i, oi, a1, a2, a3, a4⟩ <;> rcases src hl' ho' with ⟨b1, b2, b3, b4⟩ | ⟨j, oj, b1, b2, b3, b4⟩
          · exact S.inj a b l l' o o' a3 b3 a4 b4 hown hown' hb
          · exact absurd hb.symm (mixed a1 a2 a3 a4 hown b1)
          · exact absurd hb (mixed b1 b2 b3 b4 hown' a1)
          · have hij := S'.inj i j l l' oi oj a1 b1 a2 b2 (a3.own hown) (b3.own hown') hb
            subst hij
            rcases a4 with ⟨p1, p2, p3⟩ | ⟨p1, p2, p3⟩ <;> rcases b4 with ⟨q1, q2, q3⟩ | ⟨q1, q2, q3⟩
            · rw [← p3, ← q3]
            · omega
            · omega
            · have := nod_inj G.nodup p3 q3; omega }
    · exact ⟨_, rel_ren hsig hv hids, hR2⟩
  match e, hE with
  | .returned v', ⟨v, hv, hr⟩ => exact main v v' hv hr
  | .panicked chain, ⟨v, v', _, _, hr⟩ =>
    obtain ⟨u, ks, H2, hu, _⟩ := hR _ _ hr
    cases hu

end Ide
