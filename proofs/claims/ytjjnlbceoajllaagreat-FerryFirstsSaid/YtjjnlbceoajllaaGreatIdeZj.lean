/- Ids are given anew behind a round of a loop. -/
import Derived.Test.YtjjnlbceoajllaaGreatIdeZi
set_option linter.unusedVariables false
set_option linter.unusedSimpArgs false
namespace Ide
open Go Go.RowKit

def idA (p : Nat → Bool) : Option Addr → Bool
  | some ⟨i, _, _⟩ => p i
  | none => true
def idR (p : Nat → Bool) : Option Nat → Bool
  | some i => p i
  | none => true
def idF (p : Nat → Bool) : Fn → Bool
  | .yield i => p i
  | _ => true

/-- All ids of a value are among some. -/
def idV (p : Nat → Bool) : Value → Bool
  | .pointer a => idA p a
  | .slice a _ _ => idA p a
  | .map r => idR p r
  | .func f a c => idF p f && go a && go c
  | .iface _ v => idV p v
  | .agg cs => go cs
  | .tuple cs => go cs
  | _ => true
  where
  go : Array Value → Bool
    | ⟨l⟩ => goL l
  goL : List Value → Bool
    | [] => true
    | v :: l => idV p v && goL l

mutual
theorem rel_ren {p : Nat → Bool} {σ : Nat → Nat} {L L' : LMap} (hL : ∀ i l, p i = true → L i = some l → L' (σ i) = some l) : ∀ {v v' : Value}, VRel L v v' → idV p v = true → VRel L' (renV σ v) v'
  | _, _, .any v, _ => .any v
  | _, _, .bool b, _ => .bool b
  | _, _, .int k n, _ => .int k n
  | _, _, .str s, _ => .str s
  | _, _, .ptrNil, _ => .ptrNil
  | _, _, .ptr h, hi => .ptr (hL _ _ hi h)
  | _, _, .sliceNil, _ => .sliceNil
  | _, _, .slice h hn hm hx ho hb, hi => .slice (hL _ _ hi h) hn hm hx ho hb
  | _, _, .mapNil, _ => .mapNil
  | _, _, .map h, hi => .map (hL _ _ hi h)
  | _, _, .func h1 h2, hi => by
    simp only [idV, idV.go, idF, Bool.true_and, Bool.and_eq_true] at hi
    exact .func (rels_ren hL h1 hi.1) (rels_ren hL h2 hi.2)
  | _, _, .yield h, hi => by
    simp only [idV, idV.go, idF, idV.goL, Bool.and_true] at hi
    exact .yield (hL _ _ hi h)
  | _, _, .nilFunc, _ => .nilFunc
  | _, _, .nilIface, _ => .nilIface
  | _, _, .iface h, hi => .iface (rel_ren hL h (by simpa only [idV] using hi))
  | _, _, .agg h, hi => .agg (rels_ren hL h (by simpa only [idV, idV.go] using hi))
  | _, _, .tuple h, hi => .tuple (rels_ren hL h (by simpa only [idV, idV.go] using hi))
theorem rels_ren {p : Nat → Bool} {σ : Nat → Nat} {L L' : LMap} (hL : ∀ i l, p i = true → L i = some l → L' (σ i) = some l) : ∀ {a b : List Value}, VsRel L a b → idV.goL p a = true → VsRel L' (renV.goL σ a) b
  | _, _, .nil, _ => .nil
  | _, _, .cons h t, hi => by
    simp only [idV.goL, Bool.and_eq_true] at hi
    exact .cons (rel_ren hL h hi.1) (rels_ren hL t hi.2)
 end

def renEs (σ : Nat → Nat) (es : List MapEntry) : List MapEntry := es.map fun e => { e with val := renV σ e.val }

def renO (σ : Nat → Nat) : IObj → IObj
  | .cells cs rw => .cells (renV.goL σ cs) rw
  | .map es c => .map (renEs σ es) c
  | o => o
def idO (p : Nat → Bool) : IObj → Bool
  | .cells cs _ => idV.goL p cs
  | .map es _ => es.all fun e => idV p e.val
  | _ => false

/-- An object as it is known under new ids. -/
inductive ObjTo (p : Nat → Bool) (σ : Nat → Nat) : IObj → IObj → Prop
  | dead (o : IObj) : ObjTo p σ o .dead
  | plain {o : IObj} (h : plainO o = true) : ObjTo p σ o o
  | ren {o o' : IObj} (h : idO p o = true) (e : o' = renO σ o) : ObjTo p σ o o'

theorem ObjTo.own {p : Nat → Bool} {σ : Nat → Nat} {o o' : IObj} (h : ObjTo p σ o o') (hown : o'.own = true) : o.own = true := by
  cases h with
  | dead => cases hown
  | plain => exact hown
  | ren h e => subst e; cases o <;> exact hown

theorem ObjTo.rel {p : Nat → Bool} {σ : Nat → Nat} {L L' : LMap} (hL : ∀ i l, p i = true → L i = some l → L' (σ i) = some l) {w0 w : World} {l : Ide.Loc} {o o' : IObj} (h : ObjTo p σ o o') (hr : ORel L w0 w l o) : ORel L' w0 w l o' := by
  cases h with
  | dead => trivial
  | plain h => exact plain_rel h hr
  | ren h e =>
    subst e
    match o, h, hr with
    | .cells cs true, ho, ⟨h0, h1, arr, T, vs, h2, h3, h3', h4, h5⟩ =>
      have hl : ∀ l : List Value, (renV.goL σ l).length = l.length := by intro l; induction l with | nil => rfl | cons v l ih => simp [renV.goL, ih]
      exact ⟨h0, h1, arr, T, vs, h2, h3, by rw [hl]; exact h3', rels_ren hL h4 ho, h5⟩
    | .cells cs false, ho, ⟨h0, h1, vs, h2, h3⟩ => exact ⟨h0, h1, vs, rels_ren hL h2 ho, h3⟩
    | .map es clock, ho, ⟨h1, es', h2, h3⟩ =>
      refine ⟨h1, es', h2, ?_⟩
      have go : ∀ (a b : List MapEntry), EsRel L a b → (a.all fun e => idV p e.val) = true → EsRel L' (renEs σ a) b := by
        intro a
        induction a with
        | nil => intro b h _; cases b <;> exact h
        | cons x a ih =>
          intro b h hi
          cases b with
          | nil => exact h
          | cons y b =>
            obtain ⟨h1, h2, h3, h4, h5⟩ := h
            simp only [List.all_cons, Bool.and_eq_true] at hi
            exact ⟨h1, h2, h3, rel_ren hL h4 hi.1, ih b h5 hi.2⟩
      exact go _ _ h3 (by simpa [idO] using ho)

def posN (i : Nat) : List Nat → Nat
  | [] => 0
  | x :: l => bif Nat.beq x i then 0 else posN i l + 1
theorem posN_get {i : Nat} : ∀ {l : List Nat}, i ∈ l → l[posN i l]? = some i
  | [], h => by cases h
  | x :: l, h => by
    simp only [posN]
    cases hb : Nat.beq x i with
    | true => simp [Nat.eq_of_beq_eq_true hb]
    | false =>
      have hne : x ≠ i := fun e => by subst e; simp at hb
      rcases List.mem_cons.1 h with h | h
      · exact absurd h.symm hne
      · simpa using posN_get h
theorem nod_inj : ∀ {l : List Nat}, l.Nodup → ∀ {i j k : Nat}, l[i]? = some k → l[j]? = some k → i = j
  | [], _, i, j, k, h, _ => by simp at h
  | x :: l, hn, 0, 0, k, _, _ => rfl
  | x :: l, hn, 0, j + 1, k, h, h' => by
    simp at h h'
    subst h
    exact absurd (List.mem_of_getElem? h') (List.nodup_cons.1 hn).1
  | x :: l, hn, i + 1, 0, k, h, h' => by
    simp at h h'
    subst h'
    exact absurd (List.mem_of_getElem? h) (List.nodup_cons.1 hn).1
  | x :: l, hn, i + 1, j + 1, k, h, h' => by
    exact congrArg (· + 1) (nod_inj (List.nodup_cons.1 hn).2 (i := i) (j := j) (k := k) (by simpa using h) (by simpa using h'))

/-- The new id of an id: the first m stay, of the others some are kept. -/
def sig (m : Nat) (ks : List Nat) (i : Nat) : Nat := bif Nat.blt i m then i else m + posN i ks
def kept (m : Nat) (ks : List Nat) (i : Nat) : Bool := Nat.blt i m || memN i ks

theorem memN_iff {t : Nat} : ∀ {l : List Nat}, memN t l = true ↔ t ∈ l
  | [] => by simp [memN]
  | x :: l => by
    simp only [memN]
    cases h : Nat.beq x t with
    | true => simp [Nat.eq_of_beq_eq_true h]
    | false =>
      have hne : t ≠ x := fun e => by subst e; simp at h
      have ih := memN_iff (t := t) (l := l)
      simp only [cond_false]
      rw [ih]
      simp [hne]

structure Recast (m : Nat) (ks : List Nat) (env : Env) (H : IHeap) (env2 : Env) (H2 : IHeap) : Prop where
  len : H2.length = m + ks.length
  nodup : ks.Nodup
  ge : ∀ k, k ∈ ks → m ≤ k
  env : ∀ t, lk env2 t = anyV ∨ (lk env2 t = renV (sig m ks) (lk env t) ∧ idV (kept m ks) (lk env t) = true)
  low : ∀ j o, j < m → H2[j]? = some o → ∃ o', H[j]? = some o' ∧ ObjTo (kept m ks) (sig m ks) o' o
  high : ∀ j k o, ks[j]? = some k → H2[m + j]? = some o → ∃ o', H[k]? = some o' ∧ ObjTo (kept m ks) (sig m ks) o' o

/-- Where things lie, by new ids. -/
def recLoc (m : Nat) (ks : List Nat) (L : LMap) : LMap := fun j => if j < m then L j else (ks[j - m]?).bind L

theorem recLoc_src {m : Nat} {ks : List Nat} {L : LMap} {j : Nat} {l : Ide.Loc} (h : recLoc m ks L j = some l) : (j < m ∧ L j = some l) ∨ (m ≤ j ∧ ∃ k, ks[j - m]? = some k ∧ L k = some l) := by
  unfold recLoc at h
  split at h
  · exact .inl ⟨‹_›, h⟩
  · obtain ⟨k, h1, h2⟩ := Option.bind_eq_some_iff.1 h
    exact .inr ⟨by omega, k, h1, h2⟩

theorem recLoc_sig {m : Nat} {ks : List Nat} {L : LMap} {i : Nat} {l : Ide.Loc} (hi : kept m ks i = true) (h : L i = some l) : recLoc m ks L (sig m ks i) = some l := by
  unfold sig recLoc
  cases hb : Nat.blt i m with
  | true =>
    simp only [cond_true]
    rw [if_pos (by simpa [Nat.blt_eq] using hb)]
    exact h
  | false =>
    simp only [cond_false]
    rw [if_neg (by omega), Nat.add_sub_cancel_left]
    unfold kept at hi
    rw [hb, Bool.false_or, memN_iff] at hi
    have h1 := posN_get hi
    rw [h1]
    exact h

theorem Recast.sim {m : Nat} {ks : List Nat} {env env2 : Env} {H H2 : IHeap} (R : Recast m ks env H env2 H2) {β : Emb} {w : World} (S : Sim β H w) (hh : ∀ id, β.held id → id < m) :
    Sim { w0 := β.w0, loc := recLoc m ks β.loc, held := β.held } H2 w := by
  have nod : ∀ i j k, ks[i]? = some k → ks[j]? = some k → i = j := fun i j k h1 h2 => nod_inj R.nodup h1 h2
  have src : ∀ {j l o}, recLoc m ks β.loc j = some l → H2[j]? = some o → ∃ i o', β.loc i = some l ∧ H[i]? = some o' ∧ ObjTo (kept m ks) (sig m ks) o' o ∧ ((j < m ∧ i = j) ∨ (m ≤ j ∧ ks[j - m]? = some i)) := by
    intro j l o hl ho
    rcases recLoc_src hl with ⟨h1, h2⟩ | ⟨h1, k, h2, h3⟩
    · obtain ⟨o', h4, h5⟩ := R.low j o h1 ho
      exact ⟨j, o', h2, h4, h5, .inl ⟨h1, rfl⟩⟩
    · obtain ⟨o', h4, h5⟩ := R.high (j - m) k o h2 (by rw [show m + (j - m) = j by omega]; exact ho)
      exact ⟨k, o', h3, h4, h5, .inr ⟨h1, h2⟩⟩
  exact {
    below := S.below
    dom := fun j l hl => by
      rw [R.len]
      rcases recLoc_src hl with ⟨h1, _⟩ | ⟨h1, k, h2, _⟩
      · omega
      · have := (List.getElem?_eq_some_iff.1 h2).1; omega
    held := fun id h => by
      have h1 := hh id h
      refine ⟨by rw [R.len]; omega, ?_⟩
      show recLoc m ks β.loc id = none
      unfold recLoc
      rw [if_pos h1]
      exact (S.held id h).2
    blk := fun j l hl => by
      rcases recLoc_src hl with ⟨_, h2⟩ | ⟨_, k, _, h3⟩
      · exact S.blk _ _ h2
      · exact S.blk _ _ h3
    obj := fun j l o hl ho => by
      obtain ⟨i, o', h1, h2, h3, _⟩ := src hl ho
      exact h3.rel (fun i l hi h => recLoc_sig hi h) (S.obj i l o' h1 h2)
    inj := fun i j l l' o o' hl hl' ho ho' hown hown' hb => by
      obtain ⟨a, oa, a1, a2, a3, a4⟩ := src hl ho
      obtain ⟨b, ob, b1, b2, b3, b4⟩ := src hl' ho'
      have hab := S.inj a b l l' oa ob a1 b1 a2 b2 (a3.own hown) (b3.own hown') hb
      subst hab
      rcases a4 with ⟨p1, p2⟩ | ⟨p1, p2⟩ <;> rcases b4 with ⟨q1, q2⟩ | ⟨q1, q2⟩
      · omega
      · have := R.ge a (List.mem_of_getElem? q2); omega
      · have := R.ge a (List.mem_of_getElem? p2); omega
      · have := nod _ _ _ p2 q2; omega }

/-- A loop at the head of a round, of which only the first m ids are known outside. -/
def LWR (ro : Option Nat) (P : Program) (nt m : Nat) (c : Code) (Q : IExit → Env → IHeap → Prop) (env : Env) (H : IHeap) : Prop :=
  ∀ (βe : Emb) (we : World), (∀ id l, βe.loc id = some l → id < m) → (∀ id, βe.held id → id < m) →
    ∀ (n0 : Nat) (β : Emb) (w : World) (a : Act), Step βe we β w → Sim β H w → TRel β.loc nt env a.tmps → Mk n0 β w a.defers →
      ∀ (b : Frame) (k : List Item) (cs : List Frame), b.roundOf = (Fz ro).round → (Fz ro).fn b.fn → (Fz ro).room (cs.length + 1 + 0) →
        ∃ e a' w', QR n0 nt βe we Q e a' w' ∧ ArrivesIn (Machine.fenced P (Fz ro)) P (lone (b.atR a (.code c :: .inLoop c :: k)) cs w) b k cs e a' w'

theorem LWR.lw {ro : Option Nat} {P : Program} {nt : Nat} {c : Code} {Q : IExit → Env → IHeap → Prop} {env : Env} {H : IHeap} {m : Nat} (hm : m = H.length) (h : LWR ro P nt m c Q env H) : LW ro P nt c Q env H := by
  subst hm
  intro n0 β w a S hT hM
  exact h β w S.dom (fun id hh => (S.held id hh).1) n0 β w a (Step.refl _ _) S hT hM

theorem recast_step {m : Nat} {ks : List Nat} {env env2 : Env} {H H2 : IHeap} (R : Recast m ks env H env2 H2) {βe β : Emb} {we w : World} (hd : ∀ id l, βe.loc id = some l → id < m) (St : Step βe we β w) : Step βe we { w0 := β.w0, loc := recLoc m ks β.loc, held := β.held } w where
  le := ⟨St.le.1, fun id l hl => by
    have h1 := St.le.2 id l hl
    show recLoc m ks β.loc id = some l
    unfold recLoc
    rw [if_pos (hd id l hl)]
    exact h1⟩
  size := St.size
  newb := fun j l hl => by
    rcases recLoc_src hl with ⟨_, h2⟩ | ⟨_, k, _, h3⟩
    · exact St.newb _ _ h2
    · exact St.newb _ _ h3
  frame := St.frame

theorem Recast.trel {m : Nat} {ks : List Nat} {env env2 : Env} {H H2 : IHeap} (R : Recast m ks env H env2 H2) {L : LMap} {nt : Nat} {tm : Array Value} (hT : TRel L nt env tm) : TRel (recLoc m ks L) nt env2 tm :=
  ⟨hT.1, fun t ht => by
    rcases R.env t with e | ⟨e, hi⟩
    · rw [e]; exact .any _
    · rw [e]; exact rel_ren (fun i l hi h => recLoc_sig hi h) (hT.2 t ht) hi⟩

theorem recast_mk {m : Nat} {ks : List Nat} {β : Emb} {w : World} {n0 : Nat} {ds : List Deferred} (h : Mk n0 β w ds) : Mk n0 { w0 := β.w0, loc := recLoc m ks β.loc, held := β.held } w ds := by
  refine ⟨h.1, ?_⟩
  have go : ∀ ds : List Deferred, MkL n0 β w ds → MkL n0 { w0 := β.w0, loc := recLoc m ks β.loc, held := β.held } w ds := by
    intro ds
    induction ds with
    | nil => intro _; trivial
    | cons d ds ih =>
      rintro ⟨⟨r, h1, ⟨h2, h3, h4⟩, h5⟩, h6⟩
      refine ⟨⟨r, h1, ⟨h2, fun id l hl => ?_, h4⟩, h5⟩, ih h6⟩
      rcases recLoc_src hl with ⟨_, k2⟩ | ⟨_, k, _, k3⟩
      · exact h3 _ _ k2
      · exact h3 _ _ k3
  exact go _ h.2

/-- One round; behind it ids are given anew. -/
theorem lwr_step {ro : Option Nat} {P : Program} {nt m : Nat} {c : Code} {Q : IExit → Env → IHeap → Prop} {env : Env} {H : IHeap}
    (h : IW ro P nt c (thn (fun env' H' => ∃ ks env2 H2, Recast m ks env' H' env2 H2 ∧ LWR ro P nt m c Q env2 H2) (fun e env' H' => (∀ v, e ≠ .panic v) ∧ ∃ ks env2 H2, Recast m ks env' H' env2 H2 ∧ Q e env2 H2)) env H) : LWR ro P nt m c Q env H := by
  intro βe we hd hh n0 β w a St S hT hM b k cs hro hb hr
  obtain ⟨e, a₁, w₁, hq, harr⟩ := h n0 β w a S hT hM b (.inLoop c :: k) cs hro hb hr
  have heldOk : ∀ {β' : Emb}, Step βe we β' w₁ → ∀ id, β'.held id → id < m := fun St' id h => hh id (by have := St'.le.1.2; rw [← this]; exact h)
  cases e with
  | normal =>
    obtain ⟨β', H', env', St1, S', hT', hM', ks, env2, H2, R, hn⟩ := hq
    have St' := St.trans St1
    obtain ⟨e₂, a₂, w₂, hq₂, harr₂⟩ := hn βe we hd hh n0 _ w₁ a₁ (recast_step R hd St') (R.sim S' (heldOk St')) (R.trel hT') (recast_mk hM') b k cs hro hb hr
    exact ⟨e₂, a₂, w₂, hq₂, .of_steps (StepsIn.trans harr (.one (fenced_calm hb hr rfl) stepR_inLoop)) harr₂⟩
  | exit id =>
    obtain ⟨β', H', env', St1, S', hT', hM', _, ks, env2, H2, R, hn⟩ := hq
    have St' := St.trans St1
    exact ⟨.exit id, a₁, w₁, ⟨_, H2, env2, recast_step R hd St', R.sim S' (heldOk St'), R.trel hT', recast_mk hM', hn⟩, .pass (x := .inLoop c) rfl (fun _ _ => .inl (by simp)) harr⟩
  | goto l => exact hq.elim
  | ret =>
    obtain ⟨β', H', env', St1, S', hT', hM', _, ks, env2, H2, R, hn⟩ := hq
    have St' := St.trans St1
    exact ⟨.ret, a₁, w₁, ⟨_, H2, env2, recast_step R hd St', R.sim S' (heldOk St'), R.trel hT', recast_mk hM', hn⟩, .pass (x := .inLoop c) rfl (fun _ _ => .inl (by simp)) harr⟩
  | panic ch =>
    obtain ⟨β', H', env', v, v', _, _, _, _, _, _, hne, _⟩ := hq
    exact absurd rfl (hne v)
  | outgrown => exact hq.elim

/-- One round of a loop, laid open by the text. -/
theorem loop_sxr {P : Program} {hs : List Nat} {sc : SCall} {nt m : Nat} {ro : Option Nat} {rf : Bool} (hm : P.follows .mixedOrders = true) (hsc : SOk P sc) (l : List Nat) {L : Code} {Q : IExit → Env → IHeap → Prop} {env : Env} {H : IHeap}
    (hok : codeOk P nt rf L = true)
    (h : sx P hs sc L (thnk l (fun env' H' => ∃ ks env2 H2, Recast m ks env' H' env2 H2 ∧ LWR ro P nt m L Q env2 H2) (fun e env' H' => ∃ ks env2 H2, Recast m ks env' H' env2 H2 ∧ Q e env2 H2)) env H) : LWR ro P nt m L Q env H := by
  refine lwr_step (IW.kept l (fun env' H' => ∃ ks env2 H2, Recast m ks env' H' env2 H2 ∧ LWR ro P nt m L Q env2 H2) (fun env H h => h) (IW.mono (sx_sound (ro := ro) hm hsc L _ _ _ hok h) fun e env' H' hq => ?_))
  cases e with
  | normal => exact hq
  | exit id => exact ⟨(fun v h => by cases h), hq⟩
  | ret => exact ⟨(fun v h => by cases h), hq⟩
  | panic v => exact hq.elim

end Ide
