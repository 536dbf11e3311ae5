/- Slots: a function's own objects get small ids, whatever its caller's heap is; ids are given anew. -/
import Derived.Test.YtoikiogaiikheaaSndAR
set_option linter.unusedSectionVars false
set_option linter.unusedVariables false
set_option linter.unusedSimpArgs false
namespace Ide
open Go Go.RowKit

/-! ### the numbering -/
def freeAt : Nat → Nat → IHeap → Option Nat
  | 0, _, _ => none
  | _ + 1, _, [] => none
  | _ + 1, i, .free :: _ => some i
  | f + 1, i, _ :: r => freeAt f (i + 1) r

theorem freeAt_spec : ∀ (f i : Nat) (H : IHeap) (k : Nat), freeAt f i H = some k → i ≤ k ∧ H[k - i]? = some .free := by
  intro f
  induction f with
  | zero => intro i H k h; cases h
  | succ f ih =>
    intro i H k h
    cases H with
    | nil => cases h
    | cons o r =>
      have key : freeAt f (i + 1) r = some k → i ≤ k ∧ (o :: r)[k - i]? = some .free := fun h => by
        obtain ⟨h1, h2⟩ := ih (i + 1) r k h
        refine ⟨by omega, ?_⟩
        rw [show k - i = (k - (i + 1)) + 1 by omega]
        exact h2
      cases o with
      | free => simp only [freeAt] at h; cases h; simp
      | _ => exact key h

theorem freeAt_kill : ∀ (f p : Nat) (H : IHeap) (i : Nat) (cs : List Value), H[i]? = some (.cells cs true) → freeAt f p (H.set i .dead) = freeAt f p H := by
  intro f
  induction f with
  | zero => intro p H i cs h; rfl
  | succ f ih =>
    intro p H i cs h
    cases H with
    | nil => rfl
    | cons o r =>
      cases i with
      | zero =>
        simp at h
        subst h
        rfl
      | succ i =>
        have := ih (p + 1) r i cs (by simpa using h)
        cases o with
        | free => rfl
        | _ => exact this

instance slotPol : Pol where
  pos H := match freeAt 64 0 H with | some k => k | none => H.length
  ok H := by
    cases h : freeAt 64 0 H with
    | none => exact .inl rfl
    | some k => exact .inr (by simpa using (freeAt_spec 64 0 H k h).2)
  kill H i cs h := by
    simp only [freeAt_kill 64 0 H i cs h, List.length_set]

/-- A function's own objects, then its caller's. -/
def pad : Nat → List IObj → IHeap → IHeap
  | 0, _, b => b
  | n + 1, [], b => .free :: pad n [] b
  | n + 1, o :: l, b => o :: pad n l b

theorem pad_len : ∀ (n : Nat) (l : List IObj) (b : IHeap), (pad n l b).length = n + b.length
  | 0, _, b => by simp [pad]
  | n + 1, [], b => by simp [pad, pad_len n [] b]; omega
  | n + 1, o :: l, b => by simp [pad, pad_len n l b]; omega
theorem pad_low : ∀ (n : Nat) (l : List IObj) (b : IHeap) (i : Nat), i < n → (pad n l b)[i]? = some (l.getD i .free)
  | 0, _, b, i, h => by omega
  | n + 1, [], b, 0, h => rfl
  | n + 1, [], b, i + 1, h => by simpa [pad] using pad_low n [] b i (by omega)
  | n + 1, o :: l, b, 0, h => rfl
  | n + 1, o :: l, b, i + 1, h => by simpa [pad] using pad_low n l b i (by omega)
theorem pad_high : ∀ (n : Nat) (l : List IObj) (b : IHeap) (i : Nat), (pad n l b)[i + n]? = b[i]?
  | 0, _, b, i => rfl
  | n + 1, [], b, i => by rw [show i + (n + 1) = (i + n) + 1 by omega]; simpa [pad] using pad_high n [] b i
  | n + 1, o :: l, b, i => by rw [show i + (n + 1) = (i + n) + 1 by omega]; simpa [pad] using pad_high n l b i
theorem pad_get (l : List IObj) (b : IHeap) {i : Nat} (h : 64 ≤ i) : (pad 64 l b)[i]? = b[i - 64]? := by
  have := pad_high 64 l b (i - 64)
  rwa [show i - 64 + 64 = i by omega] at this
theorem pad_append : ∀ (n : Nat) (l : List IObj) (b c : IHeap), pad n l b ++ c = pad n l (b ++ c)
  | 0, _, b, c => rfl
  | n + 1, [], b, c => by simp [pad, pad_append n [] b c]
  | n + 1, o :: l, b, c => by simp [pad, pad_append n l b c]
theorem pad_set : ∀ (n : Nat) (l : List IObj) (b : IHeap) (i : Nat) (o : IObj), (pad n l b).set (i + n) o = pad n l (b.set i o)
  | 0, _, b, i, o => rfl
  | n + 1, [], b, i, o => by rw [show i + (n + 1) = (i + n) + 1 by omega]; simpa [pad] using pad_set n [] b i o
  | n + 1, x :: l, b, i, o => by rw [show i + (n + 1) = (i + n) + 1 by omega]; simpa [pad] using pad_set n l b i o

/-! ### ids given anew, or forgotten -/
def mvV (σ : Nat → Option Nat) : Value → Value
  | .pointer (some ⟨i, o, s⟩) => (match σ i with | some j => .pointer (some ⟨j, o, s⟩) | none => anyV)
  | .slice (some ⟨i, o, s⟩) n m => (match σ i with | some j => .slice (some ⟨j, o, s⟩) n m | none => anyV)
  | .map (some i) => (match σ i with | some j => .map (some j) | none => anyV)
  | .func (.yield i) a c => (match σ i with | some j => .func (.yield j) (go a) (go c) | none => anyV)
  | .func f a c => .func f (go a) (go c)
  | .iface t v => .iface t (mvV σ v)
  | .agg cs => .agg (go cs)
  | .tuple cs => .tuple (go cs)
  | v => v
  where
  go : Array Value → Array Value
    | ⟨l⟩ => ⟨goL l⟩
  goL : List Value → List Value
    | [] => []
    | v :: l => mvV σ v :: goL l


mutual
theorem VRel.mv {σ : Nat → Option Nat} {L L' : LMap} (hL : ∀ i j l, σ i = some j → L i = some l → L' j = some l) : ∀ {v v' : Value}, VRel L v v' → VRel L' (mvV σ v) v'
  | _, _, .any v => .any v
  | _, _, .bool b => .bool b
  | _, _, .int k n => .int k n
  | _, _, .str s => .str s
  | _, _, .ptrNil => .ptrNil
  | _, _, .ptr (id := i) h => by
    simp only [mvV]
    cases hs : σ i with
    | none => exact .any _
    | some j => exact .ptr (hL _ _ _ hs h)
  | _, _, .sliceNil => .sliceNil
  | _, _, .sliceE (id := i) hq => by
    simp only [mvV]
    cases hs : σ i with
    | none => exact .any _
    | some j => exact .sliceE hq
  | _, _, .slice (id := i) h hn hm hx ho hb => by
    simp only [mvV]
    cases hs : σ i with
    | none => exact .any _
    | some j => exact .slice (hL _ _ _ hs h) hn hm hx ho hb
  | _, _, .mapNil => .mapNil
  | _, _, .map (id := i) h => by
    simp only [mvV]
    cases hs : σ i with
    | none => exact .any _
    | some j => exact .map (hL _ _ _ hs h)
  | _, _, .func h1 h2 => by simp only [mvV, mvV.go]; exact .func (VsRel.mv hL h1) (VsRel.mv hL h2)
  | _, _, .yield (id := i) h => by
    simp only [mvV, mvV.go, mvV.goL]
    cases hs : σ i with
    | none => exact .any _
    | some j => exact .yield (hL _ _ _ hs h)
  | _, _, .nilFunc => .nilFunc
  | _, _, .nilIface => .nilIface
  | _, _, .iface h => .iface (VRel.mv hL h)
  | _, _, .agg h => by simp only [mvV, mvV.go]; exact .agg (VsRel.mv hL h)
  | _, _, .tuple h => by simp only [mvV, mvV.go]; exact .tuple (VsRel.mv hL h)
theorem VsRel.mv {σ : Nat → Option Nat} {L L' : LMap} (hL : ∀ i j l, σ i = some j → L i = some l → L' j = some l) : ∀ {a b : List Value}, VsRel L a b → VsRel L' (mvV.goL σ a) b
  | _, _, .nil => .nil
  | _, _, .cons h t => .cons (VRel.mv hL h) (VsRel.mv hL t)
 end

theorem mvL_len (σ : Nat → Option Nat) : ∀ l : List Value, (mvV.goL σ l).length = l.length
  | [] => rfl
  | v :: l => congrArg (· + 1) (mvL_len σ l)
theorem mvL_get (σ : Nat → Option Nat) : ∀ (l : List Value) (i : Nat), (mvV.goL σ l)[i]? = (l[i]?).map (mvV σ)
  | [], i => by simp [mvV.goL]
  | v :: l, 0 => rfl
  | v :: l, i + 1 => by simpa [mvV.goL] using mvL_get σ l i
theorem mvL_append (σ : Nat → Option Nat) : ∀ (a b : List Value), mvV.goL σ (a ++ b) = mvV.goL σ a ++ mvV.goL σ b
  | [], b => rfl
  | v :: a, b => by simp [mvV.goL, mvL_append σ a b]
theorem mvL_set (σ : Nat → Option Nat) : ∀ (l : List Value) (i : Nat) (v : Value), mvV.goL σ (l.set i v) = (mvV.goL σ l).set i (mvV σ v)
  | [], i, v => rfl
  | x :: l, 0, v => rfl
  | x :: l, i + 1, v => by simp [mvV.goL, mvL_set σ l i v]

mutual
theorem mvV_ground (σ : Nat → Option Nat) : ∀ (v : Value), ground v = true → mvV σ v = v
  | .bool _, _ => rfl
  | .int .., _ => rfl
  | .string _, _ => rfl
  | .pointer none, _ => rfl
  | .pointer (some _), h => by simp [ground] at h
  | .slice none _ _, _ => rfl
  | .slice (some _) _ _, h => by simp [ground] at h
  | .map none, _ => rfl
  | .map (some _), h => by simp [ground] at h
  | .nilFunc, _ => rfl
  | .nilIface, _ => rfl
  | .iface t v, h => by simp only [mvV]; rw [mvV_ground σ v (by simpa [ground] using h)]
  | .agg ⟨l⟩, h => by simp only [mvV, mvV.go]; rw [mvL_ground σ l (by simpa [ground, ground.groundA] using h)]
  | .float .., h => by simp [ground] at h
  | .complex .., h => by simp [ground] at h
  | .chan _, h => by simp [ground] at h
  | .func .., h => by simp [ground] at h
  | .tuple _, h => by simp [ground] at h
theorem mvL_ground (σ : Nat → Option Nat) : ∀ (l : List Value), ground.groundL l = true → mvV.goL σ l = l
  | [], _ => rfl
  | v :: l, h => by
    have h' : ground v = true ∧ ground.groundL l = true := by simpa [ground.groundL] using h
    show mvV σ v :: mvV.goL σ l = _
    rw [mvV_ground σ v h'.1, mvL_ground σ l h'.2]
 end

/-- Values all of whose ids are as wanted. -/
def allV (p : Nat → Prop) : Value → Prop
  | .pointer (some ⟨i, _, _⟩) => p i
  | .slice (some ⟨i, _, _⟩) _ _ => p i
  | .map (some i) => p i
  | .func (.yield i) a c => p i ∧ go a ∧ go c
  | .func _ a c => go a ∧ go c
  | .iface _ v => allV p v
  | .agg cs => go cs
  | .tuple cs => go cs
  | _ => True
  where
  go : Array Value → Prop
    | ⟨l⟩ => goL l
  goL : List Value → Prop
    | [] => True
    | v :: l => allV p v ∧ goL l

mutual
/-- Two givings, one behind the other, that come to the first ids again. -/
theorem mvV_back {σ τ : Nat → Option Nat} {p : Nat → Prop} (h : ∀ i, p i → ∃ j, σ i = some j ∧ τ j = some i) : ∀ (v : Value), allV p v → mvV τ (mvV σ v) = v
  | .bool _, _ => rfl
  | .int .., _ => rfl
  | .string _, _ => rfl
  | .pointer none, _ => rfl
  | .pointer (some ⟨i, o, s⟩), hp => by
    obtain ⟨j, h1, h2⟩ := h i hp
    simp only [mvV, h1, h2]
  | .slice none _ _, _ => rfl
  | .slice (some ⟨i, o, s⟩) n m, hp => by
    obtain ⟨j, h1, h2⟩ := h i hp
    simp only [mvV, h1, h2]
  | .map none, _ => rfl
  | .map (some i), hp => by
    obtain ⟨j, h1, h2⟩ := h i hp
    simp only [mvV, h1, h2]
  | .nilFunc, _ => rfl
  | .nilIface, _ => rfl
  | .iface t v, hp => by simp only [mvV]; rw [mvV_back h v hp]
  | .agg ⟨l⟩, hp => by simp only [mvV, mvV.go]; rw [mvL_back h l hp]
  | .tuple ⟨l⟩, hp => by simp only [mvV, mvV.go]; rw [mvL_back h l hp]
  | .float .., _ => rfl
  | .complex .., _ => rfl
  | .chan _, _ => rfl
  | .func (.yield i) ⟨a⟩ ⟨c⟩, hp => by
    obtain ⟨hp, ha, hc⟩ := hp
    obtain ⟨j, h1, h2⟩ := h i hp
    simp only [mvV, mvV.go, h1, h2]
    rw [mvL_back h a ha, mvL_back h c hc]
  | .func (.func f) ⟨a⟩ ⟨c⟩, hp => by simp only [mvV, mvV.go]; rw [mvL_back h a hp.1, mvL_back h c hp.2]
  | .func (.method m) ⟨a⟩ ⟨c⟩, hp => by simp only [mvV, mvV.go]; rw [mvL_back h a hp.1, mvL_back h c hp.2]
  | .func (.methodOf t m) ⟨a⟩ ⟨c⟩, hp => by simp only [mvV, mvV.go]; rw [mvL_back h a hp.1, mvL_back h c hp.2]
  | .func (.via t p f q) ⟨a⟩ ⟨c⟩, hp => by simp only [mvV, mvV.go]; rw [mvL_back h a hp.1, mvL_back h c hp.2]
theorem mvL_back {σ τ : Nat → Option Nat} {p : Nat → Prop} (h : ∀ i, p i → ∃ j, σ i = some j ∧ τ j = some i) : ∀ (l : List Value), allV.goL p l → mvV.goL τ (mvV.goL σ l) = l
  | [], _ => rfl
  | v :: l, hp => by
    show mvV τ (mvV σ v) :: mvV.goL τ (mvV.goL σ l) = _
    rw [mvV_back h v hp.1, mvL_back h l hp.2]
end

mutual
theorem allV_true : ∀ (v : Value), allV (fun _ => True) v
  | .bool _ => trivial
  | .int .. => trivial
  | .string _ => trivial
  | .pointer none => trivial
  | .pointer (some ⟨i, o, s⟩) => trivial
  | .slice none _ _ => trivial
  | .slice (some ⟨i, o, s⟩) n m => trivial
  | .map none => trivial
  | .map (some i) => trivial
  | .nilFunc => trivial
  | .nilIface => trivial
  | .iface t v => allV_true v
  | .agg ⟨l⟩ => allL_true l
  | .tuple ⟨l⟩ => allL_true l
  | .float .. => trivial
  | .complex .. => trivial
  | .chan _ => trivial
  | .func (.yield i) ⟨a⟩ ⟨c⟩ => ⟨trivial, allL_true a, allL_true c⟩
  | .func (.func f) ⟨a⟩ ⟨c⟩ => ⟨allL_true a, allL_true c⟩
  | .func (.method m) ⟨a⟩ ⟨c⟩ => ⟨allL_true a, allL_true c⟩
  | .func (.methodOf t m) ⟨a⟩ ⟨c⟩ => ⟨allL_true a, allL_true c⟩
  | .func (.via t p f q) ⟨a⟩ ⟨c⟩ => ⟨allL_true a, allL_true c⟩
theorem allL_true : ∀ (l : List Value), allV.goL (fun _ => True) l
  | [] => trivial
  | v :: l => ⟨allV_true v, allL_true l⟩
end

def mvEnv (σ : Nat → Option Nat) : Env → Env
  | [] => []
  | (t, v) :: e => (t, mvV σ v) :: mvEnv σ e
theorem lk_mvEnv (σ : Nat → Option Nat) : ∀ (e : Env) (t : Nat), lk (mvEnv σ e) t = mvV σ (lk e t)
  | [], t => rfl
  | (u, v) :: e, t => by
    have := lk_mvEnv σ e t
    simp only [mvEnv, lk]
    cases Nat.beq u t with
    | true => rfl
    | false => exact this

def mvEs (σ : Nat → Option Nat) (es : List MapEntry) : List MapEntry := es.map fun e => { e with val := mvV σ e.val }

def mvO (σ : Nat → Option Nat) : IObj → IObj
  | .cells cs rw => .cells (mvV.goL σ cs) rw
  | .map es c => .map (mvEs σ es) c
  | .loop st pend fn tm nt ps a b => .loop st pend fn (mvEnv σ tm) nt ps a b
  | .mapIter (some i) s n c => (match σ i with | some j => .mapIter (some j) s n c | none => .dead)
  | o => o

theorem mvO_own {σ : Nat → Option Nat} {o : IObj} (h : (mvO σ o).own = true) : o.own = true := by
  cases o with
  | cells cs rw => exact h
  | map es c => rfl
  | loop => rfl
  | mapIter m s n c => rfl
  | dead => cases h
  | free => cases h
theorem mvO_free {σ : Nat → Option Nat} {o : IObj} (h : mvO σ o = .free) : o = .free := by
  cases o with
  | free => rfl
  | mapIter m s n c =>
    cases m with
    | none => cases h
    | some i =>
      simp only [mvO] at h
      split at h <;> cases h
  | _ => cases h

theorem EsRel.mv {σ : Nat → Option Nat} {L L' : LMap} (hL : ∀ i j l, σ i = some j → L i = some l → L' j = some l) : ∀ {a b : List MapEntry}, EsRel L a b → EsRel L' (mvEs σ a) b
  | [], [], h => h
  | _ :: _, _ :: _, ⟨h1, h2, h3, h4, h5⟩ => ⟨h1, h2, h3, h4.mv hL, h5.mv hL⟩
  | [], _ :: _, h => h.elim
  | _ :: _, [], h => h.elim

theorem TRel.mv {σ : Nat → Option Nat} {L L' : LMap} (hL : ∀ i j l, σ i = some j → L i = some l → L' j = some l) {nt : Nat} {e : Env} {tm : Array Value} (h : TRel L nt e tm) : TRel L' nt (mvEnv σ e) tm :=
  ⟨h.1, fun t ht => by rw [lk_mvEnv]; exact (h.2 t ht).mv hL⟩

theorem ORel.mv {σ : Nat → Option Nat} {L L' : LMap} (hL : ∀ i j l, σ i = some j → L i = some l → L' j = some l) {w0 w : World} {l : Loc} {o : IObj} (h : ORel L w0 w l o) : ORel L' w0 w l (mvO σ o) := by
  match o, h with
  | .cells cs true, ⟨h0, h1, arr, T, vs, h2, h3, h3', h4, h5⟩ => exact ⟨h0, h1, arr, T, vs, h2, h3, by rw [mvL_len]; exact h3', h4.mv hL, h5⟩
  | .cells cs false, ⟨h0, h1, vs, h2, h3⟩ => exact ⟨h0, h1, vs, h2.mv hL, h3⟩
  | .dead, _ => trivial
  | .map es clock, ⟨h1, es', h2, h3⟩ => exact ⟨h1, es', h2, h3.mv hL⟩
  | .loop .., ⟨h1, tm', df, fn', h2, h3⟩ => exact ⟨h1, tm', df, fn', h2.mv hL, h3⟩
  | .mapIter none .., ⟨h1, h2, m', h3, h4⟩ => exact ⟨h1, h2, m', h3, h4⟩
  | .mapIter (some id) .., ⟨h1, h2, m', h3, lm, h4, h5⟩ =>
    simp only [mvO]
    cases hs : σ id with
    | none => trivial
    | some j => exact ⟨h1, h2, m', h3, lm, hL _ _ _ hs h4, h5⟩

theorem mvO_back {σ τ : Nat → Option Nat} (h : ∀ i, ∃ j, σ i = some j ∧ τ j = some i) (o : IObj) : mvO τ (mvO σ o) = o := by
  cases o with
  | cells cs rw => simp only [mvO]; rw [mvL_back (p := fun _ => True) (fun i _ => h i) cs (allL_true cs)]
  | map es c =>
    simp only [mvO]
    congr 1
    unfold mvEs
    rw [List.map_map]
    refine (List.map_congr_left fun e he => ?_).trans (List.map_id _)
    show { e with val := mvV τ (mvV σ e.val) } = e
    rw [mvV_back (p := fun _ => True) (fun i _ => h i) _ (allV_true _)]
  | loop st pend fn tm nt ps a b =>
    simp only [mvO]
    congr 1
    induction tm with
    | nil => rfl
    | cons x tm ih => obtain ⟨t, v⟩ := x; simp only [mvEnv]; rw [ih, mvV_back (p := fun _ => True) (fun i _ => h i) _ (allV_true _)]
  | mapIter m s n c =>
    cases m with
    | none => rfl
    | some i =>
      obtain ⟨j, h1, h2⟩ := h i
      simp only [mvO, h1, h2]
  | dead => rfl
  | free => rfl

theorem mvO_plain (σ : Nat → Option Nat) {o : IObj} (h : plainO o = true) : mvO σ o = o := by
  match o, h with
  | .free, _ => rfl
  | .cells cs rw, h => simp only [mvO]; rw [mvL_ground σ cs h]
  | .map es c, h =>
    simp only [mvO]
    congr 1
    unfold mvEs
    refine (List.map_congr_left fun e he => ?_).trans (List.map_id _)
    show { e with val := mvV σ e.val } = e
    rw [mvV_ground σ e.val (List.all_eq_true.1 h e he)]

/-! ### less is told -/
theorem Less.of_eq {v u : Value} (h : u = v) : Less v u := h ▸ Less.refl v
theorem Less.nil (id off q : Nat) (hq : q % 2 = 0 := by rfl) : Less (.slice none 0 0) (.slice (some ⟨id, off, some q⟩) 0 0) := by
  intro L v' h
  cases h
  exact .sliceE hq
theorem LessL.refl : ∀ l : List Value, LessL l l
  | [] => trivial
  | v :: l => ⟨Less.refl v, LessL.refl l⟩
theorem LessL.len : ∀ {a b : List Value}, LessL a b → b.length = a.length
  | [], [], _ => rfl
  | _ :: _, _ :: _, h => congrArg (· + 1) h.2.len
  | [], _ :: _, h => h.elim
  | _ :: _, [], h => h.elim
def LessO (o o' : IObj) : Prop := o' = o ∨ ∃ cs ds rw, o = .cells cs rw ∧ o' = .cells ds rw ∧ LessL cs ds
theorem LessO.refl (o : IObj) : LessO o o := .inl rfl
theorem LessO.rel {L : LMap} {w0 w : World} {l : Loc} {o o' : IObj} (h : LessO o o') (hr : ORel L w0 w l o) : ORel L w0 w l o' := by
  rcases h with rfl | ⟨cs, ds, rw, rfl, rfl, hl⟩
  · exact hr
  · cases rw with
    | true => obtain ⟨h0, h1, arr, T, vs, h2, h3, h3', h4, h5⟩ := hr; exact ⟨h0, h1, arr, T, vs, h2, h3, by rw [hl.len]; exact h3', hl.rel h4, h5⟩
    | false => obtain ⟨h0, h1, vs, h2, h3⟩ := hr; exact ⟨h0, h1, vs, hl.rel h2, h3⟩
theorem LessO.own {o o' : IObj} (h : LessO o o') (hown : o'.own = true) : o.own = true := by
  rcases h with rfl | ⟨cs, ds, rw, rfl, rfl, hl⟩ <;> exact hown
theorem LessO.free {o : IObj} (h : LessO o .free) : o = .free := by
  rcases h with h | ⟨cs, ds, rw, h1, h2, hl⟩
  · exact h.symm
  · cases h2
def LessOs : List IObj → List IObj → Prop
  | [], [] => True
  | o :: a, o' :: b => LessO o o' ∧ LessOs a b
  | _, _ => False
theorem LessOs.refl : ∀ a : List IObj, LessOs a a
  | [] => trivial
  | o :: a => ⟨LessO.refl o, LessOs.refl a⟩
theorem LessOs.len : ∀ {a b : List IObj}, LessOs a b → b.length = a.length
  | [], [], _ => rfl
  | _ :: _, _ :: _, h => congrArg (· + 1) h.2.len
  | [], _ :: _, h => h.elim
  | _ :: _, [], h => h.elim
theorem LessOs.get : ∀ {a b : List IObj}, LessOs a b → ∀ {i : Nat} {o' : IObj}, b[i]? = some o' → ∃ o, a[i]? = some o ∧ LessO o o'
  | _ :: _, _ :: _, h, 0, o', ho => by simp at ho; subst ho; exact ⟨_, rfl, h.1⟩
  | _ :: _, _ :: _, h, i + 1, o', ho => h.2.get (by simpa using ho)
  | [], [], _, i, o', ho => by simp at ho
  | [], _ :: _, h, _, _, _ => h.elim
  | _ :: _, [], h, _, _, _ => h.elim

/-- What the slots that are kept come to; of a slot that is free anything may be thought. -/
def NewsAt (σ : Nat → Option Nat) (l : List IObj) : List Nat → List IObj → Prop
  | [], [] => True
  | k :: ks, o :: os => (l.getD k .free = .free ∨ LessO (mvO σ (l.getD k .free)) o) ∧ NewsAt σ l ks os
  | _, _ => False
theorem NewsAt.len {σ : Nat → Option Nat} {l : List IObj} : ∀ {ks : List Nat} {os : List IObj}, NewsAt σ l ks os → os.length = ks.length
  | [], [], _ => rfl
  | _ :: _, _ :: _, h => congrArg (· + 1) h.2.len
  | [], _ :: _, h => h.elim
  | _ :: _, [], h => h.elim
theorem NewsAt.get {σ : Nat → Option Nat} {l : List IObj} : ∀ {ks : List Nat} {os : List IObj}, NewsAt σ l ks os → ∀ {p k : Nat} {o : IObj}, ks[p]? = some k → os[p]? = some o → l.getD k .free = .free ∨ LessO (mvO σ (l.getD k .free)) o
  | _ :: _, _ :: _, h, 0, k, o, hk, ho => by simp at hk ho; subst hk; subst ho; exact h.1
  | _ :: _, _ :: _, h, p + 1, k, o, hk, ho => h.2.get (by simpa using hk) (by simpa using ho)
  | [], [], _, p, k, o, hk, _ => by simp at hk
  | [], _ :: _, h, _, _, _, _, _ => h.elim
  | _ :: _, [], h, _, _, _, _, _ => h.elim

/-! ### a call from any heap -/
def shU (i : Nat) : Option Nat := some (i + 64)
def shD (i : Nat) : Option Nat := bif Nat.ble 64 i then some (i - 64) else none
theorem sh_back (i : Nat) : ∃ j, shU i = some j ∧ shD j = some i := ⟨i + 64, rfl, by unfold shD; rw [Nat.ble_eq_true_of_le (by omega)]; simp⟩

/-- Ids as the caller knows them; those of the slots that are kept come last. -/
def unS (ks : List Nat) (N : Nat) (i : Nat) : Option Nat := bif Nat.ble 64 i then some (i - 64) else bif memN i ks then some (N + posN i ks) else none

/-- What a call over slots must come to. -/
def slotR (n : Nat) (R : IEnd → IHeap → Prop) (e : IEnd) (H' : IHeap) : Prop :=
  ∃ (l : List IObj) (base : IHeap) (ks : List Nat) (base2 objs : List IObj), H' = pad 64 l base ∧ n ≤ base.length ∧ ks.Nodup ∧ ks.all (Nat.blt · 64) = true ∧
    LessOs (base.map (mvO (unS ks base.length))) base2 ∧ NewsAt (unS ks base.length) l ks objs ∧
    match e with
    | .ret v => ∃ u, Less (mvV (unS ks base.length) v) u ∧ R (.ret u) (base2 ++ objs)
    | .panic v => R (.panic (mvV (unS ks base.length) v)) (base2 ++ objs)

theorem ICalls.slots {P : Program} {f : FuncId} {args : List Value} {H : IHeap} {R : IEnd → IHeap → Prop}
    (h : ICalls P f (mvV.goL shU args) (pad 64 [] (H.map (mvO shU))) (slotR H.length R)) : ICalls P f args H R := by
  refine ⟨h.1, fun β w args' S hargs => ?_⟩
  let βc : Emb := { w0 := β.w0, loc := fun i => if 64 ≤ i then β.loc (i - 64) else none, held := fun i => 64 ≤ i ∧ β.held (i - 64) }
  have hin : ∀ i j l, shU i = some j → β.loc i = some l → βc.loc j = some l := by
    intro i j l hs hl
    cases hs
    show (if 64 ≤ i + 64 then β.loc (i + 64 - 64) else none) = some l
    rw [if_pos (by omega), Nat.add_sub_cancel]
    exact hl
  have hout : ∀ {j l}, βc.loc j = some l → 64 ≤ j ∧ β.loc (j - 64) = some l := by
    intro j l hl
    have hl : (if 64 ≤ j then β.loc (j - 64) else none) = some l := hl
    split at hl
    · exact ⟨‹_›, hl⟩
    · cases hl
  have hget : ∀ {j : Nat}, 64 ≤ j → (pad 64 [] (H.map (mvO shU)))[j]? = (H[j - 64]?).map (mvO shU) := fun hj => by rw [pad_get _ _ hj, List.getElem?_map]
  have Sc : Sim βc (pad 64 [] (H.map (mvO shU))) w := {
    below := S.below
    dom := fun id l hl => by have h1 := hout hl; have := S.dom _ _ h1.2; rw [pad_len]; simp; omega
    held := fun id hh => by
      obtain ⟨h1, h2, h3⟩ := S.held _ hh.2
      refine ⟨by rw [pad_len]; have := hh.1; simp; omega, ?_, fun h4 => ?_⟩
      · show (if 64 ≤ id then β.loc (id - 64) else none) = none
        rw [if_pos hh.1]; exact h2
      · rw [hget hh.1] at h4
        obtain ⟨o, h5, h6⟩ := Option.map_eq_some_iff.1 h4
        rw [mvO_free h6] at h5
        exact h3 h5
    blk := fun id l hl => S.blk _ l (hout hl).2
    obj := fun id l o hl ho => by
      obtain ⟨h1, h2⟩ := hout hl
      rw [hget h1] at ho
      obtain ⟨o', h3, rfl⟩ := Option.map_eq_some_iff.1 ho
      exact (S.obj _ l o' h2 h3).mv hin
    inj := fun i j l l' o o' hl hl' ho ho' hown hown' hb => by
      obtain ⟨h1, h2⟩ := hout hl
      obtain ⟨h3, h4⟩ := hout hl'
      rw [hget h1] at ho
      rw [hget h3] at ho'
      obtain ⟨p, p1, rfl⟩ := Option.map_eq_some_iff.1 ho
      obtain ⟨q, q1, rfl⟩ := Option.map_eq_some_iff.1 ho'
      have := S.inj _ _ l l' p q h2 h4 p1 q1 (mvO_own hown) (mvO_own hown') hb
      omega }
  refine (h.2 βc w args' Sc (hargs.mv hin)).mono fun e w' hA => ?_
  obtain ⟨β', H', St, S', hE⟩ := hA
  have main : ∀ (R' : IHeap → Prop) (u : (Nat → Option Nat) → Prop) (x : IEnd), slotR H.length R x H' →
      ∃ (β2 : Emb) (H2 : IHeap) (σ : Nat → Option Nat), Step β w β2 w' ∧ Sim β2 H2 w' ∧ (∀ i j l, σ i = some j → β'.loc i = some l → β2.loc j = some l) ∧
        (match x with | .ret v => ∃ u, Less (mvV σ v) u ∧ R (.ret u) H2 | .panic v => R (.panic (mvV σ v)) H2) := by
    intro _ _ x hx
    obtain ⟨l, base, ks, base2, objs, rfl, hn, hnd, hks, hb2, hob, hR⟩ := hx
    have hb2l : base2.length = base.length := by rw [hb2.len]; simp
    have hk64 : ∀ {p k : Nat}, ks[p]? = some k → k < 64 := fun {p k} hp => by
      have := List.all_eq_true.1 hks k (List.mem_of_getElem? hp)
      simpa [Nat.blt_eq] using this
    let loc2 : LMap := fun j => if j < base.length then β'.loc (j + 64) else (ks[j - base.length]?).bind β'.loc
    have lowL : ∀ {j}, j < base.length → loc2 j = β'.loc (j + 64) := fun hj => if_pos hj
    have highL : ∀ {j}, ¬ j < base.length → loc2 j = (ks[j - base.length]?).bind β'.loc := fun hj => if_neg hj
    have hmv : ∀ i j l, unS ks base.length i = some j → β'.loc i = some l → loc2 j = some l := by
      intro i j l hs hl
      unfold unS at hs
      cases hb : Nat.ble 64 i with
      | true =>
        have hb' := Nat.le_of_ble_eq_true hb
        rw [hb] at hs
        simp only [cond_true] at hs
        cases hs
        have hd := S'.dom _ _ hl
        rw [pad_len] at hd
        rw [lowL (by omega), show i - 64 + 64 = i by omega]
        exact hl
      | false =>
        rw [hb] at hs
        simp only [cond_false] at hs
        cases hm : memN i ks with
        | true =>
          rw [hm] at hs
          simp only [cond_true] at hs
          cases hs
          rw [highL (by omega), Nat.add_sub_cancel_left, posN_get (memN_iff.1 hm)]
          exact hl
        | false => rw [hm] at hs; cases hs
    -- where an id comes from
    have src : ∀ {j lc o}, loc2 j = some lc → (base2 ++ objs)[j]? = some o →
        ∃ i o', β'.loc i = some lc ∧ (pad 64 l base)[i]? = some o' ∧ LessO (mvO (unS ks base.length) o') o ∧ ((j < base.length ∧ i = j + 64) ∨ (base.length ≤ j ∧ i < 64 ∧ ks[j - base.length]? = some i)) := by
      intro j lc o hl ho
      by_cases hj : j < base.length
      · rw [lowL hj] at hl
        rw [List.getElem?_append_left (by omega)] at ho
        obtain ⟨p, hp, hle⟩ := hb2.get ho
        rw [List.getElem?_map] at hp
        obtain ⟨o', h1, rfl⟩ := Option.map_eq_some_iff.1 hp
        exact ⟨_, o', hl, by rw [pad_high]; exact h1, hle, .inl ⟨hj, rfl⟩⟩
      · rw [highL hj] at hl
        obtain ⟨k, h1, h2⟩ := Option.bind_eq_some_iff.1 hl
        rw [List.getElem?_append_right (by omega), hb2l] at ho
        have hlow := pad_low 64 l base k (hk64 h1)
        rcases hob.get h1 ho with h3 | h3
        · rw [h3] at hlow
          exact (S'.obj k lc _ h2 hlow).elim
        · exact ⟨k, _, h2, hlow, h3, .inr ⟨by omega, hk64 h1, h1⟩⟩
    have blk' : ∀ {j lc}, loc2 j = some lc → ∃ i, β'.loc i = some lc := by
      intro j lc hl
      by_cases hj : j < base.length
      · rw [lowL hj] at hl; exact ⟨_, hl⟩
      · rw [highL hj] at hl
        obtain ⟨k, _, h2⟩ := Option.bind_eq_some_iff.1 hl
        exact ⟨k, h2⟩
    refine ⟨{ w0 := β.w0, loc := loc2, held := β.held }, _, unS ks base.length, ?_, ?_, hmv, hR⟩
    · exact {
        le := ⟨⟨rfl, rfl⟩, fun id lc hl => by
          have hd := S.dom id lc hl
          show loc2 id = some lc
          rw [lowL (by omega)]
          exact St.le.2 _ _ (hin id (id + 64) lc rfl hl)⟩
        size := St.size
        newb := fun j lc hl => by
          obtain ⟨i, hi⟩ := blk' hl
          rcases St.newb i lc hi with ⟨i0, l0, h1, h2⟩ | h
          · exact .inl ⟨_, l0, (hout h1).2, h2⟩
          · exact .inr h
        frame := fun k hk hne => St.frame k hk fun i li hli => hne _ li (hout hli).2 }
    · have ew : β'.w0 = β.w0 := St.le.1.1
      exact {
        below := by have := S'.below; rw [ew] at this; exact this
        dom := fun j lc hl => by
          have hl : loc2 j = some lc := hl
          by_cases hj : j < base.length
          · rw [List.length_append, hb2l]; omega
          · rw [highL hj] at hl
            obtain ⟨k, h1, _⟩ := Option.bind_eq_some_iff.1 hl
            have := (List.getElem?_eq_some_iff.1 h1).1
            rw [List.length_append, hb2l, hob.len]; omega
        held := fun id hh => by
          have h1 := (S.held id hh).1
          have hc : βc.held (id + 64) := ⟨by omega, by rw [Nat.add_sub_cancel]; exact hh⟩
          have hc' : β'.held (id + 64) := by rw [St.le.1.2]; exact hc
          obtain ⟨h2, h3, h4⟩ := S'.held _ hc'
          refine ⟨by rw [List.length_append, hb2l]; omega, ?_, fun h5 => ?_⟩
          · show loc2 id = none
            rw [lowL (by omega)]; exact h3
          · rw [List.getElem?_append_left (by omega)] at h5
            obtain ⟨p, hp, hle⟩ := hb2.get h5
            rw [List.getElem?_map] at hp
            obtain ⟨o', h6, h7⟩ := Option.map_eq_some_iff.1 hp
            rw [mvO_free (h7.trans hle.free)] at h6
            rw [pad_high] at h4
            exact h4 h6
        blk := fun j lc hl => by obtain ⟨i, hi⟩ := blk' hl; exact S'.blk i lc hi
        obj := fun j lc o hl ho => by
          obtain ⟨i, o', h1, h2, hle, _⟩ := src hl ho
          have := S'.obj i lc o' h1 h2
          rw [ew] at this
          exact hle.rel (this.mv hmv)
        inj := fun a b la lb o o' hl hl' ho ho' hown hown' hb => by
          obtain ⟨i, oi, a1, a2, ale, a3⟩ := src hl ho
          obtain ⟨j, oj, b1, b2, ble, b3⟩ := src hl' ho'
          have hij := S'.inj i j la lb oi oj a1 b1 a2 b2 (mvO_own (ale.own hown)) (mvO_own (ble.own hown')) hb
          subst hij
          rcases a3 with ⟨p1, p2⟩ | ⟨p1, p2, p3⟩ <;> rcases b3 with ⟨q1, q2⟩ | ⟨q1, q2, q3⟩
          · omega
          · omega
          · omega
          · have := nod_inj hnd p3 q3; omega }
  match e, hE with
  | .returned v', ⟨v, hv, hr⟩ =>
    obtain ⟨β2, H2, σ, g1, g2, g3, u, hu, g4⟩ := main (fun _ => True) (fun _ => True) _ hr
    exact ⟨β2, H2, g1, g2, u, hu _ _ (hv.mv g3), g4⟩
  | .panicked chain, ⟨v, v', hc, hv, hr⟩ =>
    obtain ⟨β2, H2, σ, g1, g2, g3, g4⟩ := main (fun _ => True) (fun _ => True) _ hr
    exact ⟨β2, H2, g1, g2, _, v', hc, hv.mv g3, g4⟩

end Ide

/- Code of a function over slots: ids may be given anew between its parts. -/
set_option linter.unusedVariables false
set_option linter.unusedSimpArgs false
namespace Ide
open Go Go.RowKit

/-- How a function was entered: only ids of its caller's are known outside. -/
structure Root where
  β : Emb
  w : World
  m : Nat
  dom : ∀ id l, β.loc id = some l → 64 ≤ id ∧ id < m
  held : ∀ id, β.held id → 64 ≤ id ∧ id < m

def IWR (r : Root) (ro : Option Nat) (P : Program) (nt : Nat) (c : Code) (Q : IExit → Env → IHeap → Prop) (env : Env) (H : IHeap) : Prop :=
  ∀ (n0 : Nat) (β : Emb) (w : World) (a : Act), Step r.β r.w β w → Sim β H w → TRel β.loc nt env a.tmps → Mk n0 β w a.defers → c.wpIn (Fz ro) 0 P (QR n0 nt r.β r.w Q) a w

def LWQ (r : Root) (ro : Option Nat) (P : Program) (nt : Nat) (c : Code) (Q : IExit → Env → IHeap → Prop) (env : Env) (H : IHeap) : Prop :=
  ∀ (n0 : Nat) (β : Emb) (w : World) (a : Act), Step r.β r.w β w → Sim β H w → TRel β.loc nt env a.tmps → Mk n0 β w a.defers →
    ∀ (b : Frame) (k : List Item) (cs : List Frame), b.roundOf = (Fz ro).round → (Fz ro).fn b.fn → (Fz ro).room (cs.length + 1 + 0) →
      ∃ e a' w', QR n0 nt r.β r.w Q e a' w' ∧ ArrivesIn (Machine.fenced P (Fz ro)) P (lone (b.atR a (.code c :: .inLoop c :: k)) cs w) b k cs e a' w'

section
variable {r : Root} {ro : Option Nat} {P : Program} {nt : Nat}

theorem IWR.of_iw {c : Code} {Q : IExit → Env → IHeap → Prop} {env : Env} {H : IHeap} (h : IW ro P nt c Q env H) : IWR r ro P nt c Q env H :=
  fun n0 β w a St S hT hM => wpIn_mono (h n0 β w a S hT hM) fun e a' w' hq => hq.trans St

theorem IWR.mono {c : Code} {Q Q' : IExit → Env → IHeap → Prop} {env : Env} {H : IHeap} (h : IWR r ro P nt c Q env H) (hq : ∀ e env H, Q e env H → Q' e env H) : IWR r ro P nt c Q' env H := by
  intro n0 β w a St S hT hM
  refine wpIn_mono (h n0 β w a St S hT hM) fun e a' w' h => ?_
  cases e with
  | normal => obtain ⟨β', H', env', St, S', hT', hM', hn⟩ := h; exact ⟨β', H', env', St, S', hT', hM', hq _ _ _ hn⟩
  | exit id => obtain ⟨β', H', env', St, S', hT', hM', hn⟩ := h; exact ⟨β', H', env', St, S', hT', hM', hq _ _ _ hn⟩
  | ret => obtain ⟨β', H', env', St, S', hT', hM', hn⟩ := h; exact ⟨β', H', env', St, S', hT', hM', hq _ _ _ hn⟩
  | panic ch => obtain ⟨β', H', env', v, v', St, S', hch, hv, hM', hsz, hn⟩ := h; exact ⟨β', H', env', v, v', St, S', hch, hv, hM', hsz, hq _ _ _ hn⟩
  | goto t => exact h
  | outgrown => exact h

theorem IWR.weaken {c : Code} {Q : IExit → Env → IHeap → Prop} {env env' : Env} {H : IHeap} (h : IWR r ro P nt c Q env' H) (hw : ∀ t, lk env' t = lk env t ∨ lk env' t = anyV) : IWR r ro P nt c Q env H := by
  intro n0 β w a St S hT hM
  exact h n0 β w a St S ⟨hT.1, fun t ht => by rcases hw t with e | e <;> rw [e] <;> first | exact hT.2 t ht | exact .any _⟩ hM
theorem LWQ.weaken {c : Code} {Q : IExit → Env → IHeap → Prop} {env env' : Env} {H : IHeap} (h : LWQ r ro P nt c Q env' H) (hw : ∀ t, lk env' t = lk env t ∨ lk env' t = anyV) : LWQ r ro P nt c Q env H := by
  intro n0 β w a St S hT hM
  exact h n0 β w a St S ⟨hT.1, fun t ht => by rcases hw t with e | e <;> rw [e] <;> first | exact hT.2 t ht | exact .any _⟩ hM

theorem iwr_seq {x y : Code} {Q : IExit → Env → IHeap → Prop} {env : Env} {H : IHeap} (h : IWR r ro P nt x (thn (fun env H => IWR r ro P nt y Q env H) Q) env H) : IWR r ro P nt (.seq x y) Q env H := by
  intro n0 β w a St S hT hM
  refine wpIn_seq (wpIn_mono (h n0 β w a St S hT hM) fun e a' w' hq => ?_)
  cases e with
  | normal =>
    obtain ⟨β', H', env', St, S', hT', hM', hn⟩ := hq
    exact hn n0 β' w' a' St S' hT' hM'
  | exit id => exact hq
  | goto l => exact hq
  | ret => exact hq
  | panic ch => exact hq
  | outgrown => exact hq

theorem iwr_block {id : Nat} {x : Code} {Q : IExit → Env → IHeap → Prop} {env : Env} {H : IHeap} (h : IWR r ro P nt x (inB id Q) env H) : IWR r ro P nt (.block id x) Q env H := by
  intro n0 β w a St S hT hM
  refine wpIn_block (wpIn_mono (h n0 β w a St S hT hM) fun e a' w' hq => ?_)
  cases e with
  | normal => exact hq
  | exit i =>
    obtain ⟨β', H', env', St, S', hT', hM', hn⟩ := hq
    simp only [inB] at hn
    by_cases e : i = id
    · subst e
      simp only [Nat.beq_refl, cond_true] at hn
      simp only [Exit.inBlock, if_true]
      exact ⟨β', H', env', St, S', hT', hM', hn⟩
    · rw [beq_false e] at hn
      simp only [Exit.inBlock, e, if_false]
      exact ⟨β', H', env', St, S', hT', hM', hn⟩
  | goto l => exact hq
  | ret => exact hq
  | panic ch => exact hq
  | outgrown => exact hq

theorem iwr_loop {c : Code} {Q : IExit → Env → IHeap → Prop} {env : Env} {H : IHeap} (h : LWQ r ro P nt c Q env H) : IWR r ro P nt (.loop c) Q env H := by
  intro n0 β w a St S hT hM b k cs hro hb hr
  obtain ⟨e, a', w', hq, harr⟩ := h n0 β w a St S hT hM b k cs hro hb hr
  exact ⟨e, a', w', hq, .of_steps (.one (fenced_calm hb hr rfl) stepR_loop) harr⟩

theorem iwr_cond {c : Operand} {x y : Code} {t : Bool} {Q : IExit → Env → IHeap → Prop} {env : Env} {H : IHeap} (hok : okOpd nt c = true) (hc : iev env c = .bool t) (h : IWR r ro P nt (if t then x else y) Q env H) : IWR r ro P nt (.cond c x y) Q env H := by
  intro n0 β w a St S hT hM
  have hc' := iev_rel (a := a) hT hok
  rw [hc] at hc'
  exact wpIn_cond hc'.inv_bool (h n0 β w a St S hT hM)

theorem iwr_scope {c : Code} {Q : IExit → Env → IHeap → Prop} {env : Env} {H : IHeap} (h : IWR r ro P nt c Q env H) : IWR r ro P nt (.scope c) Q env H := by
  intro n0 β w a St S hT hM b k cs hro hb hr
  have h0 : (lone (b.atR a (.code (.scope c) :: k)) cs w).fenced P (Fz ro) := fenced_calm hb hr rfl
  obtain ⟨e, a₁, w₁, hq, harr⟩ := h n0 β w a St S hT hM b (.inScope c :: k) cs hro hb hr
  cases e with
  | normal => exact ⟨.normal, a₁, w₁, hq, .head h0 stepR_scope (StepsIn.trans harr (.one (fenced_calm hb hr rfl) stepR_inScope))⟩
  | exit id =>
    have hx : exitTo id (.inScope c :: k) = exitTo id k := by simp [exitTo]
    exact ⟨.exit id, a₁, w₁, hq, fun k' hk => .head h0 stepR_scope (harr.1 k' (by rw [hx]; exact hk)),
      fun hr' hk => let ⟨k₁, h1, h2⟩ := harr.2 hr' (by rw [hx]; exact hk); ⟨k₁, h1, .head h0 stepR_scope h2⟩⟩
  | goto l => exact hq.elim
  | ret => exact ⟨_, a₁, w₁, hq, .of_steps (.one h0 stepR_scope) harr⟩
  | panic ch => exact ⟨_, a₁, w₁, hq, .of_steps (.one h0 stepR_scope) harr⟩
  | outgrown => exact hq.elim

theorem lwq_step {c : Code} {Q : IExit → Env → IHeap → Prop} {env : Env} {H : IHeap} (h : IWR r ro P nt c (thn (fun env H => LWQ r ro P nt c Q env H) Q) env H) : LWQ r ro P nt c Q env H := by
  intro n0 β w a St S hT hM b k cs hro hb hr
  obtain ⟨e, a₁, w₁, hq, harr⟩ := h n0 β w a St S hT hM b (.inLoop c :: k) cs hro hb hr
  cases e with
  | normal =>
    obtain ⟨β', H', env', St', S', hT', hM', hn⟩ := hq
    obtain ⟨e₂, a₂, w₂, hq₂, harr₂⟩ := hn n0 β' w₁ a₁ St' S' hT' hM' b k cs hro hb hr
    exact ⟨e₂, a₂, w₂, hq₂, .of_steps (StepsIn.trans harr (.one (fenced_calm hb hr rfl) stepR_inLoop)) harr₂⟩
  | exit id => exact ⟨.exit id, a₁, w₁, hq, .pass (x := .inLoop c) rfl (fun _ _ => .inl (by simp)) harr⟩
  | goto l => exact hq.elim
  | ret => exact ⟨.ret, a₁, w₁, hq, .pass (x := .inLoop c) rfl (fun _ _ => .inl (by simp)) harr⟩
  | panic ch => exact ⟨.panic ch, a₁, w₁, hq, .pass (x := .inLoop c) rfl (fun _ _ => .inl (by simp)) harr⟩
  | outgrown => exact hq.elim

/-! ### ids are given anew -/
structure Move (m : Nat) (env : Env) (H : IHeap) (env2 : Env) (H2 : IHeap) (σ τ : Nat → Option Nat) : Prop where
  inv : ∀ i j, (i < H.length ∧ σ i = some j) ↔ τ j = some i
  stab : ∀ i, 64 ≤ i → i < m → i < H.length ∧ σ i = some i
  obj : ∀ i j o2, τ j = some i → H2[j]? = some o2 → o2 = .dead ∨ ∃ o, H[i]? = some o ∧ (o = .free ∨ LessO (mvO σ o) o2)
  dom : ∀ i j, τ j = some i → j < H2.length
  env : ∀ t, lk env2 t = anyV ∨ Less (mvV σ (lk env t)) (lk env2 t)

/-- Where things lie then. -/
def mvEmb (τ : Nat → Option Nat) (β : Emb) : Emb := { w0 := β.w0, loc := fun j => (τ j).bind β.loc, held := β.held }

theorem mvEmb_src {τ : Nat → Option Nat} {β : Emb} {j : Nat} {l : Loc} (h : (mvEmb τ β).loc j = some l) : ∃ i, τ j = some i ∧ β.loc i = some l := Option.bind_eq_some_iff.1 h

theorem Move.loc {m : Nat} {env env2 : Env} {H H2 : IHeap} {σ τ : Nat → Option Nat} (M : Move m env H env2 H2 σ τ) {β : Emb} {w : World} (S : Sim β H w) (i j : Nat) (l : Loc) (hs : σ i = some j) (hl : β.loc i = some l) : (mvEmb τ β).loc j = some l := by
  show (τ j).bind β.loc = some l
  rw [(M.inv i j).1 ⟨S.dom i l hl, hs⟩]
  exact hl

theorem Move.sim {m : Nat} {env env2 : Env} {H H2 : IHeap} {σ τ : Nat → Option Nat} (M : Move m env H env2 H2 σ τ) {β : Emb} {w : World} (S : Sim β H w) (hh : ∀ id, β.held id → 64 ≤ id ∧ id < m) : Sim (mvEmb τ β) H2 w where
  below := S.below
  dom := fun j l hl => by obtain ⟨i, h1, _⟩ := mvEmb_src hl; exact M.dom i j h1
  held := fun id h => by
    obtain ⟨h1, h2⟩ := hh id h
    obtain ⟨h3, h4⟩ := M.stab id h1 h2
    have ht := (M.inv id id).1 ⟨h3, h4⟩
    obtain ⟨_, h5, h6⟩ := S.held id h
    refine ⟨M.dom _ _ ht, ?_, fun h7 => ?_⟩
    · show (τ id).bind β.loc = none
      rw [ht]; exact h5
    · rcases M.obj id id _ ht h7 with h | ⟨o, h8, rfl | h9⟩
      · cases h
      · exact h6 h8
      · rw [mvO_free h9.free] at h8; exact h6 h8
  blk := fun j l hl => by obtain ⟨i, _, h2⟩ := mvEmb_src hl; exact S.blk i l h2
  obj := fun j l o hl ho => by
    obtain ⟨i, h1, h2⟩ := mvEmb_src hl
    rcases M.obj i j o h1 ho with rfl | ⟨o', h3, rfl | h4⟩
    · trivial
    · exact (S.obj i l _ h2 h3).elim
    · exact h4.rel ((S.obj i l o' h2 h3).mv (fun i j l hs hl => M.loc S i j l hs hl))
  inj := fun a b la lb o o' hl hl' ho ho' hown hown' hb => by
    obtain ⟨i, a1, a2⟩ := mvEmb_src hl
    obtain ⟨j, b1, b2⟩ := mvEmb_src hl'
    rcases M.obj i a o a1 ho with rfl | ⟨p, p1, rfl | hp⟩
    · cases hown
    · exact (S.obj i la _ a2 p1).elim
    rcases M.obj j b o' b1 ho' with rfl | ⟨q, q1, rfl | hq⟩
    · cases hown'
    · exact (S.obj j lb _ b2 q1).elim
    have := S.inj i j la lb p q a2 b2 p1 q1 (mvO_own (hp.own hown)) (mvO_own (hq.own hown')) hb
    subst this
    have h1 := ((M.inv i a).2 a1).2
    have h2 := ((M.inv i b).2 b1).2
    rw [h1] at h2
    exact Option.some.inj h2

theorem Move.step {r : Root} {env env2 : Env} {H H2 : IHeap} {σ τ : Nat → Option Nat} (M : Move r.m env H env2 H2 σ τ) {β : Emb} {w : World} (St : Step r.β r.w β w) : Step r.β r.w (mvEmb τ β) w where
  le := ⟨St.le.1, fun id l hl => by
    obtain ⟨h1, h2⟩ := r.dom id l hl
    show (τ id).bind β.loc = some l
    rw [(M.inv id id).1 (M.stab id h1 h2)]
    exact St.le.2 id l hl⟩
  size := St.size
  newb := fun j l hl => by obtain ⟨i, _, h2⟩ := mvEmb_src hl; exact St.newb i l h2
  frame := St.frame

theorem Move.trel {m : Nat} {env env2 : Env} {H H2 : IHeap} {σ τ : Nat → Option Nat} (M : Move m env H env2 H2 σ τ) {β : Emb} {w : World} (S : Sim β H w) {tm : Array Value} (hT : TRel β.loc nt env tm) : TRel (mvEmb τ β).loc nt env2 tm :=
  ⟨hT.1, fun t ht => by
    rcases M.env t with e | e
    · rw [e]; exact .any _
    · exact e _ _ ((hT.2 t ht).mv (fun i j l hs hl => M.loc S i j l hs hl))⟩

theorem move_mk {τ : Nat → Option Nat} {β : Emb} {w : World} {n0 : Nat} {ds : List Deferred} (h : Mk n0 β w ds) : Mk n0 (mvEmb τ β) w ds := by
  refine ⟨h.1, ?_⟩
  have go : ∀ ds : List Deferred, MkL n0 β w ds → MkL n0 (mvEmb τ β) w ds := by
    intro ds
    induction ds with
    | nil => intro _; trivial
    | cons d ds ih =>
      rintro ⟨⟨r, h1, ⟨h2, h3, h4⟩, h5⟩, h6⟩
      refine ⟨⟨r, h1, ⟨h2, fun id l hl => ?_, h4⟩, h5⟩, ih h6⟩
      obtain ⟨i, _, k2⟩ := mvEmb_src hl
      exact h3 _ _ k2
  exact go _ h.2

theorem IWR.move {c : Code} {Q : IExit → Env → IHeap → Prop} {env env2 : Env} {H H2 : IHeap} {σ τ : Nat → Option Nat} (M : Move r.m env H env2 H2 σ τ) (h : IWR r ro P nt c Q env2 H2) : IWR r ro P nt c Q env H := by
  intro n0 β w a St S hT hM
  have hh : ∀ id, β.held id → 64 ≤ id ∧ id < r.m := fun id h => r.held id (by have := St.le.1.2; rw [← this]; exact h)
  exact h n0 _ w a (M.step St) (M.sim S hh) (M.trel S hT) (move_mk hM)
theorem LWQ.move {c : Code} {Q : IExit → Env → IHeap → Prop} {env env2 : Env} {H H2 : IHeap} {σ τ : Nat → Option Nat} (M : Move r.m env H env2 H2 σ τ) (h : LWQ r ro P nt c Q env2 H2) : LWQ r ro P nt c Q env H := by
  intro n0 β w a St S hT hM
  have hh : ∀ id, β.held id → 64 ≤ id ∧ id < r.m := fun id h => r.held id (by have := St.le.1.2; rw [← this]; exact h)
  exact h n0 _ w a (M.step St) (M.sim S hh) (M.trel S hT) (move_mk hM)

/-- A function's contract over any heap. -/
theorem icalls_root {f : FuncId} {args : List Value} {H : IHeap} {R : IEnd → IHeap → Prop} (hok : fnOkN P f args.length = true)
    (h : ∀ r : Root, r.m = 64 + H.length → IWR r none P (ntOf P f) (bodyOf P f) (bodyS P (ressOf P f) (slotR H.length R)) (envOf 0 (mvV.goL shU args)) (pad 64 [] (H.map (mvO shU)))) : ICalls P f args H R := by
  refine ICalls.slots ?_
  simp only [fnOkN, Bool.and_eq_true] at hok
  obtain ⟨hok, hn⟩ := hok
  unfold fnOk at hok
  unfold ntOf ressOf bodyOf at h
  unfold ntOf at hn
  split at hok
  · rename_i fn h2
    simp only [h2] at h hn
    split at hok
    · rename_i c h3
      simp only [h3] at h
      simp only [Bool.and_eq_true, Bool.not_eq_true'] at hok
      refine icalls_of_iw ⟨h2, h3, hok.1.1, hok.1.2, hok.2, by rw [mvL_len]; exact Nat.le_of_ble_eq_true hn⟩ (IW.mono ?_ bodyS_sound)
      intro n0 β w a S hT hM
      have low : ∀ id, id < 64 → (pad 64 [] (H.map (mvO shU)))[id]? = some .free := fun id hid => by rw [pad_low 64 _ _ id hid]; rfl
      refine h ⟨β, w, 64 + H.length, fun id l hl => ?_, fun id hh => ?_⟩ rfl n0 β w a (Step.refl _ _) S hT hM
      · have h1 := S.dom id l hl
        rw [pad_len, List.length_map] at h1
        refine ⟨?_, h1⟩
        rcases Nat.lt_or_ge id 64 with h2 | h2
        · exact (S.obj id l _ hl (low id h2)).elim
        · exact h2
      · obtain ⟨h1, _, h3⟩ := S.held id hh
        rw [pad_len, List.length_map] at h1
        refine ⟨?_, h1⟩
        rcases Nat.lt_or_ge id 64 with h2 | h2
        · exact absurd (low id h2) h3
        · exact h2
    · cases hok
  · cases hok

/-! ### slots are given up; some are kept, behind all else -/
/-- The first s slots stay; those of ks come last; the others are given up. -/
def sgT (s : Nat) (ks : List Nat) (N : Nat) (i : Nat) : Option Nat := bif Nat.blt i s then some i else bif Nat.ble 64 i then some i else bif memN i ks then some (N + posN i ks) else none

theorem Move.slots {m s : Nat} {ks : List Nat} {env env2 : Env} {l l2 : List IObj} {base base2 objs : IHeap} (hm : m ≤ 64 + base.length) (hs : s ≤ 64) (hnd : ks.Nodup) (hks : ks.all (fun k => Nat.ble s k && Nat.blt k 64) = true)
    (hl : ∀ j, j < s → LessO (mvO (sgT s ks (64 + base.length)) (l.getD j .free)) (l2.getD j .free))
    (hb : LessOs (base.map (mvO (sgT s ks (64 + base.length)))) base2) (ho : NewsAt (sgT s ks (64 + base.length)) l ks objs)
    (he : ∀ t, lk env2 t = anyV ∨ Less (mvV (sgT s ks (64 + base.length)) (lk env t)) (lk env2 t)) :
    Move m env (pad 64 l base) env2 (pad 64 l2 (base2 ++ objs)) (sgT s ks (64 + base.length)) (fun j => if j < s then some j else if j < 64 then none else if j < 64 + base.length then some j else ks[j - (64 + base.length)]?) := by
  have hbl : base2.length = base.length := by rw [hb.len]; simp
  have hol := ho.len
  have ho' := ho
  clear ho
  have hlen : (pad 64 l base).length = 64 + base.length := pad_len _ _ _
  have hk : ∀ {p k : Nat}, ks[p]? = some k → s ≤ k ∧ k < 64 := fun {p k} hp => by
    have := List.all_eq_true.1 hks k (List.mem_of_getElem? hp)
    simp only [Bool.and_eq_true, Nat.blt_eq] at this
    exact ⟨Nat.le_of_ble_eq_true this.1, this.2⟩
  -- what sgT is
  have s1 : ∀ {i}, i < s → sgT s ks (64 + base.length) i = some i := fun {i} h => by unfold sgT; rw [show Nat.blt i s = true by simpa [Nat.blt_eq] using h]; rfl
  have s2 : ∀ {i}, 64 ≤ i → sgT s ks (64 + base.length) i = some i := fun {i} h => by
    unfold sgT
    rw [Nat.ble_eq_true_of_le h]
    cases Nat.blt i s <;> rfl
  have s3 : ∀ {i}, s ≤ i → i < 64 → sgT s ks (64 + base.length) i = (bif memN i ks then some (64 + base.length + posN i ks) else none) := fun {i} h h' => by
    unfold sgT
    have e1 : Nat.blt i s = false := by cases h2 : Nat.blt i s with | false => rfl | true => simp [Nat.blt_eq] at h2; omega
    have e2 : Nat.ble 64 i = false := by cases h2 : Nat.ble 64 i with | false => rfl | true => have := Nat.le_of_ble_eq_true h2; omega
    rw [e1, e2]; rfl
  refine ⟨fun i j => ?_, fun i h1 h2 => ⟨by rw [hlen]; omega, s2 h1⟩, fun i j o2 hj ho => ?_, fun i j hj => ?_, he⟩
  · rw [hlen]
    constructor
    · rintro ⟨h1, h2⟩
      rcases Nat.lt_or_ge i s with h3 | h3
      · rw [s1 h3] at h2; cases h2
        simp [h3]
      · rcases Nat.lt_or_ge i 64 with h4 | h4
        · rw [s3 h3 h4] at h2
          cases hmem : memN i ks with
          | false => rw [hmem] at h2; cases h2
          | true =>
            rw [hmem] at h2
            simp only [cond_true] at h2
            cases h2
            rw [if_neg (by omega), if_neg (by omega), if_neg (by omega), Nat.add_sub_cancel_left]
            exact posN_get (memN_iff.1 hmem)
        · rw [s2 h4] at h2; cases h2
          rw [if_neg (by omega), if_neg (by omega), if_pos h1]
    · intro h
      split at h
      · cases h; rename_i h3; exact ⟨by omega, s1 h3⟩
      · split at h
        · cases h
        · split at h
          · cases h; rename_i h3 h4 h5; exact ⟨h5, s2 (by omega)⟩
          · rename_i h3 h4 h5
            obtain ⟨h6, h7⟩ := hk h
            refine ⟨by omega, ?_⟩
            have hmem := memN_iff.2 (List.mem_of_getElem? h)
            rw [s3 h6 h7, hmem]
            simp only [cond_true]
            have := nod_inj hnd (posN_get (memN_iff.1 hmem)) h
            rw [this]
            congr 1
            omega
  · split at hj
    · cases hj
      rename_i h3
      rw [pad_low 64 _ _ _ (by omega)] at ho
      cases ho
      exact .inr ⟨_, pad_low 64 l base i (by omega), .inr (hl i h3)⟩
    · split at hj
      · cases hj
      · split at hj
        · cases hj
          rename_i h3 h4 h5
          rw [pad_get _ _ (by omega), List.getElem?_append_left (by omega)] at ho
          obtain ⟨p, hp, hle⟩ := hb.get ho
          rw [List.getElem?_map] at hp
          obtain ⟨o', h6, rfl⟩ := Option.map_eq_some_iff.1 hp
          exact .inr ⟨o', by rw [pad_get _ _ (by omega)]; exact h6, .inr hle⟩
        · rename_i h3 h4 h5
          rw [pad_get _ _ (by omega), List.getElem?_append_right (by omega), hbl, show j - 64 - base.length = j - (64 + base.length) by omega] at ho
          exact .inr ⟨_, pad_low 64 l base i (hk hj).2, ho'.get hj ho⟩
  · rw [pad_len, List.length_append, hbl, hol]
    split at hj
    · cases hj; omega
    · split at hj
      · omega
      · split at hj
        · omega
        · have := (List.getElem?_eq_some_iff.1 hj).1; omega

/-- Environments, one telling less than the other. -/
def EnvLess (σ : Nat → Option Nat) : Env → Env → Prop
  | [], [] => True
  | (t, v) :: e, (t', u) :: e' => (t' = t ∧ Less (mvV σ v) u) ∧ EnvLess σ e e'
  | _, _ => False
theorem EnvLess.lk {σ : Nat → Option Nat} : ∀ {e e' : Env}, EnvLess σ e e' → ∀ t, lk e' t = anyV ∨ Less (mvV σ (Ide.lk e t)) (Ide.lk e' t)
  | [], [], _, t => .inl rfl
  | (u, v) :: e, (u', v') :: e', h, t => by
    obtain ⟨⟨rfl, h1⟩, h2⟩ := h
    simp only [Ide.lk]
    cases Nat.beq u' t with
    | true => exact .inr h1
    | false => exact h2.lk t
  | [], _ :: _, h, _ => h.elim
  | _ :: _, [], h, _ => h.elim

end
end Ide
