/- A reckoner for the ideal meaning: operations that touch no memory. -/
import Derived.Test.YtoikiogaiikheaaSndAI
set_option linter.unusedSectionVars false
set_option linter.unusedVariables false
set_option linter.unusedSimpArgs false
namespace Ide
open Go Go.RowKit

/-- Whether a value is of a type's shape. -/
def xshape (d : Option TypeDesc) (v : Value) : Bool :=
  match d with
  | some (.int k) => (match v with | .int j _ => kbeq j k | _ => false)
  | some .bool => (match v with | .bool _ => true | _ => false)
  | some .string => (match v with | .string _ => true | _ => false)
  | some (.pointer _) => (match v with | .pointer _ => true | _ => false)
  | some (.slice _) => (match v with | .slice .. => true | _ => false)
  | some (.map _ _) => (match v with | .map _ => true | _ => false)
  | some (.struct _) => (match v with | .agg _ => true | _ => false)
  | some (.array _ _) => (match v with | .agg _ => true | _ => false)
  | _ => true

theorem xshape_sound {d : Option TypeDesc} {v : Value} {K : Value → Prop} (h : xshape d v = true) (hk : K v) : shaped d v K := by
  unfold xshape at h
  unfold shaped
  split at h
  · cases v <;> first | cases h | skip
    simp only [isI, h, cond_true]
    rw [← kbeq_eq h]; exact hk
  · cases v <;> first | exact hk | cases h
  · cases v <;> first | exact hk | cases h
  · cases v <;> first | exact hk | cases h
  · cases v <;> first | exact hk | cases h
  · cases v <;> first | exact hk | cases h
  · cases v <;> first | exact hk | cases h
  · cases v <;> first | exact hk | cases h
  · rename_i h1 h2 h3 h4 h5 h6 h7 h8
    split <;> first | exact hk | (simp_all; done)

section
variable {P : Program} {H : IHeap} {h : XHeap}

def xpc (a : Option Addr) : Option (Nat × Nat) :=
  match a with
  | some ⟨i, o, none⟩ => some (i, o)
  | _ => none
theorem xpc_sound {a : Option Addr} {r : Nat × Nat} (hx : xpc a = some r) : a = some ⟨r.1, r.2, none⟩ := by
  unfold xpc at hx; split at hx <;> cases hx; rfl

def xac (a : Option Addr) : Option (Nat × Nat × Nat) :=
  match a with
  | some ⟨i, o, some q⟩ => some (i, o, q)
  | _ => none
theorem xac_sound {a : Option Addr} {r : Nat × Nat × Nat} (hx : xac a = some r) : a = some ⟨r.1, r.2.1, some r.2.2⟩ := by
  unfold xac at hx; split at hx <;> cases hx; rfl

def xptr (v : Value) : Option (Nat × Nat) :=
  match v with
  | .pointer a => xpc a
  | _ => none
theorem xptr_sound {v : Value} {r : Nat × Nat} (hx : xptr v = some r) : v = ptrTo r.1 r.2 := by
  unfold xptr at hx
  split at hx
  · rw [xpc_sound hx]; rfl
  · cases hx

def xtl (n : List Value) : Bool := match n with | [] => true | _ => false

def xparts (P : Program) : List TypeId → List Value → Bool
  | [], vs => (match vs with | [] => true | _ => false)
  | t :: ts, vs => (match vs with | v :: r => xshape (P.underlying t) v && xparts P ts r | [] => false)

theorem xparts_sound : ∀ {ts : List TypeId} {vs acc : List Value} {K : List Value → Prop}, xparts P ts vs = true → K (acc ++ vs) → parts P ts vs acc K
  | [], [], acc, K, _, hk => by simpa [parts, tl] using hk
  | [], _ :: _, acc, K, hx, _ => by cases hx
  | t :: ts, [], acc, K, hx, _ => by cases hx
  | t :: ts, v :: r, acc, K, hx, hk => by
    have hx' : xshape (P.underlying t) v = true ∧ xparts P ts r = true := by simpa [xparts] using hx
    simp only [parts, hd]
    exact xshape_sound hx'.1 (xparts_sound hx'.2 (by simpa using hk))

def xresult (P : Program) (t : TypeId) (v : Value) : Bool :=
  match P.underlying t with
  | some (.tuple ⟨ts⟩) => (match v with | .tuple ⟨vs⟩ => xparts P ts vs | _ => false)
  | d => xshape d v

theorem xresult_sound {t : TypeId} {v : Value} {K : Value → Prop} (hx : xresult P t v = true) (hk : K v) : result P t v K := by
  unfold xresult at hx
  unfold result
  split at hx
  · rename_i ts hu
    simp only [hu]
    split at hx
    · exact xparts_sound hx (by simpa using hk)
    · cases hx
  · rename_i hn
    split
    · rename_i ts hu; exact (hn _ hu).elim
    · exact xshape_sound hx hk

def xfieldAddr (P : Program) (t : TypeId) (v : Value) (f : Nat) : Option Value :=
  match xptr v, fieldOff P t f with
  | some (i, o), some (off, _) => some (ptrTo i (o + off))
  | _, _ => none
theorem xfieldAddr_sound {t : TypeId} {v : Value} {f : Nat} {r : Value} (hx : xfieldAddr P t v f = some r) {K : Value → Prop} (hk : K r) : fieldAddr P t v f K := by
  unfold xfieldAddr at hx
  split at hx
  · rename_i i o off ft hp hf
    cases hx
    rw [xptr_sound hp]
    unfold fieldAddr
    simp only [ptrTo, hf]
    exact hk
  · cases hx

def xpart (P : Program) (t : TypeId) (cs : List Value) (off : Nat) : Option Value :=
  match P.underlying t with
  | some (.struct _) => bif Nat.ble (off + ssz P t) cs.length then some (.agg ⟨(cs.drop off).take (ssz P t)⟩) else none
  | some (.array _ _) => bif Nat.ble (off + ssz P t) cs.length then some (.agg ⟨(cs.drop off).take (ssz P t)⟩) else none
  | some d => match cs[off]? with | some v => bif xshape (some d) v then some v else none | none => none
  | none => none

theorem xpart_sound {t : TypeId} {cs : List Value} {off : Nat} {r : Value} (hx : xpart P t cs off = some r) {K : Value → Prop} (hk : K r) : part P t cs off K := by
  have many : ∀ {r : Value}, (bif Nat.ble (off + ssz P t) cs.length then some (Value.agg ⟨(cs.drop off).take (ssz P t)⟩) else none) = some r → K r → cellsOf cs off (ssz P t) fun vs => K (.agg ⟨vs⟩) := by
    intro r hb hk
    cases hl : Nat.ble (off + ssz P t) cs.length with
    | false => rw [hl] at hb; cases hb
    | true => rw [hl] at hb; cases hb; exact ⟨Nat.le_of_ble_eq_true hl, hk⟩
  unfold xpart at hx
  unfold part
  split at hx
  · simp only [*]; exact many hx hk
  · simp only [*]; exact many hx hk
  · rename_i d h1 h2 hu
    split at hx
    · rename_i v hv
      cases hb : xshape (some d) v with
      | false => rw [hb] at hx; cases hx
      | true =>
        rw [hb] at hx; cases hx
        split
        · rename_i e; rw [hu] at e; cases e; exact (h1 _ rfl).elim
        · rename_i e; rw [hu] at e; cases e; exact (h2 _ _ rfl).elim
        · rename_i d' _ _ e
          rw [hu] at e; cases e
          unfold cellOf
          rw [hv]
          exact xshape_sound hb hk
        · rename_i e; rw [hu] at e; cases e
    · cases hx
  · cases hx

def xfield (P : Program) (t : TypeId) (v : Value) (f : Nat) : Option Value :=
  match v, fieldOff P t f with
  | .agg ⟨cs⟩, some (off, ft) => xpart P ft cs off
  | _, _ => none
theorem xfield_sound {t : TypeId} {v : Value} {f : Nat} {r : Value} (hx : xfield P t v f = some r) {K : Value → Prop} (hk : K r) : field P t v f K := by
  unfold xfield at hx
  unfold field
  split at hx
  · simp only [*]; exact xpart_sound hx hk
  · cases hx

/-- 0 ≤ i < n -/
def xin (i : Int) (n : Nat) : Bool :=
  match i with
  | .ofNat k => Nat.blt k n
  | .negSucc _ => false
theorem xin_sound {i : Int} {n : Nat} (hx : xin i n = true) : 0 ≤ i ∧ i < n := by
  unfold xin at hx
  split at hx
  · rename_i k
    have : k < n := by simpa [Nat.blt_eq] using hx
    exact ⟨Int.natCast_nonneg k, by simp; omega⟩
  · cases hx

def xindexAddr (P : Program) (t : TypeId) (v i : Value) : Option Value :=
  match P.underlying t, v, i with
  | some (.slice e), .slice a n m, .int _ i =>
    bif Nat.ble 1 (ssz P e) && xin i n then (match xac a with | some (b, o, _) => some (ptrTo b (o + i.toNat * ssz P e)) | none => none) else none
  | some (.array n e), .pointer a, .int _ i =>
    bif Nat.ble 1 (ssz P e) && xin i n then (match xpc a with | some (b, o) => some (ptrTo b (o + i.toNat * ssz P e)) | none => none) else none
  | _, _, _ => none

theorem bif_some {α : Type} {b : Bool} {x : Option α} {r : α} (h : (bif b then x else none) = some r) : b = true ∧ x = some r := by
  cases b
  · cases h
  · exact ⟨rfl, h⟩

theorem xindexAddr_sound {t : TypeId} {v i r : Value} (hx : xindexAddr P t v i = some r) {K : Value → Prop} (hk : K r) : indexAddr P t v i K := by
  unfold xindexAddr at hx
  unfold indexAddr
  split at hx
  · obtain ⟨hb, hx⟩ := bif_some hx
    simp only [Bool.and_eq_true] at hb
    simp only [*, cond_true]
    split at hx
    · rename_i b o q ha
      cases hx
      obtain ⟨h1, h2⟩ := xin_sound hb.2
      refine ⟨h1, h2, ?_⟩
      rw [xac_sound ha]
      exact hk
    · cases hx
  · obtain ⟨hb, hx⟩ := bif_some hx
    simp only [Bool.and_eq_true] at hb
    simp only [*, cond_true]
    split at hx
    · rename_i b o ha
      cases hx
      obtain ⟨h1, h2⟩ := xin_sound hb.2
      refine ⟨h1, h2, ?_⟩
      rw [xpc_sound ha]
      exact hk
    · cases hx
  · cases hx

def xindex (P : Program) (t : TypeId) (v i : Value) : Option Value :=
  match P.underlying t, v, i with
  | some .string, .string s, .int _ i => bif xin i s.size then (match s[i.toNat]? with | some b => some (.int .u8 b.toNat) | none => none) else none
  | some (.array n e), .agg ⟨cs⟩, .int _ i => bif Nat.ble 1 (ssz P e) && xin i n then xpart P e cs (i.toNat * ssz P e) else none
  | _, _, _ => none
theorem xindex_sound {t : TypeId} {v i r : Value} (hx : xindex P t v i = some r) {K : Value → Prop} (hk : K r) : index P t v i K := by
  unfold xindex at hx
  unfold index
  split at hx
  · obtain ⟨hb, hx⟩ := bif_some hx
    simp only [*]
    split at hx
    · rename_i b hb'
      cases hx
      exact ⟨(xin_sound hb).1, b, hb', hk⟩
    · cases hx
  · obtain ⟨hb, hx⟩ := bif_some hx
    simp only [Bool.and_eq_true] at hb
    simp only [*, cond_true]
    exact ⟨(xin_sound hb.2).1, (xin_sound hb.2).2, xpart_sound hx hk⟩
  · cases hx

/-- Not zero. -/
def xnz (b : Int) : Bool :=
  match b with
  | .ofNat 0 => false
  | _ => true
theorem xnz_sound {b : Int} (h : xnz b = true) : b ≠ 0 := by rintro rfl; cases h

def xintBin (op : BinOp) (k : IntKind) (a b : Int) : Option Value :=
  match op with
  | .add => some (.int k (k.wrap (a + b)))
  | .sub => some (.int k (k.wrap (a - b)))
  | .mul => some (.int k (k.wrap (a * b)))
  | .quo => bif xnz b then some (.int k (k.wrap (a.tdiv b))) else none
  | .rem => bif xnz b then some (.int k (a.tmod b)) else none
  | .and => some (.int k (k.wrap (BitVec.ofInt k.bits a &&& BitVec.ofInt k.bits b).toNat))
  | .or => some (.int k (k.wrap (BitVec.ofInt k.bits a ||| BitVec.ofInt k.bits b).toNat))
  | .xor => some (.int k (k.wrap (BitVec.ofInt k.bits a ^^^ BitVec.ofInt k.bits b).toNat))
  | .eql => some (.bool (a == b))
  | .neq => some (.bool (a != b))
  | .lss => some (.bool (a < b))
  | .leq => some (.bool (a ≤ b))
  | .gtr => some (.bool (a > b))
  | .geq => some (.bool (a ≥ b))
  | _ => none
theorem xintBin_sound {op : BinOp} {k : IntKind} {a b : Int} {r : Value} (hx : xintBin op k a b = some r) {K : Value → Prop} (hk : K r) : intBin op k a b K := by
  unfold xintBin at hx
  unfold intBin
  split at hx <;> first
    | (cases hx; exact hk)
    | (obtain ⟨hb, hx⟩ := bif_some hx; cases hx; exact ⟨xnz_sound hb, hk⟩)
    | cases hx

def xstrBin (op : BinOp) (x y : ByteArray) : Option Value :=
  match op with
  | .eql => some (.bool (x.toList == y.toList))
  | .neq => some (.bool (!(x.toList == y.toList)))
  | _ => none
theorem xstrBin_sound {op : BinOp} {x y : ByteArray} {r : Value} (hx : xstrBin op x y = some r) {K : Value → Prop} (hk : K r) : strBin op x y K := by
  unfold xstrBin at hx
  unfold strBin
  split at hx <;> first | (cases hx; exact hk) | cases hx

def xeqAgg (P : Program) (t : TypeId) (xs ys : List Value) : Option Bool :=
  match flat P 10 t with
  | some l => bif P.eqGuardType P.depth t || !isAggT P t then none else eqB P l xs ys
  | none => none
theorem xeqAgg_sound {t : TypeId} {xs ys : List Value} {r : Bool} (hx : xeqAgg P t xs ys = some r) {K : Bool → Prop} (hk : K r) : eqAgg P t xs ys K := by
  unfold xeqAgg at hx
  unfold eqAgg
  split at hx
  · simp only [*]
    cases hb : P.eqGuardType P.depth t || !isAggT P t with
    | true => rw [hb] at hx; cases hx
    | false =>
      rw [hb] at hx
      simp only [cond_false] at hx ⊢
      rw [hx]
      exact hk
  · cases hx

def nilX (a : Option Addr) (m : Nat) : Option Bool :=
  match a with
  | none => some true
  | some a => bif Nat.ble 1 m || Nat.beq (a.spot.getD 0 % 2) 1 then some false else none

def xnilEq (d : Option TypeDesc) (x y : Value) : Option Bool :=
  match d, x, y with
  | some (.slice _), .slice none _ _, .slice b _ m => nilX b m
  | some (.slice _), .slice a _ m, .slice none _ _ => nilX a m
  | some (.pointer _), .pointer none, .pointer b => some b.isNone
  | some (.pointer _), .pointer a, .pointer none => some a.isNone
  | some (.map _ _), .map none, .map b => some b.isNone
  | some (.map _ _), .map a, .map none => some a.isNone
  | _, _, _ => none
theorem xnilEq_sound {d : Option TypeDesc} {x y : Value} {r : Bool} (hx : xnilEq d x y = some r) {K : Bool → Prop} (hk : K r) : nilEq d x y K := by
  have key : ∀ {a : Option Addr} {m : Nat}, nilX a m = some r → nilB a m K := fun {a m} h => by
    unfold nilX at h
    unfold nilB
    cases a with
    | none => cases h; exact hk
    | some a =>
      simp only at h ⊢
      cases hb : (Nat.ble 1 m || Nat.beq (a.spot.getD 0 % 2) 1) with
      | true => rw [hb] at h; cases h; exact hk
      | false => rw [hb] at h; cases h
  unfold xnilEq at hx
  unfold nilEq
  split at hx
  · exact key hx
  · rename_i a _ _ _ _ hna
    cases a with
    | none => exact (hna rfl).elim
    | some a => exact key hx
  all_goals first | (cases hx; simp only [*]; done) | (cases hx; exact hk) | (cases hx; split <;> simp_all; done) | cases hx

def xnn (b : Int) : Bool :=
  match b with
  | .ofNat _ => true
  | _ => false
theorem xnn_sound {b : Int} (h : xnn b = true) : 0 ≤ b := by
  cases b with
  | ofNat n => exact Int.natCast_nonneg n
  | negSucc n => cases h

def xbinOp (P : Program) (op : BinOp) (t : TypeId) (x y : Value) : Option Value :=
  match x, y with
  | .int k a, .int k' b =>
    match op with
    | .shl => bif xnn b then some (.int k (k.wrap (a * 2 ^ (min b.toNat k.bits)))) else none
    | .shr => bif xnn b then some (.int k (a.fdiv (2 ^ (min b.toNat k.bits)))) else none
    | _ => bif kbeq k k' then xintBin op k a b else none
  | .string a, .string b => xstrBin op a b
  | .bool a, .bool b =>
    match op with
    | .eql => (match P.underlying t with | some .bool => some (.bool (a == b)) | _ => none)
    | .neq => (match P.underlying t with | some .bool => some (.bool (!(a == b))) | _ => none)
    | _ => none
  | .agg ⟨xs⟩, .agg ⟨ys⟩ =>
    match op with
    | .eql => (xeqAgg P t xs ys).map .bool
    | .neq => (xeqAgg P t xs ys).map fun b => .bool (!b)
    | _ => none
  | x, y =>
    match op with
    | .eql => (xnilEq (P.underlying t) x y).map .bool
    | .neq => (xnilEq (P.underlying t) x y).map fun b => .bool (!b)
    | _ => none

theorem xbinOp_sound {op : BinOp} {t : TypeId} {x y r : Value} (hx : xbinOp P op t x y = some r) {K : Value → Prop} (hk : K r) : binOp P op t x y K := by
  unfold xbinOp at hx
  unfold binOp
  split at hx
  · split at hx
    · obtain ⟨hb, hx⟩ := bif_some hx; cases hx; exact ⟨xnn_sound hb, hk⟩
    · obtain ⟨hb, hx⟩ := bif_some hx; cases hx; exact ⟨xnn_sound hb, hk⟩
    · rename_i n1 n2
      obtain ⟨hb, hx⟩ := bif_some hx
      cases op <;> first | exact (n1 rfl).elim | exact (n2 rfl).elim | exact ⟨kbeq_eq hb, xintBin_sound hx hk⟩
  · exact xstrBin_sound hx hk
  · split at hx
    · split at hx
      · cases hx; simp only [*]
      · cases hx
    · split at hx
      · cases hx; simp only [*]
      · cases hx
    · cases hx
  · split at hx
    · obtain ⟨b, h1, rfl⟩ := Option.map_eq_some_iff.1 hx
      exact xeqAgg_sound h1 hk
    · obtain ⟨b, h1, rfl⟩ := Option.map_eq_some_iff.1 hx
      exact xeqAgg_sound h1 hk
    · cases hx
  · rename_i h1 h2 h3 h4
    split at hx
    · obtain ⟨b, hb, rfl⟩ := Option.map_eq_some_iff.1 hx
      split <;> first | exact xnilEq_sound hb hk | exact (h1 _ _ _ _ rfl rfl).elim | exact (h2 _ _ rfl rfl).elim | exact (h3 _ _ rfl rfl).elim | exact (h4 _ _ rfl rfl).elim
    · obtain ⟨b, hb, rfl⟩ := Option.map_eq_some_iff.1 hx
      split <;> first | exact xnilEq_sound hb hk | exact (h1 _ _ _ _ rfl rfl).elim | exact (h2 _ _ rfl rfl).elim | exact (h3 _ _ rfl rfl).elim | exact (h4 _ _ rfl rfl).elim
    · cases hx

def xunOp (op : UnOp) (x : Value) : Option Value :=
  match op, x with
  | .not, .bool b => some (.bool (!b))
  | .neg, .int k n => some (.int k (k.wrap (0 - n)))
  | _, _ => none
theorem xunOp_sound {op : UnOp} {x r : Value} (hx : xunOp op x = some r) {K : Value → Prop} (hk : K r) : unOp op x K := by
  unfold xunOp at hx
  unfold unOp
  split at hx <;> first | (cases hx; exact hk) | cases hx

def xconvert (P : Program) (s d : TypeId) (x : Value) : Option Value :=
  match P.underlying s, P.underlying d, x with
  | some (.int _), some (.int k), .int _ n => some (.int k (k.wrap n))
  | some .string, some .string, .string s => some (.string s)
  | _, _, _ => none
theorem xconvert_sound {s d : TypeId} {x r : Value} (hx : xconvert P s d x = some r) {K : Value → Prop} (hk : K r) : convert P s d x K := by
  unfold xconvert at hx
  unfold convert
  split at hx <;> first | (cases hx; simp only [*]; done) | cases hx

/-- A bound as a number. -/
def xbound (v : Option Value) (d : Nat) : Option Nat :=
  match v with
  | none => some d
  | some (.int _ (.ofNat n)) => some n
  | _ => none
theorem xbound_sound {v : Option Value} {d r : Nat} (hx : xbound v d = some r) {K : Int → Prop} (hk : K r) : bound v d K := by
  unfold xbound at hx
  unfold bound
  split at hx <;> first | (cases hx; exact hk) | cases hx

def xbound? (v : Option Value) : Option (Option Nat) :=
  match v with
  | none => some none
  | some (.int _ (.ofNat n)) => some (some n)
  | _ => none
theorem xboundq_sound {v : Option Value} {r : Option Nat} (hx : xbound? v = some r) {K : Option Int → Prop} (hk : K (r.map Int.ofNat)) : bound? v K := by
  unfold xbound? at hx
  unfold bound?
  split at hx <;> first | (cases hx; exact hk) | cases hx

def xslice (P : Program) (t : TypeId) (h : XHeap) (x : Value) (lo hi mx : Option Value) : Option Value :=
  match P.underlying t, x with
  | some (.slice e), .slice a n c =>
    bif Nat.ble 1 (ssz P e) && (mx.isNone || hi.isSome) then
      match xbound lo 0, xbound hi n, xbound? mx, a with
      | some l, some h, some m, none =>
        bif Nat.beq l 0 && Nat.beq h 0 && (match m with | some m => Nat.beq m 0 | none => true) then some (.slice none 0 0) else none
      | some l, some h, some none, some ⟨i, o, some q⟩ =>
        bif Nat.beq (q / 2) (ssz P e) && Nat.ble l h && Nat.ble h c then some (.slice (some ⟨i, o + l * ssz P e, some q⟩) (h - l) (c - l)) else none
      | some l, some h, some (some m), some ⟨i, o, some q⟩ =>
        bif Nat.beq (q / 2) (ssz P e) && Nat.ble l h && Nat.ble h m && Nat.ble m c then some (.slice (some ⟨i, o + l * ssz P e, some (exq (ssz P e) (m - l))⟩) (h - l) (m - l)) else none
      | _, _, _, _ => none
    else none
  | some .string, .string s =>
    match xbound lo 0, xbound hi s.size, xbound? mx with
    | some l, some h, some none => bif Nat.ble l h && Nat.ble h s.size then some (.string (s.extract l h)) else none
    | _, _, _ => none
  | some (.array n e), .pointer a =>
    bif Nat.ble 1 (ssz P e) then
      match xpc a, xbound lo 0, xbound hi n, xbound? mx with
      | some (i, o), some l, some m, some none =>
        (match h.t.get i with
        | some (.cells cs true) => bif Nat.ble l m && Nat.ble m n && Nat.ble (o + n * ssz P e) cs.length then some (.slice (some ⟨i, o + l * ssz P e, some (2 * ssz P e + 1)⟩) (m - l) (n - l)) else none
        | _ => none)
      | _, _, _, _ => none
    else none
  | _, _ => none

theorem xslice_sound (hr : RepH H h) {t : TypeId} {x : Value} {lo hi mx : Option Value} {r : Value} (hx : xslice P t h x lo hi mx = some r) {K : Value → Prop} (hk : K r) : slice P t H x lo hi mx K := by
  unfold xslice at hx
  unfold slice
  split at hx
  · rename_i e a n c hu
    obtain ⟨hb, hx⟩ := bif_some hx
    simp only [hu, hb, cond_true]
    split at hx
    · rename_i l h m hl hh hm _
      obtain ⟨hb2, hx⟩ := bif_some hx
      cases hx
      simp only [Bool.and_eq_true] at hb2
      have e1 := Nat.eq_of_beq_eq_true hb2.1.1
      have e2 := Nat.eq_of_beq_eq_true hb2.1.2
      refine xbound_sound hl (xbound_sound hh (xboundq_sound hm ?_))
      unfold cut
      refine ⟨by rw [e1]; rfl, by rw [e2]; rfl, ?_, hk⟩
      cases m with
      | none => trivial
      | some m => have := Nat.eq_of_beq_eq_true hb2.2; simp [this]
    · rename_i l h i o q hl hh hm _
      obtain ⟨hb2, hx⟩ := bif_some hx
      cases hx
      simp only [Bool.and_eq_true] at hb2
      refine xbound_sound hl (xbound_sound hh (xboundq_sound hm ?_))
      unfold cut
      exact ⟨Nat.eq_of_beq_eq_true hb2.1.1, Int.natCast_nonneg _, by exact_mod_cast Nat.le_of_ble_eq_true hb2.1.2, by exact_mod_cast Nat.le_of_ble_eq_true hb2.2, hk⟩
    · rename_i l h m i o q hl hh hm _
      obtain ⟨hb2, hx⟩ := bif_some hx
      cases hx
      simp only [Bool.and_eq_true] at hb2
      refine xbound_sound hl (xbound_sound hh (xboundq_sound hm ?_))
      unfold cut
      exact ⟨Nat.eq_of_beq_eq_true hb2.1.1.1, Int.natCast_nonneg _, by exact_mod_cast Nat.le_of_ble_eq_true hb2.1.1.2, by simp; exact_mod_cast Nat.le_of_ble_eq_true hb2.1.2, by simp; exact_mod_cast Nat.le_of_ble_eq_true hb2.2, hk⟩
    · cases hx
  · rename_i s hu
    simp only [hu]
    split at hx
    · rename_i l h hl hh hm
      obtain ⟨hb2, hx⟩ := bif_some hx
      cases hx
      simp only [Bool.and_eq_true] at hb2
      refine xbound_sound hl (xbound_sound hh (xboundq_sound hm ?_))
      exact ⟨rfl, Int.natCast_nonneg _, by exact_mod_cast Nat.le_of_ble_eq_true hb2.1, by exact_mod_cast Nat.le_of_ble_eq_true hb2.2, hk⟩
    · cases hx
  · rename_i n e a hu
    obtain ⟨hb, hx⟩ := bif_some hx
    simp only [hu, hb, cond_true]
    split at hx
    · rename_i i o l m ha hl hh hm
      split at hx
      · rename_i cs hc
        obtain ⟨hb2, hx⟩ := bif_some hx
        cases hx
        simp only [Bool.and_eq_true] at hb2
        refine xbound_sound hl (xbound_sound hh (xboundq_sound hm ?_))
        rw [xpc_sound ha]
        exact ⟨rfl, Int.natCast_nonneg _, Int.ofNat_le.2 (Nat.le_of_ble_eq_true hb2.1.1), Int.ofNat_le.2 (Nat.le_of_ble_eq_true hb2.1.2), ⟨cs, (hr.2 i).trans hc, Nat.le_of_ble_eq_true hb2.2⟩, hk⟩
      · cases hx
    · cases hx
  · cases hx

def xfill (place : Nat → Option (Nat × Nat)) (cells : List Value) : List (Nat × Value) → Option (List Value)
  | [] => some cells
  | (i, v) :: rest =>
    match place i, vcells v with
    | some (off, sz), some vs => bif Nat.beq vs.length sz && Nat.ble (off + vs.length) cells.length then xfill place (splice cells off vs) rest else none
    | _, _ => none
theorem xfill_sound {place : Nat → Option (Nat × Nat)} : ∀ {ps : List (Nat × Value)} {cells r : List Value}, xfill place cells ps = some r → ∀ {K : List Value → Prop}, K r → fillL place cells ps K
  | [], cells, r, hx, K, hk => by cases hx; exact hk
  | (i, v) :: rest, cells, r, hx, K, hk => by
    simp only [xfill] at hx
    simp only [fillL]
    split at hx
    · simp only [*]
      obtain ⟨hb, hx⟩ := bif_some hx
      simp only [Bool.and_eq_true] at hb
      exact ⟨⟨Nat.eq_of_beq_eq_true hb.1, Nat.le_of_ble_eq_true hb.2⟩, xfill_sound hx hk⟩
    · cases hx

def xbuild (P : Program) (t : TypeId) (ps : List (Nat × Value)) : Option Value :=
  match P.underlying t, zeroOf P t with
  | some (.struct ⟨fs⟩), some zs => bif fs.all (fun f => (P.info? f.type).isSome) then (xfill (fun i => (fieldPlaces P fs)[i]?) zs ps).map fun cs => .agg ⟨cs⟩ else none
  | some (.array _ e), some zs => bif (P.info? e).isSome then (xfill (fun i => some (i * ssz P e, ssz P e)) zs ps).map fun cs => .agg ⟨cs⟩ else none
  | _, _ => none
theorem xbuild_sound {t : TypeId} {ps : List (Nat × Value)} {r : Value} (hx : xbuild P t ps = some r) {K : Value → Prop} (hk : K r) : build P t ps K := by
  unfold xbuild at hx
  unfold build
  split at hx
  · obtain ⟨hb, hx⟩ := bif_some hx
    obtain ⟨cs, h1, rfl⟩ := Option.map_eq_some_iff.1 hx
    simp only [*, cond_true]
    exact xfill_sound h1 hk
  · obtain ⟨hb, hx⟩ := bif_some hx
    obtain ⟨cs, h1, rfl⟩ := Option.map_eq_some_iff.1 hx
    simp only [*, cond_true]
    exact xfill_sound h1 hk
  · cases hx

def xmm (mx : Bool) (k : IntKind) : Int → List Value → Option Value
  | a, [] => some (.int k a)
  | a, .int _ b :: r => xmm mx k (match mx with | true => if b > a then b else a | false => if b < a then b else a) r
  | _, _ => none
theorem xmm_sound {mx : Bool} {k : IntKind} : ∀ {vs : List Value} {a : Int} {r : Value}, xmm mx k a vs = some r → ∀ {K : Value → Prop}, K r → minMaxGo mx k a vs K
  | [], a, r, hx, K, hk => by cases hx; exact hk
  | v :: vs, a, r, hx, K, hk => by
    cases v <;> first | (cases hx; done) | skip
    simp only [xmm] at hx
    simp only [minMaxGo]
    exact xmm_sound hx hk

def xminMax (mx : Bool) (vs : List Value) : Option Value :=
  match vs with
  | .int k a :: r => xmm mx k a r
  | _ => none
theorem xminMax_sound {mx : Bool} {vs : List Value} {r : Value} (hx : xminMax mx vs = some r) {K : Value → Prop} (hk : K r) : minMax mx vs K := by
  unfold xminMax at hx
  unfold minMax
  split at hx
  · exact xmm_sound hx hk
  · cases hx

def xextract (v : Value) (i : Nat) : Option Value :=
  match v with
  | .tuple ⟨vs⟩ => vs[i]?
  | _ => none
theorem xextract_sound {v : Value} {i : Nat} {r : Value} (hx : xextract v i = some r) {K : Value → Prop} (hk : K r) : extractOf v i K := by
  unfold xextract at hx
  unfold extractOf
  split at hx
  · rename_i vs
    show cellOf vs i K
    unfold cellOf; rw [hx]; exact hk
  · cases hx

end
end Ide

/- A reckoner for the ideal meaning: operations on memory. -/
set_option linter.unusedVariables false
set_option linter.unusedSimpArgs false
namespace Ide
open Go Go.RowKit

section
variable {P : Program} {H : IHeap} {h : XHeap}

def xcell (h : XHeap) (i o : Nat) : Option Value :=
  match h.t.get i with
  | some (.cells cs _) => cs[o]?
  | _ => none
theorem xcell_eq (hr : RepH H h) (i o : Nat) : cellAt H i o = xcell h i o := by
  unfold cellAt xcell
  rw [hr.2 i]
  rfl

def xcells (h : XHeap) (i o n : Nat) : Option (List Value) :=
  match h.t.get i with
  | some (.cells cs _) => bif Nat.ble (o + n) cs.length then some ((cs.drop o).take n) else none
  | _ => none
theorem xcells_sound (hr : RepH H h) {i o n : Nat} {cs : List Value} (hx : xcells h i o n = some cs) : cellsAt H i o n = some cs := by
  unfold xcells at hx
  unfold cellsAt
  rw [hr.2 i]
  split at hx
  · rename_i cs0 rw hc
    obtain ⟨hb, hx⟩ := bif_some hx
    simp only [hc]
    rw [if_pos (Nat.le_of_ble_eq_true hb)]
    exact hx
  · cases hx

def xload (P : Program) (t : TypeId) (h : XHeap) (i o : Nat) : Option Value :=
  match P.underlying t with
  | some (.struct _) => (xcells h i o (ssz P t)).map fun cs => .agg ⟨cs⟩
  | some (.array _ _) => (xcells h i o (ssz P t)).map fun cs => .agg ⟨cs⟩
  | some d => (match xcell h i o with | some v => bif xshape (some d) v && noAgg v then some v else none | none => none)
  | none => none

theorem xload_sound (hr : RepH H h) {t : TypeId} {i o : Nat} {r : Value} (hx : xload P t h i o = some r) {K : Value → Prop} (hk : K r) : load P t H i o K := by
  unfold xload at hx
  split at hx
  · rename_i fs hu
    obtain ⟨cs, h1, rfl⟩ := Option.map_eq_some_iff.1 hx
    unfold load
    simp only [hu]
    exact ⟨cs, xcells_sound hr h1, hk⟩
  · rename_i n e hu
    obtain ⟨cs, h1, rfl⟩ := Option.map_eq_some_iff.1 hx
    unfold load
    simp only [hu]
    exact ⟨cs, xcells_sound hr h1, hk⟩
  · rename_i d h1 h2 hu
    split at hx
    · rename_i v hv
      obtain ⟨hb, hx⟩ := bif_some hx
      cases hx
      simp only [Bool.and_eq_true] at hb
      have hc := (xcell_eq hr i o).trans hv
      have hs := hb.1
      unfold xshape at hs
      unfold load
      rw [hu]
      cases d with
      | int k => cases r <;> first | (cases hs; done) | (have e := kbeq_eq hs; subst e; exact ⟨_, hc, hk⟩)
      | bool => cases r <;> first | (cases hs; done) | exact ⟨_, hc, hk⟩
      | string => cases r <;> first | (cases hs; done) | exact ⟨_, hc, hk⟩
      | pointer e => cases r <;> first | (cases hs; done) | exact ⟨_, hc, hk⟩
      | slice e => cases r <;> first | (cases hs; done) | exact ⟨_, _, _, hc, hk⟩
      | map a b => cases r <;> first | (cases hs; done) | exact ⟨_, hc, hk⟩
      | struct fs => exact (h1 _ rfl).elim
      | array n e => exact (h2 _ _ rfl).elim
      | _ => exact ⟨r, hc, hb.2, hk⟩
    · cases hx
  · cases hx

def xst (h : XHeap) (i o : Nat) (vs : List Value) : Option XHeap :=
  match h.t.get i with
  | some (.cells cs true) => bif Nat.ble (o + vs.length) cs.length then h.set i (.cells (splice cs o vs) true) else none
  | _ => none
theorem xst_sound (hr : RepH H h) {i o : Nat} {vs : List Value} {h' : XHeap} (hx : xst h i o vs = some h') : ∃ H', RepH H' h' ∧ ∀ K : IHeap → Prop, K H' → stCells H i o vs K := by
  unfold xst at hx
  split at hx
  · rename_i cs hc
    obtain ⟨hb, hx⟩ := bif_some hx
    exact ⟨_, set_rep hr hx, fun K hk => ⟨cs, (hr.2 i).trans hc, Nat.le_of_ble_eq_true hb, hk⟩⟩
  · cases hx

def xstV (P : Program) (t : TypeId) (h : XHeap) (i o : Nat) (v : Value) : Option XHeap :=
  match vcells v with
  | some vs => bif Nat.ble 1 (ssz P t) && Nat.beq vs.length (ssz P t) && vs.all okCell then xst h i o vs else none
  | none => none
theorem xstV_sound (hr : RepH H h) {t : TypeId} {i o : Nat} {v : Value} {h' : XHeap} (hx : xstV P t h i o v = some h') : ∃ H', RepH H' h' ∧ ∀ K : IHeap → Prop, K H' → stV P t H i o v K := by
  unfold xstV at hx
  split at hx
  · rename_i vs hv
    obtain ⟨hb, hx⟩ := bif_some hx
    simp only [Bool.and_eq_true] at hb
    obtain ⟨H', h1, h2⟩ := xst_sound hr hx
    refine ⟨H', h1, fun K hk => ?_⟩
    unfold stV
    simp only [hv, hb.1.1, cond_true]
    exact ⟨⟨Nat.eq_of_beq_eq_true hb.1.2, hb.2⟩, h2 K hk⟩
  · cases hx

def xnew (h : XHeap) (cs : List Value) : Option (Value × XHeap) :=
  match h.push (.cells cs true) with
  | some h' => some (ptrTo h.n 0, h')
  | none => none
theorem xnew_sound (hr : RepH H h) {cs : List Value} {r : Value × XHeap} (hx : xnew h cs = some r) : RepH (newO H (.cells cs true)) r.2 ∧ r.1 = newPtr H := by
  unfold xnew at hx
  split at hx
  · rename_i h' hp
    cases hx
    exact ⟨push_repO hr hp, by simp [newPtr, ptrTo, hr.1, pos_end]⟩
  · cases hx

def xbox (v : Value) (h : XHeap) : Option (Value × XHeap) :=
  match vcells v with
  | some cs => xnew h cs
  | none => none
theorem xbox_sound (hr : RepH H h) {v : Value} {r : Value × XHeap} (hx : xbox v h = some r) : ∃ H', RepH H' r.2 ∧ ∀ K : Value → IHeap → Prop, K r.1 H' → box v H K := by
  unfold xbox at hx
  split at hx
  · rename_i cs hv
    obtain ⟨h1, h2⟩ := xnew_sound hr hx
    refine ⟨_, h1, fun K hk => ?_⟩
    rw [h2] at hk
    unfold vcells at hv
    unfold box
    split at hv <;> first | (cases hv; exact hk) | (cases hv; done)
  · cases hx

def xalloc (P : Program) (t : TypeId) (h : XHeap) : Option (Value × XHeap) :=
  match zeroOf P t with
  | some cs => xnew h cs
  | none => none
theorem xalloc_sound (hr : RepH H h) {t : TypeId} {r : Value × XHeap} (hx : xalloc P t h = some r) : ∃ H', RepH H' r.2 ∧ ∀ K : Value → IHeap → Prop, K r.1 H' → alloc P t H K := by
  unfold xalloc at hx
  split at hx
  · rename_i cs hz
    obtain ⟨h1, h2⟩ := xnew_sound hr hx
    refine ⟨_, h1, fun K hk => ?_⟩
    rw [h2] at hk
    unfold alloc
    rw [hz]
    exact hk
  · cases hx

/-- A new row of cells as a slice. -/
def xrow (h : XHeap) (cs : List Value) (q n : Nat) : Option (Value × XHeap) :=
  match h.push (.cells cs true) with
  | some h' => some (.slice (some ⟨h.n, 0, some q⟩) n n, h')
  | none => none
theorem xrow_sound (hr : RepH H h) {cs : List Value} {q n : Nat} {r : Value × XHeap} (hx : xrow h cs q n = some r) : RepH (newO H (.cells cs true)) r.2 ∧ r.1 = .slice (some ⟨Pol.pos H, 0, some q⟩) n n := by
  unfold xrow at hx
  split at hx
  · rename_i h' hp
    cases hx
    exact ⟨push_repO hr hp, by rw [pos_end, hr.1]⟩
  · cases hx

def xbuildSlice (P : Program) (t : TypeId) (len : Nat) (ps : List (Nat × Value)) (h : XHeap) : Option (Value × XHeap) :=
  match P.underlying t with
  | some (.slice e) =>
    match zeroOf P e with
    | some zs =>
      bif Nat.beq zs.length (ssz P e) && Nat.ble 1 (ssz P e) && Nat.ble (len * ssz P e) 16777216 then
        (match xfill (fun i => some (i * ssz P e, ssz P e)) (repeatL len zs) ps with
        | some cs => xrow h cs (2 * ssz P e + 1) len
        | none => none)
      else none
    | none => none
  | _ => none
theorem xbuildSlice_sound (hr : RepH H h) {t : TypeId} {len : Nat} {ps : List (Nat × Value)} {r : Value × XHeap} (hx : xbuildSlice P t len ps h = some r) : ∃ H', RepH H' r.2 ∧ ∀ K : Value → IHeap → Prop, K r.1 H' → buildSlice P t len ps H K := by
  unfold xbuildSlice at hx
  split at hx
  · rename_i e hu
    split at hx
    · rename_i zs hz
      obtain ⟨hb, hx⟩ := bif_some hx
      split at hx
      · rename_i cs hf
        obtain ⟨h1, h2⟩ := xrow_sound hr hx
        refine ⟨_, h1, fun K hk => ?_⟩
        rw [h2] at hk
        unfold buildSlice
        simp only [hu, hz, hb, cond_true]
        exact xfill_sound hf hk
      · cases hx
    · cases hx
  · cases hx

def xmakeSlice (P : Program) (t : TypeId) (l c : Value) (h : XHeap) : Option (Value × XHeap) :=
  match P.underlying t, l, c with
  | some (.slice e), .int _ (.ofNat n), .int _ (.ofNat m) =>
    match zeroOf P e with
    | some zs =>
      bif Nat.beq zs.length (ssz P e) && Nat.ble 1 (ssz P e) && Nat.beq n m && Nat.ble (n * sby P e) 281474976710656 && Nat.ble n 281474976710656 then
        xrow h (repeatL n zs) (2 * ssz P e + 1) n
      else none
    | none => none
  | _, _, _ => none
theorem xmakeSlice_sound (hr : RepH H h) {t : TypeId} {l c : Value} {r : Value × XHeap} (hx : xmakeSlice P t l c h = some r) : ∃ H', RepH H' r.2 ∧ ∀ K : Value → IHeap → Prop, K r.1 H' → makeSlice P t l c H K := by
  unfold xmakeSlice at hx
  split at hx
  · rename_i e k n k' m hu
    split at hx
    · rename_i zs hz
      obtain ⟨hb, hx⟩ := bif_some hx
      simp only [Bool.and_eq_true] at hb
      obtain ⟨⟨⟨⟨b1, b2⟩, b3⟩, b4⟩, b5⟩ := hb
      obtain ⟨h1, h2⟩ := xrow_sound hr hx
      refine ⟨_, h1, fun K hk => ?_⟩
      rw [h2] at hk
      have e3 := Nat.eq_of_beq_eq_true b3
      have e4 := Nat.le_of_ble_eq_true b4
      have e5 := Nat.le_of_ble_eq_true b5
      unfold makeSlice
      simp only [hu, hz, b1, b2, Bool.and_self, cond_true]
      refine ⟨by rw [e3], Int.natCast_nonneg _, ?_, ?_, hk⟩
      · show ((n : Int)) * (sby P e : Int) ≤ 281474976710656
        rw [← Int.natCast_mul]
        exact Int.ofNat_le.2 e4
      · show ((n : Int)) ≤ 281474976710656
        exact Int.ofNat_le.2 e5
    · cases hx
  · cases hx

end
end Ide

/- A reckoner for the ideal meaning: append, maps, builtins. -/
set_option linter.unusedVariables false
set_option linter.unusedSimpArgs false
namespace Ide
open Go Go.RowKit

section
variable {P : Program} {H : IHeap} {h : XHeap}

def xsliceCells (h : XHeap) (a : Option Addr) (n sz : Nat) : Option (List Value) :=
  match a with
  | none => bif Nat.beq n 0 then some [] else none
  | some ⟨i, o, some _⟩ => xcells h i o (n * sz)
  | _ => none
theorem xsliceCells_sound (hr : RepH H h) {a : Option Addr} {n sz : Nat} {r : List Value} (hx : xsliceCells h a n sz = some r) {K : List Value → Prop} (hk : K r) : sliceCells H a n sz K := by
  unfold xsliceCells at hx
  unfold sliceCells
  split at hx
  · obtain ⟨hb, hx⟩ := bif_some hx
    cases hx
    exact ⟨Nat.eq_of_beq_eq_true hb, hk⟩
  · exact ⟨r, xcells_sound hr hx, hk⟩
  · cases hx

def xappended (h : XHeap) (a : Option Addr) (n c m sz : Nat) (old new : List Value) : Option (Value × XHeap) :=
  bif Nat.beq m 0 then some (.slice a n c, h)
  else
    match a with
    | none => xrow h (old ++ new) (2 * sz) (n + m)
    | some ⟨i, o, some q⟩ =>
      bif Nat.beq (q / 2) sz && new.all okCell then
        bif Nat.ble (n + m) c then
          match xst h i (o + n * sz) new with
          | some h' => some (.slice (some ⟨i, o, some q⟩) (n + m) c, h')
          | none => none
        else
          bif Nat.beq (q % 2) 1 then xrow h (old ++ new) (2 * sz) (n + m)
          else
            match h.t.get i with
            | some (.cells _ true) =>
              match h.set i .dead with
              | some h' => xrow h' (old ++ new) (2 * sz) (n + m)
              | none => none
            | _ => none
      else none
    | _ => none

theorem xappended_sound (hr : RepH H h) {a : Option Addr} {n c m sz : Nat} {old new : List Value} {r : Value × XHeap} (hx : xappended h a n c m sz old new = some r) :
    ∃ H', RepH H' r.2 ∧ ∀ K : Value → IHeap → Prop, K r.1 H' → appended H a n c m sz old new K := by
  unfold xappended at hx
  unfold appended
  cases hm : Nat.beq m 0 with
  | true =>
    rw [hm] at hx
    cases hx
    exact ⟨H, hr, fun K hk => hk⟩
  | false =>
    rw [hm] at hx
    simp only [cond_false] at hx
    show ∃ H', RepH H' r.2 ∧ ∀ K : Value → IHeap → Prop, K r.1 H' → _
    split at hx
    · obtain ⟨h1, h2⟩ := xrow_sound hr hx
      exact ⟨_, h1, fun K hk => by rw [h2] at hk; exact hk⟩
    · rename_i i o q
      obtain ⟨hb, hx⟩ := bif_some hx
      simp only [Bool.and_eq_true] at hb
      have hq : q / 2 = sz ∧ new.all okCell = true := ⟨Nat.eq_of_beq_eq_true hb.1, hb.2⟩
      cases hfit : Nat.ble (n + m) c with
      | true =>
        rw [hfit] at hx
        simp only [cond_true] at hx
        split at hx
        · rename_i h' hst
          cases hx
          obtain ⟨H', g1, g2⟩ := xst_sound hr hst
          have := Nat.le_of_ble_eq_true hfit
          exact ⟨H', g1, fun K hk => ⟨hq, fun _ => g2 _ hk, fun hlt => by omega⟩⟩
        · cases hx
      | false =>
        rw [hfit] at hx
        simp only [cond_false] at hx
        have hlt : ¬ n + m ≤ c := fun hle => by rw [Nat.ble_eq_true_of_le hle] at hfit; cases hfit
        cases hodd : Nat.beq (q % 2) 1 with
        | true =>
          rw [hodd] at hx
          obtain ⟨h1, h2⟩ := xrow_sound hr hx
          exact ⟨_, h1, fun K hk => ⟨hq, fun h => (hlt h).elim, fun _ => by rw [h2] at hk; rw [hodd]; exact hk⟩⟩
        | false =>
          rw [hodd] at hx
          simp only [cond_false] at hx
          split at hx
          · rename_i cs hc
            split at hx
            · rename_i h' hs
              obtain ⟨h1, h2⟩ := xrow_sound (set_rep hr hs) hx
              refine ⟨_, h1, fun K hk => ⟨hq, fun h => (hlt h).elim, fun _ => ?_⟩⟩
              rw [h2] at hk
              rw [hodd]
              refine ⟨⟨cs, (hr.2 i).trans hc⟩, ?_⟩
              simpa [newSlice, pos_end] using hk
            · cases hx
          · cases hx
    · cases hx

def xappend (P : Program) (t : TypeId) (x y : Value) (h : XHeap) : Option (Value × XHeap) :=
  match P.underlying t, x, y with
  | some (.slice e), .slice a n c, .slice b m _ =>
    bif rowOk P e && Nat.ble ((n + m) * sby P e) 70368744177664 && Nat.ble (n + m) 70368744177664 then
      match xsliceCells h a n (ssz P e), xsliceCells h b m (ssz P e) with
      | some old, some new => xappended h a n c m (ssz P e) old new
      | _, _ => none
    else none
  | _, _, _ => none
theorem xappend_sound (hr : RepH H h) {t : TypeId} {x y : Value} {r : Value × XHeap} (hx : xappend P t x y h = some r) : ∃ H', RepH H' r.2 ∧ ∀ K : Value → IHeap → Prop, K r.1 H' → append P t x y H K := by
  unfold xappend at hx
  split at hx
  · rename_i e a n c b m c' hu
    obtain ⟨hb, hx⟩ := bif_some hx
    simp only [Bool.and_eq_true] at hb
    split at hx
    · rename_i old new ho hn
      obtain ⟨H', h1, h2⟩ := xappended_sound hr hx
      refine ⟨H', h1, fun K hk => ?_⟩
      unfold append
      simp only [hu, hb.1.1, cond_true]
      exact ⟨⟨Nat.le_of_ble_eq_true hb.1.2, Nat.le_of_ble_eq_true hb.2⟩, xsliceCells_sound hr ho (xsliceCells_sound hr hn (.inl (h2 K hk)))⟩
    · cases hx
  · cases hx

/-! ### maps -/
def xmapAt (h : XHeap) (r : Nat) : Option (List MapEntry × Nat) :=
  match h.t.get r with
  | some (.map es c) => some (es, c)
  | _ => none
theorem xmapAt_sound (hr : RepH H h) {r : Nat} {p : List MapEntry × Nat} (hx : xmapAt h r = some p) : H[r]? = some (.map p.1 p.2) := by
  unfold xmapAt at hx
  split at hx
  · rename_i es c hc
    cases hx
    exact (hr.2 r).trans hc
  · cases hx

def xmapLook (h : XHeap) (m : Option Nat) : Option (List MapEntry) :=
  match m with
  | none => some []
  | some r => (xmapAt h r).map (·.1)
theorem xmapLook_sound (hr : RepH H h) {m : Option Nat} {es : List MapEntry} (hx : xmapLook h m = some es) {K : List MapEntry → Prop} (hk : K es) : mapLook H m K := by
  unfold xmapLook at hx
  unfold mapLook
  split at hx
  · cases hx; exact hk
  · obtain ⟨p, h1, rfl⟩ := Option.map_eq_some_iff.1 hx
    exact ⟨p.1, p.2, xmapAt_sound hr h1, hk⟩

def xlookup (P : Program) (t : TypeId) (h : XHeap) (m k : Value) (ok : Bool) : Option Value :=
  match P.underlying t, m with
  | some (.map kt et), .map r =>
    match zeroV P et, xmapLook h r with
    | some z, some es =>
      bif keyOk P kt k then
        match findE P kt k es with
        | some (some e) => bif xshape (P.underlying et) e.val then some (okV ok e.val true) else none
        | some none => some (okV ok z false)
        | none => none
      else none
    | _, _ => none
  | _, _ => none
theorem xlookup_sound (hr : RepH H h) {t : TypeId} {m k r : Value} {ok : Bool} (hx : xlookup P t h m k ok = some r) {K : Value → Prop} (hk : K r) : lookup P t H m k ok K := by
  unfold xlookup at hx
  split at hx
  · rename_i kt et r0 hu
    split at hx
    · rename_i z es hz hes
      obtain ⟨hb, hx⟩ := bif_some hx
      unfold lookup
      simp only [hu, hz]
      refine ⟨hb, xmapLook_sound hr hes ?_⟩
      unfold lookE
      split at hx
      · rename_i e he
        obtain ⟨hs, hx⟩ := bif_some hx
        cases hx
        simp only [he]
        exact xshape_sound hs hk
      · rename_i he
        cases hx
        simp only [he]
        exact hk
      · cases hx
    · cases hx
  · cases hx

def xmapUpdate (P : Program) (t : TypeId) (h : XHeap) (m k v : Value) : Option XHeap :=
  match P.underlying t, m with
  | some (.map kt et), .map (some r) =>
    match xmapAt h r with
    | some (es, clock) =>
      bif keyOk P kt k then
        match findE P kt k es with
        | some (some _) => h.set r (.map (setVal P kt k v es) clock)
        | some none => h.set r (.map (es ++ [{ key := k, val := v, born := clock }]) (clock + 1))
        | none => none
      else none
    | none => none
  | _, _ => none
theorem xmapUpdate_sound (hr : RepH H h) {t : TypeId} {m k v : Value} {h' : XHeap} (hx : xmapUpdate P t h m k v = some h') : ∃ H', RepH H' h' ∧ ∀ K : IHeap → Prop, K H' → mapUpdate P t H m k v K := by
  unfold xmapUpdate at hx
  split at hx
  · rename_i kt et r hu
    split at hx
    · rename_i es clock hm
      obtain ⟨hb, hx⟩ := bif_some hx
      have hH := xmapAt_sound hr hm
      split at hx
      · rename_i e he
        refine ⟨_, set_rep hr hx, fun K hk => ?_⟩
        unfold mapUpdate
        simp only [hu]
        refine ⟨hb, es, clock, hH, ?_⟩
        unfold putE
        simp only [he]
        exact hk
      · rename_i he
        refine ⟨_, set_rep hr hx, fun K hk => ?_⟩
        unfold mapUpdate
        simp only [hu]
        refine ⟨hb, es, clock, hH, ?_⟩
        unfold putE
        simp only [he]
        exact hk
      · cases hx
    · cases hx
  · cases hx

def xmapDelete (P : Program) (t : TypeId) (h : XHeap) (m k : Value) : Option XHeap :=
  match P.underlying t, m with
  | some (.map kt et), .map (some r) =>
    match xmapAt h r with
    | some (es, clock) => bif keyOk P kt k && (findE P kt k es).isSome then h.set r (.map (eraseE P kt k es) clock) else none
    | none => none
  | some (.map kt et), .map none => bif keyOk P kt k then some h else none
  | _, _ => none
theorem xmapDelete_sound (hr : RepH H h) {t : TypeId} {m k : Value} {h' : XHeap} (hx : xmapDelete P t h m k = some h') : ∃ H', RepH H' h' ∧ ∀ K : IHeap → Prop, K H' → mapDelete P t H m k K := by
  unfold xmapDelete at hx
  split at hx
  · rename_i kt et r hu
    split at hx
    · rename_i es clock hm
      obtain ⟨hb, hx⟩ := bif_some hx
      simp only [Bool.and_eq_true] at hb
      refine ⟨_, set_rep hr hx, fun K hk => ?_⟩
      unfold mapDelete
      simp only [hu]
      exact ⟨hb.1, es, clock, xmapAt_sound hr hm, hb.2, hk⟩
    · cases hx
  · rename_i kt et hu
    obtain ⟨hb, hx⟩ := bif_some hx
    cases hx
    refine ⟨H, hr, fun K hk => ?_⟩
    unfold mapDelete
    simp only [hu]
    exact ⟨hb, hk⟩
  · cases hx

end
end Ide

/- A reckoner for the ideal meaning: one operation. -/
set_option linter.unusedVariables false
set_option linter.unusedSimpArgs false
namespace Ide
open Go Go.RowKit

section
variable {P : Program} {H : IHeap} {h : XHeap}

def xmapEntry (P : Program) (t : TypeId) (h : XHeap) (m k : Value) : Option (Value × XHeap) :=
  match P.underlying t, m with
  | some (.map kt et), .map (some r) =>
    match zeroV P et, xmapAt h r with
    | some z, some (es, clock) =>
      bif keyOk P kt k then
        match findE P kt k es with
        | some (some e) =>
          bif xshape (P.underlying et) e.val then
            (match h.set r (.map (setVal P kt k e.val es) clock) with | some h' => some (.tuple ⟨[e.val, .int .i64 e.born]⟩, h') | none => none)
          else none
        | some none =>
          (match h.set r (.map (es ++ [{ key := k, val := z, born := clock }]) (clock + 1)) with | some h' => some (.tuple ⟨[z, .int .i64 clock]⟩, h') | none => none)
        | none => none
      else none
    | _, _ => none
  | _, _ => none
theorem xmapEntry_sound (hr : RepH H h) {t : TypeId} {m k : Value} {r : Value × XHeap} (hx : xmapEntry P t h m k = some r) : ∃ H', RepH H' r.2 ∧ ∀ K : Value → IHeap → Prop, K r.1 H' → mapEntry P t H m k K := by
  unfold xmapEntry at hx
  split at hx
  · rename_i kt et r0 hu
    split at hx
    · rename_i z es clock hz hm
      obtain ⟨hb, hx⟩ := bif_some hx
      have hH := xmapAt_sound hr hm
      split at hx
      · rename_i e he
        obtain ⟨hs, hx⟩ := bif_some hx
        split at hx
        · rename_i h' hset
          cases hx
          refine ⟨_, set_rep hr hset, fun K hk => ?_⟩
          unfold mapEntry
          simp only [hu, hz]
          refine ⟨hb, es, clock, hH, ?_⟩
          simp only [he]
          exact xshape_sound hs hk
        · cases hx
      · rename_i he
        split at hx
        · rename_i h' hset
          cases hx
          refine ⟨_, set_rep hr hset, fun K hk => ?_⟩
          unfold mapEntry
          simp only [hu, hz]
          refine ⟨hb, es, clock, hH, ?_⟩
          simp only [he]
          exact hk
        · cases hx
      · cases hx
    · cases hx
  · cases hx

def xentryStore (h : XHeap) (m s v : Value) : Option XHeap :=
  match m, s with
  | .map (some r), .int _ b =>
    match xmapAt h r with
    | some (es, clock) => (match setBorn b v es with | some es' => h.set r (.map es' clock) | none => none)
    | none => none
  | _, _ => none
theorem xentryStore_sound (hr : RepH H h) {m s v : Value} {h' : XHeap} (hx : xentryStore h m s v = some h') : ∃ H', RepH H' h' ∧ ∀ K : IHeap → Prop, K H' → entryStore H m s v K := by
  unfold xentryStore at hx
  split at hx
  · split at hx
    · rename_i es clock hm
      split at hx
      · rename_i es' he
        exact ⟨_, set_rep hr hx, fun K hk => ⟨es, clock, xmapAt_sound hr hm, es', he, hk⟩⟩
      · cases hx
    · cases hx
  · cases hx

def xlen (P : Program) (t : TypeId) (h : XHeap) (v : Value) : Option Value :=
  match P.underlying t, v with
  | some .string, .string s => some (.int .i64 s.size)
  | some (.slice _), .slice _ n _ => some (.int .i64 n)
  | some (.array n _), _ => some (.int .i64 n)
  | some (.pointer a), _ => (match P.underlying a with | some (.array n _) => some (.int .i64 n) | _ => none)
  | some (.map _ _), .map r => (xmapLook h r).map fun es => .int .i64 es.length
  | _, _ => none
theorem xlen_sound (hr : RepH H h) {t : TypeId} {v r : Value} (hx : xlen P t h v = some r) {K : Value → Prop} (hk : K r) : lenOf P t H v K := by
  unfold xlen at hx
  unfold lenOf
  split at hx
  · cases hx; simp only [*]
  · cases hx; simp only [*]
  · cases hx; simp only [*]
  · split at hx
    · cases hx; simp only [*]
    · cases hx
  · obtain ⟨es, h1, rfl⟩ := Option.map_eq_some_iff.1 hx
    simp only [*]
    exact xmapLook_sound hr h1 hk
  · cases hx

def xclear (P : Program) (t : TypeId) (h : XHeap) (v : Value) : Option XHeap :=
  match P.underlying t, v with
  | some (.map _ _), .map none => some h
  | some (.map _ _), .map (some r) => (match xmapAt h r with | some (_, clock) => h.set r (.map [] clock) | none => none)
  | some (.slice e), .slice a n _ =>
    bif Nat.beq n 0 then some h
    else
      (match xac a, zeroOf P e with
      | some (i, o, _), some zs => bif (Nat.beq zs.length (ssz P e) && Nat.ble 1 (ssz P e)) && zs.all okCell then xst h i o (repeatL n zs) else none
      | _, _ => none)
  | _, _ => none
theorem xclear_sound (hr : RepH H h) {t : TypeId} {v : Value} {h' : XHeap} (hx : xclear P t h v = some h') : ∃ H', RepH H' h' ∧ ∀ K : IHeap → Prop, K H' → clearOf P t H v K := by
  unfold xclear at hx
  split at hx
  · rename_i hu
    cases hx
    refine ⟨H, hr, fun K hk => ?_⟩
    unfold clearOf
    simp only [hu]
    exact hk
  · rename_i r hu
    split at hx
    · rename_i es clock hm
      refine ⟨_, set_rep hr hx, fun K hk => ?_⟩
      unfold clearOf
      simp only [hu]
      exact ⟨es, clock, xmapAt_sound hr hm, hk⟩
    · cases hx
  · rename_i e a n m hu
    cases h0 : Nat.beq n 0 with
    | true =>
      rw [h0] at hx
      cases hx
      refine ⟨H, hr, fun K hk => ?_⟩
      unfold clearOf
      simp only [hu, h0]
      exact hk
    | false =>
      rw [h0] at hx
      simp only [cond_false] at hx
      split at hx
      · rename_i i o q zs ha hz
        obtain ⟨hb, hx⟩ := bif_some hx
        obtain ⟨H', g1, g2⟩ := xst_sound hr hx
        refine ⟨H', g1, fun K hk => ?_⟩
        unfold clearOf
        simp only [hu, h0, xac_sound ha]
        show zeros P e n fun zs => stCells H i o zs K
        unfold zeros
        simp only [hz, hb, cond_true]
        exact g2 K hk
      · cases hx
  · cases hx

def xcopy (P : Program) (t : TypeId) (h : XHeap) (x y : Value) : Option (Value × XHeap) :=
  match P.underlying t, x, y with
  | some (.slice e), .slice a n _, .slice b m _ =>
    bif Nat.ble 1 (ssz P e) then
      match xsliceCells h b (min m n) (ssz P e) with
      | some new =>
        bif Nat.beq (min m n) 0 then some (.int .i64 0, h)
        else
          (match xac a with
          | some (i, o, _) => bif new.all okCell then (match xst h i o new with | some h' => some (.int .i64 (min m n : Nat), h') | none => none) else none
          | none => none)
      | none => none
    else none
  | _, _, _ => none
theorem xcopy_sound (hr : RepH H h) {t : TypeId} {x y : Value} {r : Value × XHeap} (hx : xcopy P t h x y = some r) : ∃ H', RepH H' r.2 ∧ ∀ K : Value → IHeap → Prop, K r.1 H' → copyOf P t H x y K := by
  unfold xcopy at hx
  split at hx
  · rename_i e a n c b m c' hu
    obtain ⟨hb, hx⟩ := bif_some hx
    split at hx
    · rename_i new hn
      cases h0 : Nat.beq (min m n) 0 with
      | true =>
        rw [h0] at hx
        cases hx
        refine ⟨H, hr, fun K hk => ?_⟩
        unfold copyOf
        simp only [hu, hb, cond_true]
        refine xsliceCells_sound hr hn ?_
        rw [h0]
        exact hk
      | false =>
        rw [h0] at hx
        simp only [cond_false] at hx
        split at hx
        · rename_i i o q ha
          obtain ⟨hok, hx⟩ := bif_some hx
          split at hx
          · rename_i h' hst
            cases hx
            obtain ⟨H', g1, g2⟩ := xst_sound hr hst
            refine ⟨H', g1, fun K hk => ?_⟩
            unfold copyOf
            simp only [hu, hb, cond_true]
            refine xsliceCells_sound hr hn ?_
            rw [h0, xac_sound ha]
            exact ⟨hok, g2 _ hk⟩
          · cases hx
        · cases hx
    · cases hx
  · cases hx

def xevs (e : XEnv) : List Operand → List Value
  | [] => []
  | x :: l => (match x with | .tmp t => XEnv.lk e t | .const v => v | .global g => .pointer (some ⟨g, 0, none⟩) | .func f => .func (.func f) #[] #[]) :: xevs e l

def xev (e : XEnv) (x : Operand) : Value :=
  match x with
  | .tmp t => XEnv.lk e t
  | .const v => v
  | .global g => .pointer (some ⟨g, 0, none⟩)
  | .func f => .func (.func f) #[] #[]

theorem xev_eq {env : Env} {e : XEnv} (hr : RepE env e) (x : Operand) : iev env x = xev e x := by
  cases x <;> first | exact hr _ | rfl

/-- One operation that calls no function. -/
def xop (P : Program) (o : Oper) (e : XEnv) (h : XHeap) : Option (Value × XHeap) :=
  let pure' (v : Option Value) : Option (Value × XHeap) := match v with | some v => some (v, h) | none => none
  let unit' (h' : Option XHeap) : Option (Value × XHeap) := match h' with | some h' => some (anyV, h') | none => none
  match o.op with
  | .move x => some (xev e x, h)
  | .assign x => some (xev e x, h)
  | .pick c a b => (match xev e c with | .bool c => some (bif c then xev e a else xev e b, h) | _ => none)
  | .alloc t => xalloc P t h
  | .box _ x => xbox (xev e x) h
  | .build t ps => pure' (xbuild P t (ps.toList.map fun p => (p.1, xev e p.2)))
  | .buildSlice t n ps => xbuildSlice P t n (ps.toList.map fun p => (p.1, xev e p.2)) h
  | .load t a => (match xptr (xev e a) with | some (i, f) => pure' (xload P t h i f) | none => none)
  | .store t a x => (match xptr (xev e a) with | some (i, f) => unit' (xstV P t h i f (xev e x)) | none => none)
  | .nilCheck x => (match xptr (xev e x) with | some (i, f) => some (ptrTo i f, h) | none => (match xev e x with | .func f a b => some (.func f a b, h) | _ => none))
  | .binOp op t x y _ => pure' (xbinOp P op t (xev e x) (xev e y))
  | .unOp op _ x => pure' (xunOp op (xev e x))
  | .convert s d x => pure' (xconvert P s d (xev e x))
  | .makeFunc (.func f) first cap => some (.func (.func f) ⟨first.toList.map (xev e)⟩ ⟨cap.toList.map (xev e)⟩, h)
  | .makeMap _ none => (match h.push (.map [] 0) with | some h' => some (.map (some h.n), h') | none => none)
  | .makeSlice t l c => xmakeSlice P t (xev e l) (xev e c) h
  | .slice t x lo hi mx => pure' (xslice P t h (xev e x) (lo.map (xev e)) (hi.map (xev e)) (mx.map (xev e)))
  | .fieldAddr t x f => pure' (xfieldAddr P t (xev e x) f)
  | .field t x f => pure' (xfield P t (xev e x) f)
  | .indexAddr t x i => pure' (xindexAddr P t (xev e x) (xev e i))
  | .index t x i => pure' (xindex P t (xev e x) (xev e i))
  | .lookup t m k ok => pure' (xlookup P t h (xev e m) (xev e k) ok)
  | .mapUpdate t m k v => unit' (xmapUpdate P t h (xev e m) (xev e k) (xev e v))
  | .insert t m k v => unit' (xmapUpdate P t h (xev e m) (xev e k) (xev e v))
  | .mapEntry t m k => xmapEntry P t h (xev e m) (xev e k)
  | .entryStore _ m s v => unit' (xentryStore h (xev e m) (xev e s) (xev e v))
  | .extract x i => pure' (xextract (xev e x) i)
  | .call { callee := .builtin b, args := ⟨as⟩, argTypes := ⟨ts⟩ } =>
    (match b, ts, as with
    | .append, t :: u :: _, x :: y :: _ => (match P.underlying u with | some (.slice _) => xappend P t (xev e x) (xev e y) h | _ => none)
    | .len, t :: _, x :: _ => pure' (xlen P t h (xev e x))
    | .min, _, vs => pure' (xminMax false (vs.map (xev e)))
    | .max, _, vs => pure' (xminMax true (vs.map (xev e)))
    | .delete, t :: _, m :: k :: _ => (match xmapDelete P t h (xev e m) (xev e k) with | some h' => some (.tuple ⟨[]⟩, h') | none => none)
    | .clear, t :: _, x :: _ => (match xclear P t h (xev e x) with | some h' => some (.tuple ⟨[]⟩, h') | none => none)
    | .copy, t :: u :: _, x :: y :: _ => (match P.underlying u with | some (.slice _) => xcopy P t h (xev e x) (xev e y) | _ => none)
    | _, _, _ => none)
  | _ => none

end
end Ide
