/- A reckoner for the ideal meaning: operations that touch no memory. -/
import Derived.Test.YtjjnlbceoajllaaGreatIdeU
set_option linter.unusedVariables false
set_option linter.unusedSimpArgs false
namespace Ide
open Go Go.RowKit

/-- Whether a value is of a type's shape. -/
def xshape (d : Option TypeDesc) (v : Value) : Bool :=
  match d with
  | some (.int k) => (match v with | .int j _ => kbeq j k | _ => false)
  | some .bool => (match v with | .bool _ => true | _ => false)
  | some .string => (match v with | .string _ => true | _ => false)
  | some (.pointer _) => (match v with | .pointer _ => true | _ => false)
  | some (.slice _) => (match v with | .slice .. => true | _ => false)
  | some (.map _ _) => (match v with | .map _ => true | _ => false)
  | some (.struct _) => (match v with | .agg _ => true | _ => false)
  | some (.array _ _) => (match v with | .agg _ => true | _ => false)
  | _ => true

theorem xshape_sound {d : Option TypeDesc} {v : Value} {K : Value → Prop} (h : xshape d v = true) (hk : K v) : shaped d v K := by
  unfold xshape at h
  unfold shaped
  split at h
  · cases v <;> first | cases h | skip
    simp only [isI, h, cond_true]
    rw [← kbeq_eq h]; exact hk
  · cases v <;> first | exact hk | cases h
  · cases v <;> first | exact hk | cases h
  · cases v <;> first | exact hk | cases h
  · cases v <;> first | exact hk | cases h
  · cases v <;> first | exact hk | cases h
  · cases v <;> first | exact hk | cases h
  · cases v <;> first | exact hk | cases h
  · rename_i h1 h2 h3 h4 h5 h6 h7 h8
    split <;> first | exact hk | (simp_all; done)

section
variable {P : Program} {H : IHeap} {h : XHeap}

def xpc (a : Option Addr) : Option (Nat × Nat) :=
  match a with
  | some ⟨i, o, none⟩ => some (i, o)
  | _ => none
theorem xpc_sound {a : Option Addr} {r : Nat × Nat} (hx : xpc a = some r) : a = some ⟨r.1, r.2, none⟩ := by
  unfold xpc at hx; split at hx <;> cases hx; rfl

def xac (a : Option Addr) : Option (Nat × Nat × Nat) :=
  match a with
  | some ⟨i, o, some q⟩ => some (i, o, q)
  | _ => none
theorem xac_sound {a : Option Addr} {r : Nat × Nat × Nat} (hx : xac a = some r) : a = some ⟨r.1, r.2.1, some r.2.2⟩ := by
  unfold xac at hx; split at hx <;> cases hx; rfl

def xptr (v : Value) : Option (Nat × Nat) :=
  match v with
  | .pointer a => xpc a
  | _ => none
theorem xptr_sound {v : Value} {r : Nat × Nat} (hx : xptr v = some r) : v = ptrTo r.1 r.2 := by
  unfold xptr at hx
  split at hx
  · rw [xpc_sound hx]; rfl
  · cases hx

def xtl (n : List Value) : Bool := match n with | [] => true | _ => false

def xparts (P : Program) : List TypeId → List Value → Bool
  | [], vs => (match vs with | [] => true | _ => false)
  | t :: ts, vs => (match vs with | v :: r => xshape (P.underlying t) v && xparts P ts r | [] => false)

theorem xparts_sound : ∀ {ts : List TypeId} {vs acc : List Value} {K : List Value → Prop}, xparts P ts vs = true → K (acc ++ vs) → parts P ts vs acc K
  | [], [], acc, K, _, hk => by simpa [parts, tl] using hk
  | [], _ :: _, acc, K, hx, _ => by cases hx
  | t :: ts, [], acc, K, hx, _ => by cases hx
  | t :: ts, v :: r, acc, K, hx, hk => by
    have hx' : xshape (P.underlying t) v = true ∧ xparts P ts r = true := by simpa [xparts] using hx
    simp only [parts, hd]
    exact xshape_sound hx'.1 (xparts_sound hx'.2 (by simpa using hk))

def xresult (P : Program) (t : TypeId) (v : Value) : Bool :=
  match P.underlying t with
  | some (.tuple ⟨ts⟩) => (match v with | .tuple ⟨vs⟩ => xparts P ts vs | _ => false)
  | d => xshape d v

theorem xresult_sound {t : TypeId} {v : Value} {K : Value → Prop} (hx : xresult P t v = true) (hk : K v) : result P t v K := by
  unfold xresult at hx
  unfold result
  split at hx
  · rename_i ts hu
    simp only [hu]
    split at hx
    · exact xparts_sound hx (by simpa using hk)
    · cases hx
  · rename_i hn
    split
    · rename_i ts hu; exact (hn _ hu).elim
    · exact xshape_sound hx hk

def xfieldAddr (P : Program) (t : TypeId) (v : Value) (f : Nat) : Option Value :=
  match xptr v, fieldOff P t f with
  | some (i, o), some (off, _) => some (ptrTo i (o + off))
  | _, _ => none
theorem xfieldAddr_sound {t : TypeId} {v : Value} {f : Nat} {r : Value} (hx : xfieldAddr P t v f = some r) {K : Value → Prop} (hk : K r) : fieldAddr P t v f K := by
  unfold xfieldAddr at hx
  split at hx
  · rename_i i o off ft hp hf
    cases hx
    rw [xptr_sound hp]
    unfold fieldAddr
    simp only [ptrTo, hf]
    exact hk
  · cases hx

def xpart (P : Program) (t : TypeId) (cs : List Value) (off : Nat) : Option Value :=
  match P.underlying t with
  | some (.struct _) => bif Nat.ble (off + ssz P t) cs.length then some (.agg ⟨(cs.drop off).take (ssz P t)⟩) else none
  | some (.array _ _) => bif Nat.ble (off + ssz P t) cs.length then some (.agg ⟨(cs.drop off).take (ssz P t)⟩) else none
  | some d => match cs[off]? with | some v => bif xshape (some d) v then some v else none | none => none
  | none => none

theorem xpart_sound {t : TypeId} {cs : List Value} {off : Nat} {r : Value} (hx : xpart P t cs off = some r) {K : Value → Prop} (hk : K r) : part P t cs off K := by
  have many : ∀ {r : Value}, (bif Nat.ble (off + ssz P t) cs.length then some (Value.agg ⟨(cs.drop off).take (ssz P t)⟩) else none) = some r → K r → cellsOf cs off (ssz P t) fun vs => K (.agg ⟨vs⟩) := by
    intro r hb hk
    cases hl : Nat.ble (off + ssz P t) cs.length with
    | false => rw [hl] at hb; cases hb
    | true => rw [hl] at hb; cases hb; exact ⟨Nat.le_of_ble_eq_true hl, hk⟩
  unfold xpart at hx
  unfold part
  split at hx
  · simp only [*]; exact many hx hk
  · simp only [*]; exact many hx hk
  · rename_i d h1 h2 hu
    split at hx
    · rename_i v hv
      cases hb : xshape (some d) v with
      | false => rw [hb] at hx; cases hx
      | true =>
        rw [hb] at hx; cases hx
        split
        · rename_i e; rw [hu] at e; cases e; exact (h1 _ rfl).elim
        · rename_i e; rw [hu] at e; cases e; exact (h2 _ _ rfl).elim
        · rename_i d' _ _ e
          rw [hu] at e; cases e
          unfold cellOf
          rw [hv]
          exact xshape_sound hb hk
        · rename_i e; rw [hu] at e; cases e
    · cases hx
  · cases hx

def xfield (P : Program) (t : TypeId) (v : Value) (f : Nat) : Option Value :=
  match v, fieldOff P t f with
  | .agg ⟨cs⟩, some (off, ft) => xpart P ft cs off
  | _, _ => none
theorem xfield_sound {t : TypeId} {v : Value} {f : Nat} {r : Value} (hx : xfield P t v f = some r) {K : Value → Prop} (hk : K r) : field P t v f K := by
  unfold xfield at hx
  unfold field
  split at hx
  · simp only [*]; exact xpart_sound hx hk
  · cases hx

/-- 0 ≤ i < n -/
def xin (i : Int) (n : Nat) : Bool :=
  match i with
  | .ofNat k => Nat.blt k n
  | .negSucc _ => false
theorem xin_sound {i : Int} {n : Nat} (hx : xin i n = true) : 0 ≤ i ∧ i < n := by
  unfold xin at hx
  split at hx
  · rename_i k
    have : k < n := by simpa [Nat.blt_eq] using hx
    exact ⟨Int.natCast_nonneg k, by simp; omega⟩
  · cases hx

def xindexAddr (P : Program) (t : TypeId) (v i : Value) : Option Value :=
  match P.underlying t, v, i with
  | some (.slice e), .slice a n m, .int _ i =>
    bif Nat.ble 1 (ssz P e) && xin i n then (match xac a with | some (b, o, _) => some (ptrTo b (o + i.toNat * ssz P e)) | none => none) else none
  | some (.array n e), .pointer a, .int _ i =>
    bif Nat.ble 1 (ssz P e) && xin i n then (match xpc a with | some (b, o) => some (ptrTo b (o + i.toNat * ssz P e)) | none => none) else none
  | _, _, _ => none

theorem bif_some {α : Type} {b : Bool} {x : Option α} {r : α} (h : (bif b then x else none) = some r) : b = true ∧ x = some r := by
  cases b
  · cases h
  · exact ⟨rfl, h⟩

theorem xindexAddr_sound {t : TypeId} {v i r : Value} (hx : xindexAddr P t v i = some r) {K : Value → Prop} (hk : K r) : indexAddr P t v i K := by
  unfold xindexAddr at hx
  unfold indexAddr
  split at hx
  · obtain ⟨hb, hx⟩ := bif_some hx
    simp only [Bool.and_eq_true] at hb
    simp only [*, cond_true]
    split at hx
    · rename_i b o q ha
      cases hx
      obtain ⟨h1, h2⟩ := xin_sound hb.2
      refine ⟨h1, h2, ?_⟩
      rw [xac_sound ha]
      exact hk
    · cases hx
  · obtain ⟨hb, hx⟩ := bif_some hx
    simp only [Bool.and_eq_true] at hb
    simp only [*, cond_true]
    split at hx
    · rename_i b o ha
      cases hx
      obtain ⟨h1, h2⟩ := xin_sound hb.2
      refine ⟨h1, h2, ?_⟩
      rw [xpc_sound ha]
      exact hk
    · cases hx
  · cases hx

def xindex (P : Program) (t : TypeId) (v i : Value) : Option Value :=
  match P.underlying t, v, i with
  | some .string, .string s, .int _ i => bif xin i s.size then (match s[i.toNat]? with | some b => some (.int .u8 b.toNat) | none => none) else none
  | some (.array n e), .agg ⟨cs⟩, .int _ i => bif Nat.ble 1 (ssz P e) && xin i n then xpart P e cs (i.toNat * ssz P e) else none
  | _, _, _ => none
theorem xindex_sound {t : TypeId} {v i r : Value} (hx : xindex P t v i = some r) {K : Value → Prop} (hk : K r) : index P t v i K := by
  unfold xindex at hx
  unfold index
  split at hx
  · obtain ⟨hb, hx⟩ := bif_some hx
    simp only [*]
    split at hx
    · rename_i b hb'
      cases hx
      exact ⟨(xin_sound hb).1, b, hb', hk⟩
    · cases hx
  · obtain ⟨hb, hx⟩ := bif_some hx
    simp only [Bool.and_eq_true] at hb
    simp only [*, cond_true]
    exact ⟨(xin_sound hb.2).1, (xin_sound hb.2).2, xpart_sound hx hk⟩
  · cases hx

/-- Not zero. -/
def xnz (b : Int) : Bool :=
  match b with
  | .ofNat 0 => false
  | _ => true
theorem xnz_sound {b : Int} (h : xnz b = true) : b ≠ 0 := by rintro rfl; cases h

def xintBin (op : BinOp) (k : IntKind) (a b : Int) : Option Value :=
  match op with
  | .add => some (.int k (k.wrap (a + b)))
  | .sub => some (.int k (k.wrap (a - b)))
  | .mul => some (.int k (k.wrap (a * b)))
  | .quo => bif xnz b then some (.int k (k.wrap (a.tdiv b))) else none
  | .rem => bif xnz b then some (.int k (a.tmod b)) else none
  | .and => some (.int k (k.wrap (BitVec.ofInt k.bits a &&& BitVec.ofInt k.bits b).toNat))
  | .or => some (.int k (k.wrap (BitVec.ofInt k.bits a ||| BitVec.ofInt k.bits b).toNat))
  | .xor => some (.int k (k.wrap (BitVec.ofInt k.bits a ^^^ BitVec.ofInt k.bits b).toNat))
  | .eql => some (.bool (a == b))
  | .neq => some (.bool (a != b))
  | .lss => some (.bool (a < b))
  | .leq => some (.bool (a ≤ b))
  | .gtr => some (.bool (a > b))
  | .geq => some (.bool (a ≥ b))
  | _ => none
theorem xintBin_sound {op : BinOp} {k : IntKind} {a b : Int} {r : Value} (hx : xintBin op k a b = some r) {K : Value → Prop} (hk : K r) : intBin op k a b K := by
  unfold xintBin at hx
  unfold intBin
  split at hx <;> first
    | (cases hx; exact hk)
    | (obtain ⟨hb, hx⟩ := bif_some hx; cases hx; exact ⟨xnz_sound hb, hk⟩)
    | cases hx

def xstrBin (op : BinOp) (x y : ByteArray) : Option Value :=
  match op with
  | .eql => some (.bool (x.toList == y.toList))
  | .neq => some (.bool (!(x.toList == y.toList)))
  | _ => none
theorem xstrBin_sound {op : BinOp} {x y : ByteArray} {r : Value} (hx : xstrBin op x y = some r) {K : Value → Prop} (hk : K r) : strBin op x y K := by
  unfold xstrBin at hx
  unfold strBin
  split at hx <;> first | (cases hx; exact hk) | cases hx

def xeqAgg (P : Program) (t : TypeId) (xs ys : List Value) : Option Bool :=
  match flat P 10 t with
  | some l => bif P.eqGuardType P.depth t || !isAggT P t then none else eqB P l xs ys
  | none => none
theorem xeqAgg_sound {t : TypeId} {xs ys : List Value} {r : Bool} (hx : xeqAgg P t xs ys = some r) {K : Bool → Prop} (hk : K r) : eqAgg P t xs ys K := by
  unfold xeqAgg at hx
  unfold eqAgg
  split at hx
  · simp only [*]
    cases hb : P.eqGuardType P.depth t || !isAggT P t with
    | true => rw [hb] at hx; cases hx
    | false =>
      rw [hb] at hx
      simp only [cond_false] at hx ⊢
      rw [hx]
      exact hk
  · cases hx

def xnilEq (d : Option TypeDesc) (x y : Value) : Option Bool :=
  match d, x, y with
  | some (.slice _), .slice none _ _, .slice b _ _ => some b.isNone
  | some (.slice _), .slice a _ _, .slice none _ _ => some a.isNone
  | some (.pointer _), .pointer none, .pointer b => some b.isNone
  | some (.pointer _), .pointer a, .pointer none => some a.isNone
  | some (.map _ _), .map none, .map b => some b.isNone
  | some (.map _ _), .map a, .map none => some a.isNone
  | _, _, _ => none
theorem xnilEq_sound {d : Option TypeDesc} {x y : Value} {r : Bool} (hx : xnilEq d x y = some r) {K : Bool → Prop} (hk : K r) : nilEq d x y K := by
  unfold xnilEq at hx
  unfold nilEq
  split at hx <;> first | (cases hx; simp only [*]; done) | (cases hx; exact hk) | (cases hx; split <;> simp_all; done) | cases hx

def xnn (b : Int) : Bool :=
  match b with
  | .ofNat _ => true
  | _ => false
theorem xnn_sound {b : Int} (h : xnn b = true) : 0 ≤ b := by
  cases b with
  | ofNat n => exact Int.natCast_nonneg n
  | negSucc n => cases h

def xbinOp (P : Program) (op : BinOp) (t : TypeId) (x y : Value) : Option Value :=
  match x, y with
  | .int k a, .int k' b =>
    match op with
    | .shl => bif xnn b then some (.int k (k.wrap (a * 2 ^ (min b.toNat k.bits)))) else none
    | .shr => bif xnn b then some (.int k (a.fdiv (2 ^ (min b.toNat k.bits)))) else none
    | _ => bif kbeq k k' then xintBin op k a b else none
  | .string a, .string b => xstrBin op a b
  | .bool a, .bool b =>
    match op with
    | .eql => (match P.underlying t with | some .bool => some (.bool (a == b)) | _ => none)
    | .neq => (match P.underlying t with | some .bool => some (.bool (!(a == b))) | _ => none)
    | _ => none
  | .agg ⟨xs⟩, .agg ⟨ys⟩ =>
    match op with
    | .eql => (xeqAgg P t xs ys).map .bool
    | .neq => (xeqAgg P t xs ys).map fun b => .bool (!b)
    | _ => none
  | x, y =>
    match op with
    | .eql => (xnilEq (P.underlying t) x y).map .bool
    | .neq => (xnilEq (P.underlying t) x y).map fun b => .bool (!b)
    | _ => none

theorem xbinOp_sound {op : BinOp} {t : TypeId} {x y r : Value} (hx : xbinOp P op t x y = some r) {K : Value → Prop} (hk : K r) : binOp P op t x y K := by
  unfold xbinOp at hx
  unfold binOp
  split at hx
  · split at hx
    · obtain ⟨hb, hx⟩ := bif_some hx; cases hx; exact ⟨xnn_sound hb, hk⟩
    · obtain ⟨hb, hx⟩ := bif_some hx; cases hx; exact ⟨xnn_sound hb, hk⟩
    · rename_i n1 n2
      obtain ⟨hb, hx⟩ := bif_some hx
      cases op <;> first | exact (n1 rfl).elim | exact (n2 rfl).elim | exact ⟨kbeq_eq hb, xintBin_sound hx hk⟩
  · exact xstrBin_sound hx hk
  · split at hx
    · split at hx
      · cases hx; simp only [*]
      · cases hx
    · split at hx
      · cases hx; simp only [*]
      · cases hx
    · cases hx
  · split at hx
    · obtain ⟨b, h1, rfl⟩ := Option.map_eq_some_iff.1 hx
      exact xeqAgg_sound h1 hk
    · obtain ⟨b, h1, rfl⟩ := Option.map_eq_some_iff.1 hx
      exact xeqAgg_sound h1 hk
    · cases hx
  · rename_i h1 h2 h3 h4
    split at hx
    · obtain ⟨b, hb, rfl⟩ := Option.map_eq_some_iff.1 hx
      split <;> first | exact xnilEq_sound hb hk | exact (h1 _ _ _ _ rfl rfl).elim | exact (h2 _ _ rfl rfl).elim | exact (h3 _ _ rfl rfl).elim | exact (h4 _ _ rfl rfl).elim
    · obtain ⟨b, hb, rfl⟩ := Option.map_eq_some_iff.1 hx
      split <;> first | exact xnilEq_sound hb hk | exact (h1 _ _ _ _ rfl rfl).elim | exact (h2 _ _ rfl rfl).elim | exact (h3 _ _ rfl rfl).elim | exact (h4 _ _ rfl rfl).elim
    · cases hx

def xunOp (op : UnOp) (x : Value) : Option Value :=
  match op, x with
  | .not, .bool b => some (.bool (!b))
  | .neg, .int k n => some (.int k (k.wrap (0 - n)))
  | _, _ => none
theorem xunOp_sound {op : UnOp} {x r : Value} (hx : xunOp op x = some r) {K : Value → Prop} (hk : K r) : unOp op x K := by
  unfold xunOp at hx
  unfold unOp
  split at hx <;> first | (cases hx; exact hk) | cases hx

def xconvert (P : Program) (s d : TypeId) (x : Value) : Option Value :=
  match P.underlying s, P.underlying d, x with
  | some (.int _), some (.int k), .int _ n => some (.int k (k.wrap n))
  | some .string, some .string, .string s => some (.string s)
  | _, _, _ => none
theorem xconvert_sound {s d : TypeId} {x r : Value} (hx : xconvert P s d x = some r) {K : Value → Prop} (hk : K r) : convert P s d x K := by
  unfold xconvert at hx
  unfold convert
  split at hx <;> first | (cases hx; simp only [*]; done) | cases hx

/-- A bound as a number. -/
def xbound (v : Option Value) (d : Nat) : Option Nat :=
  match v with
  | none => some d
  | some (.int _ (.ofNat n)) => some n
  | _ => none
theorem xbound_sound {v : Option Value} {d r : Nat} (hx : xbound v d = some r) {K : Int → Prop} (hk : K r) : bound v d K := by
  unfold xbound at hx
  unfold bound
  split at hx <;> first | (cases hx; exact hk) | cases hx

def xbound? (v : Option Value) : Option (Option Nat) :=
  match v with
  | none => some none
  | some (.int _ (.ofNat n)) => some (some n)
  | _ => none
theorem xboundq_sound {v : Option Value} {r : Option Nat} (hx : xbound? v = some r) {K : Option Int → Prop} (hk : K (r.map Int.ofNat)) : bound? v K := by
  unfold xbound? at hx
  unfold bound?
  split at hx <;> first | (cases hx; exact hk) | cases hx

def xslice (P : Program) (t : TypeId) (h : XHeap) (x : Value) (lo hi mx : Option Value) : Option Value :=
  match P.underlying t, x with
  | some (.slice e), .slice a n c =>
    bif Nat.ble 1 (ssz P e) && (mx.isNone || hi.isSome) then
      match xbound lo 0, xbound hi n, xbound? mx, a with
      | some l, some h, some m, none =>
        bif Nat.beq l 0 && Nat.beq h 0 && (match m with | some m => Nat.beq m 0 | none => true) then some (.slice none 0 0) else none
      | some l, some h, some none, some ⟨i, o, some q⟩ =>
        bif Nat.beq (q / 2) (ssz P e) && Nat.ble l h && Nat.ble h c then some (.slice (some ⟨i, o + l * ssz P e, some q⟩) (h - l) (c - l)) else none
      | some l, some h, some (some m), some ⟨i, o, some q⟩ =>
        bif Nat.beq (q / 2) (ssz P e) && Nat.ble l h && Nat.ble h m && Nat.ble m c then some (.slice (some ⟨i, o + l * ssz P e, some (2 * ssz P e + 1)⟩) (h - l) (m - l)) else none
      | _, _, _, _ => none
    else none
  | some .string, .string s =>
    match xbound lo 0, xbound hi s.size, xbound? mx with
    | some l, some h, some none => bif Nat.ble l h && Nat.ble h s.size then some (.string (s.extract l h)) else none
    | _, _, _ => none
  | some (.array n e), .pointer a =>
    bif Nat.ble 1 (ssz P e) then
      match xpc a, xbound lo 0, xbound hi n, xbound? mx with
      | some (i, o), some l, some m, some none =>
        (match h.t.get i with
        | some (.cells cs true) => bif Nat.ble l m && Nat.ble m n && Nat.ble (o + n * ssz P e) cs.length then some (.slice (some ⟨i, o + l * ssz P e, some (2 * ssz P e + 1)⟩) (m - l) (n - l)) else none
        | _ => none)
      | _, _, _, _ => none
    else none
  | _, _ => none

theorem xslice_sound (hr : RepH H h) {t : TypeId} {x : Value} {lo hi mx : Option Value} {r : Value} (hx : xslice P t h x lo hi mx = some r) {K : Value → Prop} (hk : K r) : slice P t H x lo hi mx K := by
  unfold xslice at hx
  unfold slice
  split at hx
  · rename_i e a n c hu
    obtain ⟨hb, hx⟩ := bif_some hx
    simp only [hu, hb, cond_true]
    split at hx
    · rename_i l h m hl hh hm _
      obtain ⟨hb2, hx⟩ := bif_some hx
      cases hx
      simp only [Bool.and_eq_true] at hb2
      have e1 := Nat.eq_of_beq_eq_true hb2.1.1
      have e2 := Nat.eq_of_beq_eq_true hb2.1.2
      refine xbound_sound hl (xbound_sound hh (xboundq_sound hm ?_))
      unfold cut
      refine ⟨by rw [e1]; rfl, by rw [e2]; rfl, ?_, hk⟩
      cases m with
      | none => trivial
      | some m => have := Nat.eq_of_beq_eq_true hb2.2; simp [this]
    · rename_i l h i o q hl hh hm _
      obtain ⟨hb2, hx⟩ := bif_some hx
      cases hx
      simp only [Bool.and_eq_true] at hb2
      refine xbound_sound hl (xbound_sound hh (xboundq_sound hm ?_))
      unfold cut
      exact ⟨Nat.eq_of_beq_eq_true hb2.1.1, Int.natCast_nonneg _, by exact_mod_cast Nat.le_of_ble_eq_true hb2.1.2, by exact_mod_cast Nat.le_of_ble_eq_true hb2.2, hk⟩
    · rename_i l h m i o q hl hh hm _
      obtain ⟨hb2, hx⟩ := bif_some hx
      cases hx
      simp only [Bool.and_eq_true] at hb2
      refine xbound_sound hl (xbound_sound hh (xboundq_sound hm ?_))
      unfold cut
      exact ⟨Nat.eq_of_beq_eq_true hb2.1.1.1, Int.natCast_nonneg _, by exact_mod_cast Nat.le_of_ble_eq_true hb2.1.1.2, by simp; exact_mod_cast Nat.le_of_ble_eq_true hb2.1.2, by simp; exact_mod_cast Nat.le_of_ble_eq_true hb2.2, hk⟩
    · cases hx
  · rename_i s hu
    simp only [hu]
    split at hx
    · rename_i l h hl hh hm
      obtain ⟨hb2, hx⟩ := bif_some hx
      cases hx
      simp only [Bool.and_eq_true] at hb2
      refine xbound_sound hl (xbound_sound hh (xboundq_sound hm ?_))
      exact ⟨rfl, Int.natCast_nonneg _, by exact_mod_cast Nat.le_of_ble_eq_true hb2.1, by exact_mod_cast Nat.le_of_ble_eq_true hb2.2, hk⟩
    · cases hx
  · rename_i n e a hu
    obtain ⟨hb, hx⟩ := bif_some hx
    simp only [hu, hb, cond_true]
    split at hx
    · rename_i i o l m ha hl hh hm
      split at hx
      · rename_i cs hc
        obtain ⟨hb2, hx⟩ := bif_some hx
        cases hx
        simp only [Bool.and_eq_true] at hb2
        refine xbound_sound hl (xbound_sound hh (xboundq_sound hm ?_))
        rw [xpc_sound ha]
        exact ⟨rfl, Int.natCast_nonneg _, Int.ofNat_le.2 (Nat.le_of_ble_eq_true hb2.1.1), Int.ofNat_le.2 (Nat.le_of_ble_eq_true hb2.1.2), ⟨cs, (hr.2 i).trans hc, Nat.le_of_ble_eq_true hb2.2⟩, hk⟩
      · cases hx
    · cases hx
  · cases hx

def xfill (place : Nat → Option (Nat × Nat)) (cells : List Value) : List (Nat × Value) → Option (List Value)
  | [] => some cells
  | (i, v) :: rest =>
    match place i, vcells v with
    | some (off, sz), some vs => bif Nat.beq vs.length sz && Nat.ble (off + vs.length) cells.length then xfill place (splice cells off vs) rest else none
    | _, _ => none
theorem xfill_sound {place : Nat → Option (Nat × Nat)} : ∀ {ps : List (Nat × Value)} {cells r : List Value}, xfill place cells ps = some r → ∀ {K : List Value → Prop}, K r → fillL place cells ps K
  | [], cells, r, hx, K, hk => by cases hx; exact hk
  | (i, v) :: rest, cells, r, hx, K, hk => by
    simp only [xfill] at hx
    simp only [fillL]
    split at hx
    · simp only [*]
      obtain ⟨hb, hx⟩ := bif_some hx
      simp only [Bool.and_eq_true] at hb
      exact ⟨⟨Nat.eq_of_beq_eq_true hb.1, Nat.le_of_ble_eq_true hb.2⟩, xfill_sound hx hk⟩
    · cases hx

def xbuild (P : Program) (t : TypeId) (ps : List (Nat × Value)) : Option Value :=
  match P.underlying t, zeroOf P t with
  | some (.struct ⟨fs⟩), some zs => bif fs.all (fun f => (P.info? f.type).isSome) then (xfill (fun i => (fieldPlaces P fs)[i]?) zs ps).map fun cs => .agg ⟨cs⟩ else none
  | some (.array _ e), some zs => bif (P.info? e).isSome then (xfill (fun i => some (i * ssz P e, ssz P e)) zs ps).map fun cs => .agg ⟨cs⟩ else none
  | _, _ => none
theorem xbuild_sound {t : TypeId} {ps : List (Nat × Value)} {r : Value} (hx : xbuild P t ps = some r) {K : Value → Prop} (hk : K r) : build P t ps K := by
  unfold xbuild at hx
  unfold build
  split at hx
  · obtain ⟨hb, hx⟩ := bif_some hx
    obtain ⟨cs, h1, rfl⟩ := Option.map_eq_some_iff.1 hx
    simp only [*, cond_true]
    exact xfill_sound h1 hk
  · obtain ⟨hb, hx⟩ := bif_some hx
    obtain ⟨cs, h1, rfl⟩ := Option.map_eq_some_iff.1 hx
    simp only [*, cond_true]
    exact xfill_sound h1 hk
  · cases hx

def xmm (mx : Bool) (k : IntKind) : Int → List Value → Option Value
  | a, [] => some (.int k a)
  | a, .int _ b :: r => xmm mx k (match mx with | true => if b > a then b else a | false => if b < a then b else a) r
  | _, _ => none
theorem xmm_sound {mx : Bool} {k : IntKind} : ∀ {vs : List Value} {a : Int} {r : Value}, xmm mx k a vs = some r → ∀ {K : Value → Prop}, K r → minMaxGo mx k a vs K
  | [], a, r, hx, K, hk => by cases hx; exact hk
  | v :: vs, a, r, hx, K, hk => by
    cases v <;> first | (cases hx; done) | skip
    simp only [xmm] at hx
    simp only [minMaxGo]
    exact xmm_sound hx hk

def xminMax (mx : Bool) (vs : List Value) : Option Value :=
  match vs with
  | .int k a :: r => xmm mx k a r
  | _ => none
theorem xminMax_sound {mx : Bool} {vs : List Value} {r : Value} (hx : xminMax mx vs = some r) {K : Value → Prop} (hk : K r) : minMax mx vs K := by
  unfold xminMax at hx
  unfold minMax
  split at hx
  · exact xmm_sound hx hk
  · cases hx

def xextract (v : Value) (i : Nat) : Option Value :=
  match v with
  | .tuple ⟨vs⟩ => vs[i]?
  | _ => none
theorem xextract_sound {v : Value} {i : Nat} {r : Value} (hx : xextract v i = some r) {K : Value → Prop} (hk : K r) : extractOf v i K := by
  unfold xextract at hx
  unfold extractOf
  split at hx
  · rename_i vs
    show cellOf vs i K
    unfold cellOf; rw [hx]; exact hk
  · cases hx

end
end Ide
