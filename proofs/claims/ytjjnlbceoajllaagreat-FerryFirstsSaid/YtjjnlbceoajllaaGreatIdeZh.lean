/- Functions, part by part; loops. -/
import Derived.Test.YtjjnlbceoajllaaGreatIdeZg
set_option linter.unusedVariables false
set_option linter.unusedSimpArgs false
namespace Ide
open Go Go.RowKit

def bodyOf (P : Program) (f : FuncId) : Code := match P.funcs[f]? with | some fn => (match fn.body with | some c => c | none => .skip) | none => .skip
def ntOf (P : Program) (f : FuncId) : Nat := match P.funcs[f]? with | some fn => fn.ntmps | none => 0
def ressOf (P : Program) (f : FuncId) : List ResultVar := match P.funcs[f]? with | some fn => fn.results.toList | none => []
def fnOkN (P : Program) (f : FuncId) (n : Nat) : Bool := fnOk P f && Nat.ble n (ntOf P f)

/-- What a function hands back, as it is to be seen. -/
def sresGo (P : Program) : List ResultVar → Env → IHeap → List Value → (List Value → Prop) → Prop
  | [], _, _, acc, K => K acc
  | .tmp t :: r, env, H, acc, K => sresGo P r env H (acc ++ [lk env t]) K
  | .cell a t :: r, env, H, acc, K => ptrAt (lk env a) fun i o => sload P false t H i o fun v => sresGo P r env H (acc ++ [v]) K
theorem sresGo_sound {P : Program} {env : Env} {H : IHeap} {K : List Value → Prop} : ∀ (rs : List ResultVar) (acc : List Value), sresGo P rs env H acc K → resGo P rs env H acc K
  | [], acc, h => h
  | .tmp t :: r, acc, h => sresGo_sound r _ h
  | .cell a t :: r, acc, h => by
    simp only [sresGo] at h
    simp only [resGo]
    unfold ptrAt at h ⊢
    split at h
    · unfold pcase at h ⊢
      split at h
      · exact det_load.mono (fun v h => sresGo_sound r _ h) (sload_sound h)
      · exact h.elim
    · exact h.elim

/-- Ways a function ends. -/
def bodyS (P : Program) (rs : List ResultVar) (R : IEnd → IHeap → Prop) : IExit → Env → IHeap → Prop
  | .normal, env, H => sresGo P rs env H [] fun vs => R (.ret (oneV vs)) H
  | .ret, env, H => sresGo P rs env H [] fun vs => R (.ret (oneV vs)) H
  | .panic v, _, H => R (.panic v) H
  | .exit _, _, _ => False
theorem bodyS_sound {P : Program} {rs : List ResultVar} {R : IEnd → IHeap → Prop} (e : IExit) (env : Env) (H : IHeap) (h : bodyS P rs R e env H) : bodyQ P rs R e env H := by
  cases e with
  | normal => exact sresGo_sound rs [] h
  | ret => exact sresGo_sound rs [] h
  | panic v => exact h
  | exit id => exact h

/-- A function's contract, part by part. -/
theorem icalls_sx {P : Program} {f : FuncId} {args : List Value} {H : IHeap} {R : IEnd → IHeap → Prop} (hok : fnOkN P f args.length = true)
    (h0 : IWL none P (ntOf P f) (spine (bodyOf P f) []) (bodyS P (ressOf P f) R) (envOf 0 args) H) : ICalls P f args H R := by
  have h := IWL.mono _ bodyS_sound h0
  simp only [fnOkN, Bool.and_eq_true] at hok
  obtain ⟨hok, hn⟩ := hok
  unfold fnOk at hok
  unfold ntOf ressOf bodyOf at h
  unfold ntOf at hn
  split at hok
  · rename_i fn h1
    simp only [h1] at h hn
    split at hok
    · rename_i c h2
      simp only [h2] at h
      simp only [Bool.and_eq_true, Bool.not_eq_true'] at hok
      exact icalls_of_iw ⟨h1, h2, hok.1.1, hok.1.2, hok.2, Nat.le_of_ble_eq_true hn⟩ (iw_of_spine h)
    · cases hok
  · cases hok

mutual
theorem inV_ground (n : Nat) : ∀ (v : Value), ground v = true → inV n v = true
  | .bool _, _ => rfl
  | .int .., _ => rfl
  | .string _, _ => rfl
  | .pointer none, _ => rfl
  | .pointer (some _), h => by simp [ground] at h
  | .slice none a b, _ => rfl
  | .slice (some _) _ _, h => by simp [ground] at h
  | .map none, _ => rfl
  | .map (some _), h => by simp [ground] at h
  | .nilFunc, _ => rfl
  | .nilIface, _ => rfl
  | .iface t v, h => by simp only [inV]; exact inV_ground n v (by simpa [ground] using h)
  | .agg ⟨l⟩, h => by simp only [inV, inV.go]; exact inVs_ground n l (by simpa [ground, ground.groundA] using h)
  | .float .., h => by simp [ground] at h
  | .complex .., h => by simp [ground] at h
  | .chan _, h => by simp [ground] at h
  | .func .., h => by simp [ground] at h
  | .tuple _, h => by simp [ground] at h
theorem inVs_ground (n : Nat) : ∀ (l : List Value), ground.groundL l = true → inV.goL n l = true
  | [], _ => rfl
  | v :: l, h => by
    have h' : ground v = true ∧ ground.groundL l = true := by simpa [ground.groundL] using h
    simp only [inV.goL, inV_ground n v h'.1, inVs_ground n l h'.2, Bool.and_self]
 end

theorem bcI {b : Bool} {X Y : Prop} (h1 : b = true → X) (h2 : b = false → Y) : bcase b X Y := by
  cases b with
  | true => exact h1 rfl
  | false => exact h2 rfl

/-- What goes on behind a part, of which only some temporaries are known further on. -/
def thnk (l : List Nat) (next : Env → IHeap → Prop) (Q : IExit → Env → IHeap → Prop) : IExit → Env → IHeap → Prop
  | .normal, env, H => next (keep l env) H
  | .exit id, env, H => Q (.exit id) (keep l env) H
  | .ret, env, H => Q .ret (keep l env) H
  | .panic _, _, _ => False

theorem IW.kept {ro : Option Nat} {P : Program} {nt : Nat} {c : Code} {Q : IExit → Env → IHeap → Prop} {env : Env} {H : IHeap} (l : List Nat) (next : Env → IHeap → Prop)
    (hq : ∀ env H, next env H → Q .normal env H) (h : IW ro P nt c (thnk l next Q) env H) : IW ro P nt c Q env H := by
  intro n0 β w a S hT hM
  refine wpIn_mono (h n0 β w a S hT hM) fun e a' w' h => ?_
  cases e with
  | normal => obtain ⟨β', H', env', St, S', hT', hM', hn⟩ := h; exact ⟨β', H', _, St, S', hT'.keep l, hM', hq _ _ hn⟩
  | exit id => obtain ⟨β', H', env', St, S', hT', hM', hn⟩ := h; exact ⟨β', H', _, St, S', hT'.keep l, hM', hn⟩
  | ret => obtain ⟨β', H', env', St, S', hT', hM', hn⟩ := h; exact ⟨β', H', _, St, S', hT'.keep l, hM', hn⟩
  | panic ch => obtain ⟨β', H', env', v, v', St, S', hch, hv, hM', hsz, hn⟩ := h; exact hn.elim
  | goto t => exact h
  | outgrown => exact h

/-- Parts without loops, ahead of others. -/
theorem iwl_segk {P : Program} {hs : List Nat} {sc : SCall} {nt : Nat} {ro : Option Nat} {rf : Bool} (hm : P.follows .mixedOrders = true) (hsc : SOk P sc) (l : List Nat) :
    ∀ (A : List Code) (b : Code) (bs : List Code) {Q : IExit → Env → IHeap → Prop} {env : Env} {H : IHeap}, A.all (codeOk P nt rf) = true → sxl P hs sc A (thnk l (fun env H => IWL ro P nt (b :: bs) Q env H) Q) env H → IWL ro P nt (A ++ b :: bs) Q env H
  | [], b, bs, Q, env, H, hok, h => IW.weaken h fun t => lk_keep l env t
  | c :: A, b, bs, Q, env, H, hok, h => by
    simp only [List.all_cons, Bool.and_eq_true] at hok
    have h1 := sx_sound (ro := ro) hm hsc c _ _ _ hok.1 h
    show IW ro P nt c (thn (fun env H => IWL ro P nt (A ++ b :: bs) Q env H) Q) env H
    intro n0 β w a S hT hM
    refine wpIn_mono (h1 n0 β w a S hT hM) fun e a' w' h => ?_
    cases e with
    | normal =>
      obtain ⟨β', H', env', St, S', hT', hM', hn⟩ := h
      exact ⟨β', H', _, St, S', hT', hM', iwl_segk hm hsc l A b bs hok.2 hn⟩
    | exit id => obtain ⟨β', H', env', St, S', hT', hM', hn⟩ := h; exact ⟨β', H', _, St, S', hT'.keep l, hM', hn⟩
    | ret => obtain ⟨β', H', env', St, S', hT', hM', hn⟩ := h; exact ⟨β', H', _, St, S', hT'.keep l, hM', hn⟩
    | panic ch => obtain ⟨β', H', env', v, v', St, S', hch, hv, hM', hsz, hn⟩ := h; exact hn.elim
    | goto t => exact h
    | outgrown => exact h

/-- A loop, ahead of other parts. -/
theorem iwl_loop {P : Program} {nt : Nat} {ro : Option Nat} {id : Nat} {L : Code} {bs : List Code} {Q : IExit → Env → IHeap → Prop} {env : Env} {H : IHeap}
    (h : LW ro P nt L (inB id (thn (fun env H => IWL ro P nt bs Q env H) Q)) env H) : IWL ro P nt (.block id (.loop L) :: bs) Q env H :=
  block_of (loop_of0 h)

/-- One round of a loop; what it makes is left out behind it. -/
theorem loop_sx {P : Program} {hs : List Nat} {sc : SCall} {nt : Nat} {ro : Option Nat} {rf : Bool} (hm : P.follows .mixedOrders = true) (hsc : SOk P sc) (l : List Nat) {L : Code} {Q : IExit → Env → IHeap → Prop} {env : Env} {H : IHeap}
    (hok : codeOk P nt rf L = true) (hH : H.all (inO H.length) = true)
    (h : sx P hs sc L (thnk l (fun env' H' => envIn H.length env' = true ∧ H'.take H.length = H ∧ LW ro P nt L Q env' H) (fun e env' H' => envIn H.length env' = true ∧ H'.take H.length = H ∧ Q e env' H)) env H) : LW ro P nt L Q env H := by
  refine loop_step0 (IW.trunc H.length (Nat.le_refl _) ?_)
  refine IW.kept l (fun env' H' => envIn H.length env' = true ∧ H'.take H.length = H ∧ LW ro P nt L Q env' H) ?_ (IW.mono (sx_sound (ro := ro) hm hsc L _ _ _ hok h) fun e env' H' hq => ?_)
  · rintro env' H' ⟨h1, h2, h3⟩
    exact ⟨env', fun t => .inl rfl, h1, by rw [h2]; exact hH, fun v => by simp, by rw [h2]; exact h3⟩
  · cases e with
    | normal => exact hq
    | exit id =>
      obtain ⟨h1, h2, h3⟩ := hq
      exact ⟨_, fun t => .inl rfl, h1, by rw [h2]; exact hH, fun v => by simp, by rw [h2]; exact h3⟩
    | ret =>
      obtain ⟨h1, h2, h3⟩ := hq
      exact ⟨_, fun t => .inl rfl, h1, by rw [h2]; exact hH, fun v => by simp, by rw [h2]; exact h3⟩
    | panic v => exact hq.elim

theorem LW.keep {P : Program} {nt : Nat} {ro : Option Nat} {L : Code} {Q : IExit → Env → IHeap → Prop} {env env' : Env} {H : IHeap} (h : LW ro P nt L Q env' H) (hw : ∀ t, lk env' t = lk env t ∨ lk env' t = anyV) : LW ro P nt L Q env H := by
  intro n0 β w a S hT hM
  exact h n0 β w a S ⟨hT.1, fun t ht => by rcases hw t with e | e <;> rw [e] <;> first | exact hT.2 t ht | exact .any _⟩ hM

theorem wrap_i64 {x : Int} (h1 : -9223372036854775808 ≤ x) (h2 : x ≤ 9223372036854775807) : IntKind.wrap .i64 x = x := by
  show (if (true && decide (x % (2 ^ 64 : Int) ≥ (2 ^ 63 : Int))) = true then x % (2 ^ 64 : Int) - (2 ^ 64 : Int) else x % (2 ^ 64 : Int)) = x
  have e1 : (2 ^ 64 : Int) = 18446744073709551616 := by decide
  have e2 : (2 ^ 63 : Int) = 9223372036854775808 := by decide
  rw [e1, e2]
  by_cases h : x % 18446744073709551616 ≥ 9223372036854775808
  · simp only [h, decide_true, Bool.true_and, if_true]
    omega
  · simp only [h, decide_false, Bool.and_false]
    simp
    omega

end Ide
