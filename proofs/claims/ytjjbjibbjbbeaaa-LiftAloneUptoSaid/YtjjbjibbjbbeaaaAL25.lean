/- The abstract layer, part 25: conditions that are not known. -/
import Derived.Test.YtjjbjibbjbbeaaaAL24
set_option linter.unusedVariables false
set_option linter.unusedSimpArgs false
namespace Go.AL
theorem guardW_b {b w : Bool} {A B : Prop} (h1 : b = true → guardW (.bool true) w A B) (h2 : b = false → guardW (.bool false) w A B) : guardW (.bool b) w A B := by
  cases b with
  | true => exact h1 rfl
  | false => exact h2 rfl
theorem ePick_b {b : Bool} {x y : AV} {σ : Store} {K : AV → Store → Prop} (h1 : b = true → ok (ePick (.bool true) x y σ) K) (h2 : b = false → ok (ePick (.bool false) x y σ) K) : ok (ePick (.bool b) x y σ) K := by
  cases b with
  | true => exact h1 rfl
  | false => exact h2 rfl
section
variable {P : Program} {n : Nat} {Q : AEx → (Nat → AV) → Store → Prop} {tm : Nat → AV} {σ : Store}
theorem AWP_cond_b {t : AX} {a b : ACode} {x : Bool} (ht : t.ev tm = .bool x) (h1 : x = true → AWP P n a Q tm σ) (h2 : x = false → AWP P n b Q tm σ) : AWP P n (.cond t a b) Q tm σ := by
  cases x with
  | true => exact AWP_cond_true ht (h1 rfl)
  | false => exact AWP_cond_false ht (h2 rfl)
/-- What holds behind a part is told by the slots that matter. -/
theorem AWP_cut {α : Type} {c d : ACode} (ks : List Nat) (V : α → List AV) (I : α → Store → Prop)
    (h1 : AWP P n c (andThen (fun t s' => ∃ x, ks.map t = V x ∧ I x s') Q) tm σ)
    (h2 : ∀ (x : α) (s : Store), I x s → AWP P n d Q (env (ks.zip (V x))) s) : AWP P n (.seq c d) Q tm σ := by
  refine AWP_seq (h1.mono fun e t' s' hq => ?_)
  cases e with
  | normal =>
    obtain ⟨x, hx, hI⟩ := hq
    exact AWP_weaken (tm' := env (ks.zip (V x))) (fun i => by rw [← hx]; exact env_zip t' ks i) (h2 x s' hI)
  | exit id => exact hq
  | ret => exact hq
end
theorem dec_t (p : Prop) [Decidable p] : (decide p = true) = p := by simp
theorem dec_f (p : Prop) [Decidable p] : (decide p = false) = ¬ p := by simp
theorem not_t (b : Bool) : ((!b) = true) = (b = false) := by simp
theorem not_f (b : Bool) : ((!b) = false) = (b = true) := by simp
theorem guardW_not (b w : Bool) (A B : Prop) : guardW (.bool (!b)) w A B = guardW (.bool b) (!w) A B := by cases b <;> cases w <;> rfl
/-! ### Bytes and elements that are there -/
theorem str_nil (s : ByteArray) : (s = ⟨#[]⟩) = (s.size = 0) := by
  refine propext ⟨fun h => by subst h; rfl, fun h => ByteArray.ext (Array.eq_empty_of_size_eq_zero h)⟩
theorem ok_idx {s : ByteArray} {i : Nat} {σ : Store} {K : AV → Store → Prop} (h : i < s.size) (hk : ∀ b : UInt8, s.data.toList[i]? = some b → K (.int .u8 b.toNat) σ) : ok (eIdx2 s.data.toList[i]? σ) K := by
  have hb : s.data.toList[i]? = some (s.data.toList[i]'(by simpa using h)) := List.getElem?_eq_getElem _
  rw [hb]
  exact hk _ hb
theorem ok_iad {α : Type} {l : List α} {f : α → List AV} {i sz : Nat} {σ : Store} {K : AV → Store → Prop} (h : i < l.length) (hk : ∀ x, l[i]? = some x → x ∈ l → ok (eIad2 sz (some (f x)) σ) K) : ok (eIad2 sz (l.map f)[i]? σ) K := by
  have hb : l[i]? = some (l[i]'h) := List.getElem?_eq_getElem h
  rw [List.getElem?_map, hb]
  exact hk _ hb (List.mem_of_getElem? hb)
end Go.AL
