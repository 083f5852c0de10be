
/- A part of the proof that the evaluator in GnC, and the driver in GnZ, answer as the model does; no conditions. -/
import Derived.Test.YtfmoohdaimlggaaGreatDoorGnT
import Derived.Laws.Externs
namespace Go.Eng
/-- math/bits.Add64, which the machine itself answers -/
noncomputable def add64N : Native := fun args H => bi (nbeq (lenL args) 3) (bi (nbeq (nthL args 0).tag 7) (bi (nbeq (nthL args 1).tag 7) (bi (nbeq (nthL args 2).tag 7) (bi (nble (nthL args 2).p 1) [⟨1, 0, tupV [mk1 7 (Nat.mod (Nat.add (Nat.add (nthL args 0).p (nthL args 1).p) (nthL args 2).p) 18446744073709551616), mk1 7 (Nat.div (Nat.add (Nat.add (nthL args 0).p (nthL args 1).p) (nthL args 2).p) 18446744073709551616)], H⟩] (failC 76)) (failC 76)) (failC 76)) (failC 76)) (failC 76)
variable {P : Program}
theorem add64_ok {f : Nat} {fn : Func} (hf : P.funcs[f]? = some fn) (hname : (fn.name == "runtime.NumGoroutine") = false) (hb : fn.body.isNone = true) (hn : Extern.findNext fn = none) (he : Extern.find fn = some add64Entry) : ExtOk P f add64N := by
  intro w0 H φ w args vals ha hr hall
  unfold add64N at hall ⊢
  cases h0 : nbeq (lenL args) 3
  · rw [h0] at hall; exact (failC_bad hall).elim
  rw [h0, bi_true] at hall
  rw [bi_true]
  have h0 := beq_true.1 h0
  rw [lenL_eq] at h0
  match args, vals, ha, h0 with
  | [a, b, c], _, .cons ha (.cons hb' (.cons hc .nil)), _ =>
    simp only [show nthL [a, b, c] 0 = a from rfl, show nthL [a, b, c] 1 = b from rfl, show nthL [a, b, c] 2 = c from rfl] at hall ⊢
    cases h1 : nbeq a.tag 7
    · rw [h1] at hall; exact (failC_bad hall).elim
    rw [h1, bi_true] at hall
    rw [bi_true]
    cases h2 : nbeq b.tag 7
    · rw [h2] at hall; exact (failC_bad hall).elim
    rw [h2, bi_true] at hall
    rw [bi_true]
    cases h3 : nbeq c.tag 7
    · rw [h3] at hall; exact (failC_bad hall).elim
    rw [h3, bi_true] at hall
    rw [bi_true]
    cases h4 : nble c.p 1
    · rw [h4] at hall; exact (failC_bad hall).elim
    rw [bi_true]
    obtain ⟨ea, pa, _⟩ := ha.of_int (by decide) (beq_true.1 h1)
    obtain ⟨eb, pb, _⟩ := hb'.of_int (by decide) (beq_true.1 h2)
    obtain ⟨ec, pc, _⟩ := hc.of_int (by decide) (beq_true.1 h3)
    have h4 := ble_true.1 h4
    have hm : kMod 7 = 18446744073709551616 := by decide +kernel
    have hh : kHalf 7 = 18446744073709551616 := by decide +kernel
    have hk : kOf 7 = .u64 := rfl
    rw [hm] at pa pb pc
    subst ea eb ec
    rw [valI_lt (by rw [hh]; exact pa), valI_lt (by rw [hh]; exact pb), valI_lt (by rw [hh]; exact pc), hk]
    refine ⟨.tuple #[.int .u64 (((a.p + b.p + c.p) % 18446744073709551616 : Nat) : Int), .int .u64 (((a.p + b.p + c.p) / 18446744073709551616 : Nat) : Int)], w, ?_, ⟨_, List.mem_singleton.2 rfl, φ, ?_, hr, EX.refl H φ⟩⟩
    · rw [run_callFunc_extern hf hname hb hn he]
      have := run_add64 (P := P) (a.p : Int) (b.p : Int) (c.p : Int) (by omega) (by omega) (by omega) (by omega) w
      rw [show ([Value.int .u64 (a.p : Int), .int .u64 (b.p : Int), .int .u64 (c.p : Int)] : List Value).toArray = #[.int .u64 (a.p : Int), .int .u64 (b.p : Int), .int .u64 (c.p : Int)] from rfl, this]
      simp only [Result.andThen]
      congr 5 <;> omega
    · have key : ∀ n : Nat, n < 18446744073709551616 → VR φ (mk1 7 n) (.int .u64 (n : Int)) := fun n hn => by
        have := VR.int (φ := φ) 7 n 0 0 [] (by decide) (by rw [hm]; exact hn)
        rwa [valI_lt (by rw [hh]; exact hn), hk] at this
      have g1 := key ((a.p + b.p + c.p) % 18446744073709551616) (Nat.mod_lt _ (by decide))
      have g2 := key ((a.p + b.p + c.p) / 18446744073709551616) (by omega)
      exact .tup 0 0 0 0 _ [_, _] (.cons g1 (.cons g2 .nil))
end Go.Eng
