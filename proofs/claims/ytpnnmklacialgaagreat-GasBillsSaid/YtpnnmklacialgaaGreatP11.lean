/- Sorting a list of numbers, however long: bits, and the breaking of patterns.
   Sorting a list of numbers, however long: the sort itself.
   A number put into a rising list; the dates and the periods of a net, as the specification lists them.
   The days of a net, and the bills, as the specification tells them.
   The bills of a period, as the specification tells them. -/
import Derived.Test.YtpnnmklacialgaaGreatP10
set_option linter.unusedVariables false
set_option linter.unusedSimpArgs false
namespace Go.Proofs.YtpnnmklacialgaaGreat
open Go.Conc
section
variable {E : Env} {fn n : Nat} {Q : Post} {K : Tm → List Deferred → Ents → Prop} {l : TL} {t : Tm} {ds : List Deferred} {S Z Zi : Ents} {ops : Array Oper} {i : Nat} {z : Bool} {rest : List (Nat × Bool)} {sq : Bool}
variable {d : Nat} {ty : TypeId} {pos : String} {af : Array Edge} {g : Option (Nat × Bool)}
theorem o_shl {t1 t2 : TypeId} {k yk : IntKind} {x y : Operand} {a b : Int} (hw : wantL ops l t g = some true) (hd : Nat.blt d n = true) (hx : evL l t x = some (.int k a)) (hy : evL l t y = some (.int yk b)) (hb : 0 ≤ b)
    (h : OpF Tryz.prog E fn n ops sq rest K (den ((d, .int k (k.wrap (a * 2 ^ (min b.toNat k.bits)))) :: l) t) ds Z S) : OpX Tryz.prog E fn n ops sq i z rest ⟨some d, .binOp .shl t1 x y t2, ty, pos, af, g⟩ K (den l t) ds Zi Z S := by
  refine o_V rfl (vop_of hw hd rfl rfl fun S hS => ?_) h
  unfold OpH execOp
  refine semH_bind (?_ : SemH Tryz.prog E.m (do eqGuard .shl t1 x y (ev (den l t) x) (ev (den l t) y); binOp .shl t1 (ev (den l t) x) (ev (den l t) y)) S _)
  rw [evL_eq hx, evL_eq hy]
  unfold eqGuard
  refine semH_bind (semH_pure ?_)
  simp only [binOp, Op.shift]
  rw [if_neg (by omega)]
  exact semH_pure (semH_pure ⟨_, .inl rfl, rfl, rfl⟩)
theorem o_xor {t1 t2 : TypeId} {k : IntKind} {x y : Operand} {a b : Int} (hw : wantL ops l t g = some true) (hd : Nat.blt d n = true) (hx : evL l t x = some (.int k a)) (hy : evL l t y = some (.int k b))
    (h : OpF Tryz.prog E fn n ops sq rest K (den ((d, .int k (k.wrap (BitVec.ofInt k.bits a ^^^ BitVec.ofInt k.bits b).toNat)) :: l) t) ds Z S) : OpX Tryz.prog E fn n ops sq i z rest ⟨some d, .binOp .xor t1 x y t2, ty, pos, af, g⟩ K (den l t) ds Zi Z S := by
  refine o_V rfl (vop_of hw hd rfl rfl fun S hS => ?_) h
  unfold OpH execOp
  refine semH_bind (?_ : SemH Tryz.prog E.m (do eqGuard .xor t1 x y (ev (den l t) x) (ev (den l t) y); binOp .xor t1 (ev (den l t) x) (ev (den l t) y)) S _)
  rw [evL_eq hx, evL_eq hy]
  unfold eqGuard
  refine semH_bind (semH_pure ?_)
  simp only [binOp, Op.intBits, ne_eq, not_true_eq_false, if_false]
  exact semH_pure (semH_pure ⟨_, .inl rfl, rfl, rfl⟩)
theorem o_and {t1 t2 : TypeId} {k : IntKind} {x y : Operand} {a b m : Int} (hw : wantL ops l t g = some true) (hd : Nat.blt d n = true) (hx : evL l t x = some (.int k a)) (hy : evL l t y = some (.int k b))
    (hm : k.wrap (BitVec.ofInt k.bits a &&& BitVec.ofInt k.bits b).toNat = m) (h : OpF Tryz.prog E fn n ops sq rest K (den ((d, .int k m) :: l) t) ds Z S) : OpX Tryz.prog E fn n ops sq i z rest ⟨some d, .binOp .and t1 x y t2, ty, pos, af, g⟩ K (den l t) ds Zi Z S := by
  subst hm
  refine o_V rfl (vop_of hw hd rfl rfl fun S hS => ?_) h
  unfold OpH execOp
  refine semH_bind (?_ : SemH Tryz.prog E.m (do eqGuard .and t1 x y (ev (den l t) x) (ev (den l t) y); binOp .and t1 (ev (den l t) x) (ev (den l t) y)) S _)
  rw [evL_eq hx, evL_eq hy]
  unfold eqGuard
  refine semH_bind (semH_pure ?_)
  simp only [binOp, Op.intBits, ne_eq, not_true_eq_false, if_false]
  exact semH_pure (semH_pure ⟨_, .inl rfl, rfl, rfl⟩)
theorem o_subU {t1 t2 : TypeId} {k : IntKind} {x y : Operand} {a b m : Int} (hw : wantL ops l t g = some true) (hd : Nat.blt d n = true) (hx : evL l t x = some (.int k a)) (hy : evL l t y = some (.int k b)) (hm : k.wrap (a - b) = m)
    (h : OpF Tryz.prog E fn n ops sq rest K (den ((d, .int k m) :: l) t) ds Z S) : OpX Tryz.prog E fn n ops sq i z rest ⟨some d, .binOp .sub t1 x y t2, ty, pos, af, g⟩ K (den l t) ds Zi Z S :=
  o_V rfl (vop_of hw hd rfl rfl fun S hS => op_int (evL_eq hx) (evL_eq hy) (by rw [intVal, hm]) ⟨rfl, rfl⟩) h
def tabB (s : ByteArray) : Bool := Nat.blt 255 s.size && (List.range 256).all fun q => decide (q = 0) || Nat.ble (2 ^ (s.data.getD q 255).toNat) (2 * q)
theorem o_idxTab {xt : TypeId} {x y : Operand} {s : ByteArray} {k : IntKind} {q : Int} (hw : wantL ops l t g = some true) (hd : Nat.blt d n = true) [hs : StrT xt] (hx : evL l t x = some (.string s)) (hy : evL l t y = some (.int k q)) (h0 : 0 < q ∧ q ≤ 255) (h1 : tabB s = true)
    (h : ∀ b : Nat, b ≤ 255 → 2 ^ b ≤ 2 * q.toNat → OpF Tryz.prog E fn n ops sq rest K (den ((d, .int .u8 (b : Int)) :: l) t) ds Z S) : OpX Tryz.prog E fn n ops sq i z rest ⟨some d, .index xt x y, ty, pos, af, g⟩ K (den l t) ds Zi Z S := by
  unfold tabB at h1
  rw [Bool.and_eq_true] at h1
  have hlt : q.toNat < s.size := by have := h1.1; simp [Nat.blt] at this; omega
  have hle : s[q.toNat].toNat ≤ 255 := by have := UInt8.toNat_lt s[q.toNat]; omega
  have hu := strT_ok hs.h
  have h2 : 2 ^ s[q.toNat].toNat ≤ 2 * q.toNat := by
    have := List.all_eq_true.1 h1.2 q.toNat (List.mem_range.2 (by omega))
    rw [Bool.or_eq_true, decide_eq_true_eq] at this
    rcases this with h3 | h3
    · omega
    · have h4 := Nat.le_of_ble_eq_true h3
      have e : s.data.getD q.toNat 255 = s[q.toNat] := by
        rw [Array.getD_eq_getD_getElem?, Array.getElem?_eq_getElem (by exact hlt)]
        rfl
      rwa [e] at h4
  refine o_V rfl (vop_of hw hd rfl rfl fun S hS => ?_) (h s[q.toNat].toNat hle h2)
  unfold OpH execOp
  refine semH_bind (?_ : SemH Tryz.prog E.m (Instr.index xt (ev (den l t) x) (ev (den l t) y)) S _)
  rw [evL_eq hx, evL_eq hy]
  unfold Instr.index
  refine semH_bind (semH_pure ?_)
  refine semH_bind (semH_underlying hu ?_)
  simp only
  rw [if_pos (show 0 ≤ q by omega), getElem?_pos s q.toNat hlt]
  exact semH_pure (semH_pure ⟨_, .inl rfl, rfl, rfl⟩)
theorem o_shrC (c : Nat) (p : Int) {t1 t2 : TypeId} {k yk : IntKind} {x y : Operand} {a b : Int} (hw : wantL ops l t g = some true) (hd : Nat.blt d n = true) (hx : evL l t x = some (.int k a)) (hy : evL l t y = some (.int yk b)) (hb : b = (c : Int)) (hc : c ≤ k.bits) (hp : (2 : Int) ^ c = p)
    (h : OpF Tryz.prog E fn n ops sq rest K (den ((d, .int k (a / p)) :: l) t) ds Z S) : OpX Tryz.prog E fn n ops sq i z rest ⟨some d, .binOp .shr t1 x y t2, ty, pos, af, g⟩ K (den l t) ds Zi Z S := by
  subst hb
  refine o_shr hw hd hx hy (by omega) ?_
  have hp0 : 0 ≤ p := by rw [← hp]; exact Int.pow_nonneg (by omega)
  rw [show min (c : Int).toNat k.bits = c by rw [Int.toNat_natCast]; omega, hp, Int.fdiv_eq_ediv_of_nonneg _ hp0]
  exact h
end
theorem wrap_u8 {q : Int} (h : 0 ≤ q ∧ q ≤ 255) : IntKind.u8.wrap q = q := by
  unfold IntKind.wrap
  simp [IntKind.signed, IntKind.bits]
  omega
theorem wrap_u64 {q : Int} (h : 0 ≤ q ∧ q ≤ 18446744073709551615) : IntKind.u64.wrap q = q := by
  unfold IntKind.wrap
  simp [IntKind.signed, IntKind.bits]
  omega
theorem pow_lift {a b c q : Nat} (h : 2 ^ b ≤ 2 * q) (hq : q * 2 ^ c ≤ a) : 2 ^ (c + b) ≤ 2 * a := by
  rw [Nat.pow_add]
  have := Nat.mul_le_mul_left (2 ^ c) h
  rw [Nat.mul_comm q] at hq
  rw [Nat.mul_left_comm] at this
  omega
attribute [local irreducible] WP OpF OpX CallW SemH retQ AnyF RoundW
theorem c205x (E : Env) (S : Ents) (a : Int) (ha : 0 < a ∧ a ≤ 4000000) : CallW Tryz.prog E 205 #[.int .u64 a] S fun r S' => (∃ k : Nat, 2 ^ k ≤ 2 * a.toNat ∧ r = iv k) ∧ S' = S := by
  refine call_in (args := [.int .u64 a]) Tryz.func205 (by decide) rfl rfl ?_
  repeat' first|(refine gX ?_;first|refine o_v rfl rfl ?_|(refine gB ?_;first|refine o_add rfl rfl rfl rfl (by omega) ?_)|refine o_shrC 16 65536 rfl rfl rfl rfl rfl (by decide) (by decide) ?_|refine o_shrC 8 256 rfl rfl rfl rfl rfl (by decide) (by decide) ?_|(refine o_idxTab rfl rfl rfl rfl (by omega) (by decide +kernel) ?_;intro bb hbb hb2)|refine o_conv rfl rfl rfl rfl rfl (wrap_u8 (by omega)) ?_|refine o_conv rfl rfl rfl rfl rfl (wrap_in (by omega) (by omega)) ?_)|refine o_head0 rfl ?_|refine o_end ?_|refine o_head1 rfl ?_|(refine w_condD rfl ?_ ?_<;>intro h<;>try (exact absurd h (by omega)))|refine wp_seq ?_|refine o_region ?_|refine wp_skip ?_|(refine w_condD rfl ?_ ?_<;>intro h)|(refine w_cond rfl ?_ ?_<;>intro h<;>try exact Bool.noConfusion h)|refine w_ret (S) (vs:=[_]) rfl (Res.tmp rfl Res.nil) ?_
  · exact ⟨⟨16 + bb, pow_lift (q := (a / 65536).toNat) hb2 (by omega), by show iv _ = iv _; congr 1 <;> omega⟩, rfl⟩
  · exact ⟨⟨8 + bb, pow_lift (q := (a / 256).toNat) hb2 (by omega), by show iv _ = iv _; congr 1 <;> omega⟩, rfl⟩
  · exact ⟨⟨bb, by omega, by show iv _ = iv _; congr 1 <;> omega⟩, rfl⟩
theorem c189x (E : Env) (S : Ents) (a : Int) (ha : 0 < a ∧ a ≤ 4000000) : CallW Tryz.prog E 189 #[.int .u64 a] S fun r S' => (∃ k : Nat, 2 ^ k ≤ 2 * a.toNat ∧ r = iv k) ∧ S' = S := by
  refine call_in (args := [.int .u64 a]) Tryz.func189 (by decide) rfl rfl ?_
  repeat' first|(refine gX ?_;first|refine o_v rfl rfl ?_|(refine gC ?_;first|(refine o_callZ rfl rfl rfl (c205x _ _ _ ha) ?_;rintro r S1 ⟨⟨k, hk, rfl⟩, rfl⟩;refine ⟨inferInstance, ?_⟩)))|refine o_head0 rfl ?_|refine o_end ?_|refine o_head1 rfl ?_|refine wp_seq ?_|refine o_region ?_|refine wp_skip ?_|(refine w_condD rfl ?_ ?_<;>intro h)|(refine w_cond rfl ?_ ?_<;>intro h<;>try exact Bool.noConfusion h)|refine w_retA (vs:=[_]) rfl (Res.tmp rfl Res.nil) ?_|refine w_ret (S) (vs:=[_]) rfl (Res.tmp rfl Res.nil) ?_
  exact ⟨⟨k, hk, rfl⟩, rfl⟩
theorem shl_one {k m : Nat} (h : 2 ^ k ≤ m) (hm : m ≤ 8000000) : IntKind.u64.wrap (1 * 2 ^ (min (k : Int).toNat IntKind.u64.bits)) = ((2 ^ k : Nat) : Int) := by
  have hk : k < 24 := by
    rcases Nat.lt_or_ge k 24 with h1 | h1
    · exact h1
    · have := Nat.pow_le_pow_right (n := 2) (by omega) h1
      have e : 2 ^ 24 = 16777216 := by decide
      omega
  have hb : IntKind.u64.bits = 64 := rfl
  rw [hb, Int.toNat_natCast, show min k 64 = k by omega, Int.one_mul, show ((2 : Int) ^ k) = ((2 ^ k : Nat) : Int) by simp]
  generalize 2 ^ k = q at *
  exact wrap_u64 (by omega)
theorem c207 (E : Env) (S : Ents) (L : Nat) (h0 : 0 < L) (hL : L ≤ 4000000) : CallW Tryz.prog E 207 #[iv L] S fun r S' => (∃ M : Nat, 0 < M ∧ M ≤ 2 * L ∧ r = .int .u64 M) ∧ S' = S := by
  refine call_in (args := [iv L]) Tryz.func207 (by decide) rfl rfl ?_
  repeat' first|(refine gX ?_;first|refine o_v rfl rfl ?_|(refine gC ?_;first|(refine o_callZ rfl rfl rfl (c189x _ _ _ (by omega)) ?_;rintro r S1 ⟨⟨k, hk, rfl⟩, rfl⟩;refine ⟨inferInstance, ?_⟩))|refine o_conv rfl rfl rfl rfl rfl (wrap_u64 (by omega)) ?_|refine o_shl rfl rfl rfl rfl (by omega) ?_)|refine o_head0 rfl ?_|refine o_end ?_|refine o_head1 rfl ?_|refine wp_seq ?_|refine o_region ?_|refine w_retA (vs:=[_]) rfl (Res.tmp rfl Res.nil) ?_|refine w_ret (S) (vs:=[_]) rfl (Res.tmp rfl Res.nil) ?_
  refine ⟨⟨2 ^ k, Nat.pow_pos (by omega), by rw [Int.toNat_natCast] at hk; exact hk, ?_⟩, rfl⟩
  have := shl_one hk (by omega)
  simpa [pack] using this
theorem c208 (E : Env) (S : Ents) (b : Nat) (w : Int) : CallW Tryz.prog E 208 #[.pointer (some ⟨b, 0, none⟩)] (⟨b, true, .cells #[.int .u64 w] 255 (0, 0)⟩ :: S) fun r S' => ∃ z w' : Int, r = .int .u64 z ∧ S' = ⟨b, true, .cells #[.int .u64 w'] 255 (0, 0)⟩ :: S := by
  refine call_in (args := [.pointer (some ⟨b, 0, none⟩)]) Tryz.func208 (by decide) rfl rfl ?_
  repeat' first|(refine gX ?_;first|refine o_v rfl rfl ?_|(refine gL ?_;first|refine o_load rfl rfl rfl rfl ?_|refine o_loadR rfl rfl rfl (by omega) rfl rfl ?_|refine o_loadW rfl rfl rfl rfl ?_|refine o_loadK rfl rfl rfl ?_)|(refine gS ?_;first|refine o_store rfl rfl rfl rfl rfl rfl ?_|refine o_storeW rfl rfl rfl rfl rfl rfl ?_)|refine o_shl rfl rfl rfl rfl (by decide) ?_|refine o_shr rfl rfl rfl rfl (by decide) ?_|refine o_xor rfl rfl rfl rfl ?_)|refine o_head0 rfl ?_|refine o_end ?_|refine o_head1 rfl ?_|refine wp_seq ?_|refine o_region ?_|refine w_retA (vs:=[_]) rfl (Res.tmp rfl Res.nil) ?_|refine w_ret (S) (vs:=[_]) rfl (Res.tmp rfl Res.nil) ?_|(show WP _ _ _ _ (.region 1 _ true) _ _ _ _;refine o_drawnZ [Zf 0,Zf 1,Zf 2,Zf 3,Zf 4,Zf 5,Zf 6,Zf 7,Zf 8,Zt 9] [] mixed (by kernel_rfl) (List.nil_sublist _) ?_)|(show WP _ _ _ _ (.region 2 _ true) _ _ _ _;refine o_drawnZ [Zf 0,Zf 1,Zf 2,Zf 3,Zf 4,Zf 5,Zf 6,Zf 7,Zf 8,Zt 9] [] mixed (by kernel_rfl) (List.nil_sublist _) ?_)|(show WP _ _ _ _ (.region 3 _ true) _ _ _ _;refine o_drawnZ [Zf 0,Zf 1,Zf 2,Zf 3,Zf 4,Zf 5,Zf 6,Zf 7,Zf 8,Zt 9] [] mixed (by kernel_rfl) (List.nil_sublist _) ?_)
  exact ⟨_, _, rfl, rfl⟩
theorem and_le {x : Int} {m : Nat} (h : m ≤ 8000000) : ∃ q : Nat, q ≤ m ∧ IntKind.u64.wrap (BitVec.ofInt IntKind.u64.bits x &&& BitVec.ofInt IntKind.u64.bits (m : Int)).toNat = (q : Int) := by
  refine ⟨(BitVec.ofInt IntKind.u64.bits x &&& BitVec.ofInt IntKind.u64.bits (m : Int)).toNat, ?_, ?_⟩
  · rw [BitVec.toNat_and]
    refine Nat.le_trans Nat.and_le_right ?_
    rw [BitVec.toNat_ofInt]
    show ((m : Int) % (2 ^ 64 : Nat)).toNat ≤ m
    omega
  · have h1 := (BitVec.ofInt IntKind.u64.bits x &&& BitVec.ofInt IntKind.u64.bits (m : Int)).isLt
    have e : 2 ^ IntKind.u64.bits = 18446744073709551616 := by decide
    exact wrap_u64 (by omega)
theorem c197 (E : Env) (S0 Δ : Ents) (xs : List Int) (a : Option Addr) (len cap lo hi : Nat) (ho : Own (.slice a len cap) xs Δ) (hlh : lo + 12 < hi) (hh : hi ≤ xs.length) (hm : xs.length ≤ 4000000) :
    CallW Tryz.prog E 197 #[.slice a len cap, iv lo, iv hi] (Δ ++ S0) fun r S' => ∃ ys Δ', Own (.slice a len cap) ys Δ' ∧ Seg lo hi xs ys ∧ S' = Δ' ++ S0 := by
  have hlen : len = xs.length := by obtain ⟨_, _, h, _⟩ := ho.slv; cases h; rfl
  obtain ⟨n, hn⟩ : ∃ n : Nat, n = hi - lo := ⟨_, rfl⟩
  obtain ⟨q4, h4⟩ : ∃ q4 : Nat, q4 = lo + n / 4 * 2 - 1 := ⟨_, rfl⟩
  have e0 : (hi : Int) - lo = (n : Int) := by omega
  have k1 := fun S => c207 E S n (by omega) (by omega)
  rw [← e0] at k1
  refine call_in (args := [.slice a len cap, iv lo, iv hi]) Tryz.func197 (by decide) rfl rfl ?_
  repeat' first|(refine gX ?_;first|refine o_v rfl rfl ?_|(refine gL ?_;first|refine o_load rfl rfl rfl rfl ?_|refine o_loadR rfl rfl rfl (by omega) rfl rfl ?_|refine o_loadW rfl rfl rfl rfl ?_|refine o_loadK rfl rfl rfl ?_)|(refine gB ?_;first|refine o_quoN rfl rfl rfl rfl (by decide) (by omega) ?_|refine o_mul rfl rfl rfl rfl (by omega) ?_|refine o_add rfl rfl rfl rfl (by omega) ?_|refine o_sub rfl rfl rfl rfl (by omega) ?_)|(refine gC ?_;first|(refine o_callZ rfl rfl rfl (k1 _) ?_;rintro r _ ⟨⟨M, hM0, hM, rfl⟩, rfl⟩;refine ⟨inferInstance, ?_⟩))|(refine gI ?_;first|refine o_indexS rfl rfl rfl rfl rfl rfl (by omega) ?_|refine o_index rfl rfl rfl rfl rfl (by omega) ?_)|(refine gS ?_;first|refine o_store rfl rfl rfl rfl rfl rfl ?_|refine o_storeW rfl rfl rfl rfl rfl rfl ?_)|refine o_conv rfl rfl rfl rfl rfl (wrap_u64 (by omega)) ?_|(refine o_allocZ rfl rfl ?_;intro _))|refine o_head0 rfl ?_|refine o_end ?_|refine o_head1 rfl ?_|(refine w_condD rfl ?_ ?_<;>intro h<;>try (exact absurd (by omega) h))|refine wp_seq ?_|refine o_region ?_|refine wp_block ?_|refine wp_skip ?_|refine wp_exit ?_|(refine w_condD rfl ?_ ?_<;>intro h)|(refine w_cond rfl ?_ ?_<;>intro h<;>try exact Bool.noConfusion h)|refine w_retA (vs:=[]) rfl Res.nil ?_|refine w_ret (S) (vs:=[]) rfl Res.nil ?_|(show WP _ _ _ _ (.region 10 _ true) _ _ _ _;refine o_drawnZ [Zf 0,Zf 1,Zt 2,Zt 3,Zt 4,Zt 5,Zf 6,Zf 7,Zf 8,Zf 9,Zf 10,Zf 11,Zf 12,Zf 13,Zf 14,Zf 15,Zf 16,Zf 17,Zf 18,Zt 19] [] mixed (by kernel_rfl) (List.nil_sublist _) ?_)
  rename_i b
  refine WP.perm (S' := Δ ++ (⟨b, true, .cells #[.int .u64 ((hi : Int) - lo)] 255 (0, 0)⟩ :: S0)) ?_ List.perm_middle.symm
  refine wp_loop (fun m t ds S' => ∃ (j : Nat) (t0 : Tm) (ys : List Int) (Δ : Ents) (w : Int), m = 3 - j ∧ j ≤ 3 ∧ [] = ds ∧ Δ ++ (⟨b, true, .cells #[.int .u64 w] 255 (0, 0)⟩ :: S0) = S' ∧ t = den [(9, iv (q4 + j : Nat)), (8, .int .u64 M), (6, iv n), (7, .pointer (some ⟨b, 0, none⟩)), (0, .slice a len cap), (1, iv lo), (2, iv hi)] t0 ∧ Own (.slice a len cap) ys Δ ∧ Seg lo hi xs ys)
    _ ⟨0, _, xs, Δ, _, rfl, by omega, rfl, rfl, keep ⟨congrArg (fun q : Int => some (iv q)) (show (lo : Int) + ((hi : Int) - lo) / 4 * 2 - 1 = ((q4 + 0 : Nat) : Int) by omega), rfl, congrArg (fun q : Int => some (iv q)) e0, rfl, rfl, rfl, rfl, trivial⟩, ho, Seg.refl _ _ _⟩ ?_
  clear ho k1
  rintro m t ds S' ⟨j, t0, ys, Δ, w, rfl, hj, rfl, rfl, rfl, ho, hsg⟩
  obtain ⟨_, hrt⟩ := ho.sla
  have i6 := SlI.mk hrt
  have hyl := hsg.len
  have hyl' : len = ys.length := hlen.trans hyl.symm
  repeat' first|(refine gX ?_;first|refine o_v rfl rfl ?_|(refine gL ?_;first|refine o_load rfl rfl rfl rfl ?_|refine o_loadR rfl rfl rfl (by omega) rfl rfl ?_|refine o_loadW rfl rfl rfl rfl ?_|refine o_loadK rfl rfl rfl ?_)|(refine gB ?_;first|refine o_quoN rfl rfl rfl rfl (by decide) (by omega) ?_|refine o_mul rfl rfl rfl rfl (by omega) ?_|refine o_add rfl rfl rfl rfl (by omega) ?_|refine o_sub rfl rfl rfl rfl (by omega) ?_)|(refine gC ?_;first|(refine o_callZ rfl rfl rfl (CallW.perm (c208 _ (Δ ++ S0) b w) List.perm_middle) ?_;rintro r _ ⟨z, w', rfl, rfl⟩;obtain ⟨q, hq, hqe⟩ := and_le (x := z) (m := M - 1) (by omega);refine ⟨inferInstance, ?_⟩))|(refine gI ?_;first|refine o_indexZ (lo + q) rfl rfl rfl rfl rfl hyl' (by omega) (by omega) ?_|refine o_indexZ (q4 + j) rfl rfl rfl rfl rfl hyl' (by omega) (by omega) ?_|refine o_indexZ (lo + q) rfl rfl rfl rfl rfl (hyl'.trans List.length_set.symm) (by omega) (by rw [List.length_set]; omega) ?_|refine o_indexZ (q4 + j) rfl rfl rfl rfl rfl (hyl'.trans List.length_set.symm) (by omega) (by rw [List.length_set]; omega) ?_|refine o_indexZ (lo + (q - n)) rfl rfl rfl rfl rfl hyl' (by omega) (by omega) ?_|refine o_indexZ (q4 + j) rfl rfl rfl rfl rfl hyl' (by omega) (by omega) ?_|refine o_indexZ (lo + (q - n)) rfl rfl rfl rfl rfl (hyl'.trans List.length_set.symm) (by omega) (by rw [List.length_set]; omega) ?_|refine o_indexZ (q4 + j) rfl rfl rfl rfl rfl (hyl'.trans List.length_set.symm) (by omega) (by rw [List.length_set]; omega) ?_|refine o_indexS rfl rfl rfl rfl rfl rfl (by omega) ?_|refine o_index rfl rfl rfl rfl rfl (by omega) ?_)|(refine gS ?_;first|(refine o_storeO (ys[lo + q]'(by first|done|omega)) rfl rfl rfl ho (by omega) rfl rfl rfl rfl ?_;intro Δ2 ho2;refine ⟨_, inferInstance, ?_⟩;obtain ⟨_, hrt2⟩ := ho2.sla;have i7 := SlI.mk hrt2)|(refine o_storeO (ys[q4 + j]'(by first|done|omega)) rfl rfl rfl ho2 (by rw [List.length_set]; omega) rfl rfl rfl rfl ?_;intro Δ3 ho3;refine ⟨_, inferInstance, ?_⟩)|(refine o_storeO (ys[lo + (q - n)]'(by first|done|omega)) rfl rfl rfl ho (by omega) rfl rfl rfl rfl ?_;intro Δ2 ho2;refine ⟨_, inferInstance, ?_⟩;obtain ⟨_, hrt2⟩ := ho2.sla;have i7 := SlI.mk hrt2)|(refine o_storeO (ys[q4 + j]'(by first|done|omega)) rfl rfl rfl ho2 (by rw [List.length_set]; omega) rfl rfl rfl rfl ?_;intro Δ3 ho3;refine ⟨_, inferInstance, ?_⟩)|refine o_store rfl rfl rfl rfl rfl rfl ?_|refine o_storeW rfl rfl rfl rfl rfl rfl ?_)|refine o_subU rfl rfl rfl rfl (show IntKind.u64.wrap ((M : Int) - 1) = ((M - 1 : Nat) : Int) by rw [show (M : Int) - 1 = ((M - 1 : Nat) : Int) by omega]; exact wrap_u64 (by omega)) ?_|refine o_and rfl rfl rfl rfl hqe ?_|refine o_conv rfl rfl rfl rfl rfl (wrap_in (by omega) (by omega)) ?_|(refine o_allocZ rfl rfl ?_;intro _))|refine o_head0 rfl ?_|refine o_end ?_|refine o_head1 rfl ?_|refine wp_seq ?_|refine o_region ?_|refine wp_block ?_|refine wp_skip ?_|refine wp_exit ?_|(refine w_condD rfl ?_ ?_<;>intro h)|(refine w_cond rfl ?_ ?_<;>intro h<;>try exact Bool.noConfusion h)|refine w_retA (vs:=[]) rfl Res.nil ?_|refine w_ret (S) (vs:=[]) rfl Res.nil ?_|(show WP _ _ _ _ (.region 10 _ true) _ _ _ _;refine o_drawnZ [Zf 0,Zf 1,Zt 2,Zt 3,Zt 4,Zt 5,Zf 6,Zf 7,Zf 8,Zf 9,Zf 10,Zf 11,Zf 12,Zf 13,Zf 14,Zf 15,Zf 16,Zf 17,Zf 18,Zt 19] [] mixed (by kernel_rfl) (List.nil_sublist _) ?_)
  · simp only [at0_get] at ho3
    exact ⟨3 - (j + 1), by omega, _, List.Sublist.refl _, j + 1, _, _, Δ3, w', rfl, by omega, rfl, rfl, keep ⟨rfl, rfl, rfl, rfl, rfl, rfl, rfl, trivial⟩, ho3, hsg.trans (Seg.sw (by omega) (by omega) (by omega) (by omega) (by omega))⟩
  · simp only [at0_get] at ho3
    exact ⟨3 - (j + 1), by omega, _, List.Sublist.refl _, j + 1, _, _, Δ3, w', rfl, by omega, rfl, rfl, keep ⟨rfl, rfl, rfl, rfl, rfl, rfl, rfl, trivial⟩, ho3, hsg.trans (Seg.sw (by omega) (by omega) (by omega) (by omega) (by omega))⟩
  · exact w_fall (semH_drop (S' := Δ ++ S0) (res_sem Res.nil ⟨ys, Δ, ho, hsg, rfl⟩) (List.Sublist.append_left (.cons _ (List.Sublist.refl _)) _))
end Go.Proofs.YtpnnmklacialgaaGreat
namespace Go.Proofs.YtpnnmklacialgaaGreat
open Go.Conc
attribute [local irreducible] WP OpF OpX CallW SemH retQ AnyF RoundW
structure Out (lo hi a b : Nat) (ys : List Int) : Prop where
  sl : SrtOn lo a ys
  sr : SrtOn b hi ys
  l : ∀ p q, lo ≤ p → p < a → a ≤ q → q < hi → at0 ys p ≤ at0 ys q
  r : ∀ p q, lo ≤ p → p < b → b ≤ q → q < hi → at0 ys p ≤ at0 ys q
  h1 : lo ≤ a
  h2 : a ≤ b
  h3 : b ≤ hi
theorem Out.fin {lo hi a b : Nat} {ys : List Int} (h : Out lo hi a b ys) (hs : SrtOn a b ys) : SrtOn lo hi ys := by
  intro p q h1 h2 h3
  by_cases e1 : p < a
  · by_cases e2 : q < a
    · exact h.sl p q h1 h2 e2
    · exact h.l p q h1 e1 (by omega) h3
  · by_cases e2 : b ≤ q
    · by_cases e3 : b ≤ p
      · exact h.sr p q e3 h2 h3
      · exact h.r p q h1 (by omega) e2 h3
    · exact hs p q (by omega) h2 (by omega)
theorem Out.seg {lo hi a b : Nat} {ys zs : List Int} (h : Out lo hi a b ys) (hs : Seg a b ys zs) (hb : b ≤ ys.length) : Out lo hi a b zs := by
  have hm : ∀ q, lo ≤ q → q < hi → ∃ q', (a ≤ q → a ≤ q') ∧ (q < b → q' < b) ∧ (q < a → q' = q) ∧ (b ≤ q → q' = q) ∧ lo ≤ q' ∧ q' < hi ∧ at0 zs q = at0 ys q' := by
    intro q h1 h2
    have := h.h1
    have := h.h2
    have := h.h3
    by_cases e : a ≤ q ∧ q < b
    · obtain ⟨q', e1, e2, e3⟩ := hs.mem hb e.1 e.2
      exact ⟨q', fun _ => e1, fun _ => e2, fun _ => by omega, fun _ => by omega, by omega, by omega, e3.symm⟩
    · exact ⟨q, id, id, fun _ => rfl, fun _ => rfl, h1, h2, hs.out q (by omega)⟩
  have := h.h1
  have := h.h2
  have := h.h3
  refine ⟨fun p q h1 h2 h3 => ?_, fun p q h1 h2 h3 => ?_, fun p q h1 h2 h3 h4 => ?_, fun p q h1 h2 h3 h4 => ?_, h.h1, h.h2, h.h3⟩
  · rw [hs.out p (by omega), hs.out q (by omega)]; exact h.sl p q h1 h2 h3
  · rw [hs.out p (by omega), hs.out q (by omega)]; exact h.sr p q h1 h2 h3
  · obtain ⟨q', e1, e2, e3, e4, e5, e6, e7⟩ := hm q (by omega) h4
    rw [hs.out p (by omega), e7]; exact h.l p q' h1 h2 (e1 h3) e6
  · obtain ⟨p', e1, e2, e3, e4, e5, e6, e7⟩ := hm p h1 (by omega)
    rw [hs.out q (by omega), e7]; exact h.r p' q e5 (e2 h2) h3 h4
theorem Out.left {lo hi a b m : Nat} {ys : List Int} (h : Out lo hi a b ys) (h1 : a ≤ m) (h2 : m ≤ b) (hs : SrtOn a m ys) (hc : ∀ p q, a ≤ p → p < m → m ≤ q → q < b → at0 ys p ≤ at0 ys q) : Out lo hi m b ys := by
  have := h.h1
  have := h.h3
  refine ⟨fun p q e1 e2 e3 => ?_, h.sr, fun p q e1 e2 e3 e4 => ?_, h.r, by omega, h2, h.h3⟩
  · by_cases c1 : p < a
    · by_cases c2 : q < a
      · exact h.sl p q e1 e2 c2
      · exact h.l p q e1 c1 (by omega) (by omega)
    · exact hs p q (by omega) e2 e3
  · by_cases c1 : p < a
    · exact h.l p q e1 c1 (by omega) e4
    · by_cases c2 : q < b
      · exact hc p q (by omega) e2 e3 c2
      · exact h.r p q e1 (by omega) (by omega) e4
theorem Out.right {lo hi a b m : Nat} {ys : List Int} (h : Out lo hi a b ys) (h1 : a ≤ m) (h2 : m ≤ b) (hs : SrtOn m b ys) (hc : ∀ p q, a ≤ p → p < m → m ≤ q → q < b → at0 ys p ≤ at0 ys q) : Out lo hi a m ys := by
  have := h.h1
  have := h.h3
  refine ⟨h.sl, fun p q e1 e2 e3 => ?_, h.l, fun p q e1 e2 e3 e4 => ?_, h.h1, h1, by omega⟩
  · by_cases c1 : b ≤ p
    · exact h.sr p q c1 e2 e3
    · by_cases c2 : b ≤ q
      · exact h.r p q (by omega) (by omega) c2 e3
      · exact hs p q e1 e2 (by omega)
  · by_cases c1 : b ≤ q
    · exact h.r p q e1 (by omega) c1 e4
    · by_cases c2 : p < a
      · exact h.l p q e1 c2 (by omega) e4
      · exact hc p q (by omega) e2 e3 (by omega)
structure Pq (lo hi a b : Nat) (xs ys : List Int) : Prop where
  seg : Seg lo hi xs ys
  out : Out lo hi a b ys
  low : LowB a b ys
theorem Pq.go {lo hi a b : Nat} {xs ys zs : List Int} (h : Pq lo hi a b xs ys) (hs : Seg a b ys zs) (hh : hi ≤ xs.length) : Pq lo hi a b xs zs :=
  have h1 := h.out.h1
  have h2 := h.out.h3
  have h3 := h.seg.len
  ⟨h.seg.trans (hs.mono h1 h2), h.out.seg hs (by omega), h.low.seg hs (by omega)⟩
theorem Pq.fin {lo hi a b : Nat} {xs ys zs : List Int} (h : Pq lo hi a b xs ys) (hs : Seg a b ys zs) (hh : hi ≤ xs.length) (ht : SrtOn a b zs) : Seg lo hi xs zs ∧ SrtOn lo hi zs :=
  have h1 := h.go hs hh
  ⟨h1.seg, h1.out.fin ht⟩
theorem Pq.left {lo hi a b np : Nat} {xs ys zs ws : List Int} (h : Pq lo hi a b xs ys) (hc : Cut a b np ys zs) (hh : hi ≤ xs.length) (hs : Seg a np zs ws) (ht : SrtOn a np ws) : Pq lo hi (np + 1) b xs ws := by
  obtain ⟨c1, c2, c3, c4, c5⟩ := hc
  have h0 := h.go c1 hh
  have h1 := h.out.h1
  have h2 := h.out.h3
  have h3 := h.seg.len
  have h4 := c1.len
  have h5 := h0.go (hs.mono (Nat.le_refl _) (Nat.le_of_lt c3)) hh
  have hle : ∀ p, a ≤ p → p < np → at0 ws p ≤ at0 ws np := by
    intro p e1 e2
    obtain ⟨p', f1, f2, f3⟩ := hs.mem (by omega) e1 e2
    rw [hs.out np (.inr (Nat.le_refl _)), ← f3]
    exact c4 p' f1 f2
  have hge : ∀ q, np < q → q < b → at0 ws np ≤ at0 ws q := by
    intro q e1 e2
    rw [hs.out np (.inr (Nat.le_refl _)), hs.out q (.inr (by omega))]
    exact c5 q e1 e2
  refine ⟨h5.seg, h5.out.left (by omega) (by omega) (fun p q e1 e2 e3 => ?_) (fun p q e1 e2 e3 e4 => ?_), fun _ q e1 e2 => ?_⟩
  · by_cases e : q = np
    · subst e; exact hle p e1 e2
    · exact ht p q e1 e2 (by omega)
  · have f1 := hge q (by omega) e4
    by_cases e : p = np
    · subst e; exact f1
    · exact Int.le_trans (hle p e1 (by omega)) f1
  · exact hge q (by omega) e2
theorem Pq.right {lo hi a b np : Nat} {xs ys zs ws : List Int} (h : Pq lo hi a b xs ys) (hc : Cut a b np ys zs) (hh : hi ≤ xs.length) (hs : Seg (np + 1) b zs ws) (ht : SrtOn (np + 1) b ws) : Pq lo hi a np xs ws := by
  obtain ⟨c1, c2, c3, c4, c5⟩ := hc
  have h0 := h.go c1 hh
  have h1 := h.out.h1
  have h2 := h.out.h3
  have h3 := h.seg.len
  have h4 := c1.len
  have h5 := h0.go (hs.mono (by omega) (Nat.le_refl _)) hh
  have hle : ∀ p, a ≤ p → p < np → at0 ws p ≤ at0 ws np := by
    intro p e1 e2
    rw [hs.out np (.inl (by omega)), hs.out p (.inl (by omega))]
    exact c4 p e1 e2
  have hge : ∀ q, np < q → q < b → at0 ws np ≤ at0 ws q := by
    intro q e1 e2
    obtain ⟨q', f1, f2, f3⟩ := hs.mem (by omega) (show np + 1 ≤ q by omega) e2
    rw [hs.out np (.inl (by omega)), ← f3]
    exact c5 q' (by omega) f2
  refine ⟨h5.seg, h5.out.right (by omega) (by omega) (fun p q e1 e2 e3 => ?_) (fun p q e1 e2 e3 e4 => ?_), fun e0 q e1 e2 => ?_⟩
  · by_cases e : p = np
    · subst e; exact hge q e2 e3
    · exact ht p q (by omega) e2 e3
  · have f1 := hle p e1 e2
    by_cases e : q = np
    · subst e; exact f1
    · exact Int.le_trans f1 (hge q (by omega) e4)
  · exact h5.low e0 q e1 (by omega)
theorem Pq.eqs {lo hi a b md pv : Nat} {xs ys zs : List Int} (h : Pq lo hi a b xs ys) (h0 : 0 < a) (hpv : a ≤ pv ∧ pv < b) (hle : at0 ys pv ≤ at0 ys (a - 1)) (hh : hi ≤ xs.length) (h1 : a < md) (h2 : md ≤ b) (hs : Seg a b ys zs) (hl : ∀ q, a ≤ q → q < md → at0 zs q ≤ at0 ys pv) (hr : ∀ q, md ≤ q → q < b → at0 ys pv ≤ at0 zs q) : Pq lo hi md b xs zs := by
  have h5 := h.go hs hh
  have he : at0 zs (a - 1) = at0 ys (a - 1) := hs.out (a - 1) (.inl (by omega))
  have hge : ∀ q, a ≤ q → q < b → at0 ys pv ≤ at0 zs q := fun q e1 e2 => by
    have := h5.low h0 q e1 e2
    omega
  refine ⟨h5.seg, h5.out.left (by omega) h2 (fun p q e1 e2 e3 => ?_) (fun p q e1 e2 e3 e4 => ?_), fun e0 q e1 e2 => ?_⟩
  · have f1 := hl p e1 (by omega)
    have f2 := hge q (by omega) (by omega)
    omega
  · have f1 := hl p e1 e2
    have f2 := hr q e3 e4
    omega
  · have f1 := hl (md - 1) (by omega) (by omega)
    have f2 := hr q e1 e2
    omega
theorem Pq.start {lo hi : Nat} {xs : List Int} (h : lo ≤ hi) (hl : LowB lo hi xs) : Pq lo hi lo hi xs xs :=
  ⟨Seg.refl _ _ _, ⟨fun p q h1 h2 h3 => by omega, fun p q h1 h2 h3 => by omega, fun p q h1 h2 h3 h4 => by omega, fun p q h1 h2 h3 h4 => by omega, Nat.le_refl _, h, Nat.le_refl _⟩, hl⟩
theorem c188 (N : Nat) : ∀ (E : Env) (S0 Δ : Ents) (xs : List Int) (a : Option Addr) (len cap lo hi lim : Nat), hi - lo < N → Own (.slice a len cap) xs Δ → lo ≤ hi → hi ≤ xs.length → xs.length ≤ 4000000 → lim ≤ 400 → LowB lo hi xs →
    CallW Tryz.prog E 188 #[.slice a len cap, iv lo, iv hi, iv lim] (Δ ++ S0) fun r S' => ∃ ys Δ', Own (.slice a len cap) ys Δ' ∧ Seg lo hi xs ys ∧ SrtOn lo hi ys ∧ S' = Δ' ++ S0 := by
  induction N with
  | zero => intro E S0 Δ xs a len cap lo hi lim h; omega
  | succ N ih =>
  intro E S0 Δ xs a len cap lo hi lim hN ho hlh hh hm hlim hlow
  have hlen : len = xs.length := by obtain ⟨_, _, h, _⟩ := ho.slv; cases h; rfl
  refine call_in (args := [.slice a len cap, iv lo, iv hi, iv lim]) Tryz.func188 (by decide) rfl rfl ?_
  repeat' first|(refine gX ?_;first|refine o_v rfl rfl ?_|(refine o_splitD rfl rfl rfl ?_ ?_<;>intro h)|(refine o_split rfl rfl rfl ?_ ?_<;>intro h<;>fail_if_success exact Bool.noConfusion h)|(refine gL ?_;first|refine o_load rfl rfl rfl rfl ?_|refine o_loadR rfl rfl rfl (by omega) rfl rfl ?_|refine o_loadW rfl rfl rfl rfl ?_|refine o_loadK rfl rfl rfl ?_)|(refine gB ?_;first|refine o_add rfl rfl rfl rfl (by omega) ?_|refine o_sub rfl rfl rfl rfl (by omega) ?_|refine o_eqNil rfl rfl rfl rfl rfl ?_)|(refine gI ?_;first|refine o_indexS rfl rfl rfl rfl rfl rfl (by omega) ?_|refine o_index rfl rfl rfl rfl rfl (by omega) ?_)|refine o_skip rfl rfl ?_|refine o_skipN rfl rfl ?_|(refine o_splitP rfl ?_ ?_<;>intro h<;>fail_if_success exact Bool.noConfusion h))|refine o_head0 rfl ?_|refine o_end ?_|refine o_head1 rfl ?_|refine wp_seq ?_|refine o_region ?_|refine wp_block ?_|refine wp_skip ?_|refine wp_exit ?_|(refine w_condD rfl ?_ ?_<;>intro h)|(refine w_cond rfl ?_ ?_<;>intro h<;>try exact Bool.noConfusion h)|refine w_ret (S) (vs:=[]) rfl Res.nil ?_|(show WP _ _ _ _ (.region 17 _ true) _ _ _ _;refine o_drawnZ [Zf 0,Zf 1,Zf 2,Zf 3,Zf 4,Zf 5,Zf 6,Zf 7,Zf 8,Zf 9,Zf 10,Zf 11,Zt 12,Zf 13,Zf 14] [] mixed (by kernel_rfl) (List.nil_sublist _) ?_)
  refine wp_loop (fun m t ds S' => ∃ (x y l : Nat) (bal part : Bool) (t0 : Tm) (ys : List Int) (Δ : Ents), m = y - x ∧ l ≤ 400 ∧ [] = ds ∧ Δ ++ S0 = S' ∧ t = den [(8, .bool bal), (9, .bool part), (0, .slice a len cap), (1, iv x), (2, iv y), (3, iv l)] t0 ∧ Own (.slice a len cap) ys Δ ∧ Pq lo hi x y xs ys)
    _ ⟨lo, hi, lim, true, true, _, xs, Δ, rfl, hlim, rfl, rfl, keep ⟨rfl, rfl, rfl, rfl, rfl, rfl, trivial⟩, ho, Pq.start hlh hlow⟩ ?_
  clear ho hlow hlim
  rintro m t ds S' ⟨x, y, l, bal, part, t0, ys, Δ, rfl, hl, rfl, rfl, rfl, ho, hp⟩
  have hx1 := hp.out.h1
  have hx2 := hp.out.h2
  have hx3 := hp.out.h3
  have hyl := hp.seg.len
  repeat' first|(refine gX ?_;first|refine o_v rfl rfl ?_|(refine o_splitD rfl rfl rfl ?_ ?_<;>intro h)|(refine o_split rfl rfl rfl ?_ ?_<;>intro h<;>fail_if_success exact Bool.noConfusion h)|(refine gL ?_;first|refine o_load rfl rfl rfl rfl ?_|refine o_loadR rfl rfl rfl (by omega) rfl rfl ?_|refine o_loadW rfl rfl rfl rfl ?_|refine o_loadK rfl rfl rfl ?_)|(refine gB ?_;first|refine o_add rfl rfl rfl rfl (by omega) ?_|refine o_sub rfl rfl rfl rfl (by omega) ?_|refine o_eqNil rfl rfl rfl rfl rfl ?_)|(refine gC ?_;first|(refine o_callZ rfl rfl rfl (c195 _ S0 Δ ys a len cap x y ho hx2 (by omega) (by omega)) ?_;rintro r _ ⟨zs, Δ', ho', hsg', hst', rfl⟩;refine ⟨inferInstance, ?_⟩)|(refine o_callZ rfl rfl rfl (c196 _ S0 Δ ys a len cap x y ho (by omega) (by omega) (by omega)) ?_;rintro r _ ⟨zs, Δ', ho', hsg', hst', rfl⟩;refine ⟨inferInstance, ?_⟩)|(refine o_callZ rfl rfl rfl (c197 _ S0 Δ ys a len cap x y ho (by omega) (by omega) (by omega)) ?_;rintro r _ ⟨zs, Δ', ho', hsg', rfl⟩;refine ⟨inferInstance, ?_⟩))|(refine gI ?_;first|refine o_indexS rfl rfl rfl rfl rfl rfl (by omega) ?_|refine o_index rfl rfl rfl rfl rfl (by omega) ?_)|refine o_skip rfl rfl ?_|refine o_skipN rfl rfl ?_|(refine o_splitP rfl ?_ ?_<;>intro h<;>fail_if_success exact Bool.noConfusion h))|refine o_head0 rfl ?_|refine o_end ?_|refine o_head1 rfl ?_|(show WP _ _ _ _ (.seq (.seq (.region 7 _ _) _) _) _ _ _ _;refine wp_cut (fun t ds S' => ∃ (l : Nat) (t0 : Tm) (ys : List Int) (Δ : Ents), l ≤ 400 ∧ [] = ds ∧ Δ ++ S0 = S' ∧ t = den [(10, iv ((y : Int) - x)), (8, .bool bal), (9, .bool part), (0, .slice a len cap), (1, iv x), (2, iv y), (3, iv l)] t0 ∧ Own (.slice a len cap) ys Δ ∧ Pq lo hi x y xs ys) ?_ ?_)|refine wp_seq ?_|refine o_region ?_|refine wp_block ?_|refine wp_skip ?_|refine wp_exit ?_|(refine w_condD rfl ?_ ?_<;>intro h)|(refine w_cond rfl ?_ ?_<;>intro h<;>try exact Bool.noConfusion h)|refine w_retA (vs:=[]) rfl Res.nil ?_|refine w_ret (S) (vs:=[]) rfl Res.nil ?_|(show WP _ _ _ _ (.region 17 _ true) _ _ _ _;refine o_drawnZ [Zf 0,Zf 1,Zf 2,Zf 3,Zf 4,Zf 5,Zf 6,Zf 7,Zf 8,Zf 9,Zf 10,Zf 11,Zt 12,Zf 13,Zf 14] [] mixed (by kernel_rfl) (List.nil_sublist _) ?_)
  · exact ⟨zs, Δ', ho', (hp.fin hsg' hh hst').1, (hp.fin hsg' hh hst').2, rfl⟩
  · exact ⟨zs, Δ', ho', (hp.fin hsg' hh hst').1, (hp.fin hsg' hh hst').2, rfl⟩
  · exact ⟨_, List.Sublist.refl _, l - 1, _, zs, Δ', by omega, rfl, rfl, keep ⟨rfl, rfl, rfl, rfl, rfl, rfl, congrArg (fun q : Int => some (iv q)) (show (l : Int) - 1 = ((l - 1 : Nat) : Int) by omega), trivial⟩, ho', hp.go hsg' hh⟩
  · exact ⟨_, List.Sublist.refl _, l, _, ys, Δ, hl, rfl, rfl, keep ⟨rfl, rfl, rfl, rfl, rfl, rfl, rfl, trivial⟩, ho, hp⟩
  · have h13 : x + 12 < y := by omega
    clear ho hp hl hyl
    rintro t ds S' ⟨l, t0, ys, Δ, hl, rfl, rfl, rfl, ho, hp⟩
    have hyl := hp.seg.len
    have hyl' : len = ys.length := hlen.trans hyl.symm
    obtain ⟨_, hrt⟩ := ho.sla
    have hsv : SlV (Δ ++ S0) (.slice a ys.length cap) ys := by
      have := ho.slv.sub (List.sublist_append_left Δ S0)
      rwa [hyl'] at this
    have k198 := fun E => c198 E (Δ ++ S0) ys a cap x y hsv h13 (by omega) (by omega)
    rw [← hyl'] at k198
    repeat' first|(refine gX ?_;first|refine o_v rfl rfl ?_|(refine o_splitD rfl rfl rfl ?_ ?_<;>intro h)|(refine o_split rfl rfl rfl ?_ ?_<;>intro h<;>fail_if_success exact Bool.noConfusion h)|(refine gL ?_;first|refine o_load rfl rfl rfl rfl ?_|refine o_loadR rfl rfl rfl (by omega) rfl rfl ?_|refine o_loadW rfl rfl rfl rfl ?_|refine o_loadK rfl rfl rfl ?_)|(refine gB ?_;first|refine o_add rfl rfl rfl rfl (by omega) ?_|refine o_sub rfl rfl rfl rfl (by omega) ?_|refine o_eqNil rfl rfl rfl rfl rfl ?_)|(refine gC ?_;first|(refine o_callZ rfl rfl rfl (k198 _) ?_;rintro r _ ⟨pv, hz, rfl, hpv1, hpv2, rfl⟩;refine ⟨inferInstance, ?_⟩)|(refine o_callZ rfl rfl rfl (c199 _ S0 Δ ys a len cap x y ho (by omega) (by omega) (by omega)) ?_;rintro r _ ⟨zs, Δ', ho', hsg', rfl⟩;refine ⟨inferInstance, ?_⟩))|(refine gI ?_;first|refine o_indexS rfl rfl rfl rfl rfl rfl (by omega) ?_|refine o_index rfl rfl rfl rfl rfl (by omega) ?_)|refine o_skip rfl rfl ?_|refine o_skipN rfl rfl ?_|(refine o_splitP rfl ?_ ?_<;>intro h<;>fail_if_success exact Bool.noConfusion h))|refine o_head0 rfl ?_|refine o_end ?_|refine o_head1 rfl ?_|(show WP _ _ _ _ (.seq (.seq (.region 11 _ _) _) _) _ _ _ _;refine wp_cut (fun t ds S' => ∃ (pv : Nat) (hz : Int) (t0 : Tm) (ys : List Int) (Δ : Ents), x ≤ pv ∧ pv < y ∧ [] = ds ∧ Δ ++ S0 = S' ∧ t = den [(12, iv hz), (11, iv pv), (10, iv ((y : Int) - x)), (8, .bool bal), (9, .bool part), (0, .slice a len cap), (1, iv x), (2, iv y), (3, iv l)] t0 ∧ Own (.slice a len cap) ys Δ ∧ Pq lo hi x y xs ys) ?_ ?_)|refine wp_seq ?_|refine o_region ?_|refine wp_block ?_|refine wp_skip ?_|refine wp_exit ?_|(refine w_condD rfl ?_ ?_<;>intro h)|(refine w_cond rfl ?_ ?_<;>intro h<;>try exact Bool.noConfusion h)|refine w_retA (vs:=[]) rfl Res.nil ?_|refine w_ret (S) (vs:=[]) rfl Res.nil ?_|(show WP _ _ _ _ (.region 17 _ true) _ _ _ _;refine o_drawnZ [Zf 0,Zf 1,Zf 2,Zf 3,Zf 4,Zf 5,Zf 6,Zf 7,Zf 8,Zf 9,Zf 10,Zf 11,Zt 12,Zf 13,Zf 14] [] mixed (by kernel_rfl) (List.nil_sublist _) ?_)
    · exact ⟨_, List.Sublist.refl _, y - 1 - (pv - x), 1, _, zs, Δ', by omega, by omega, rfl, rfl, keep ⟨rfl, congrArg (fun q : Int => some (iv q)) (show (y : Int) - 1 - ((pv : Int) - x) = ((y - 1 - (pv - x) : Nat) : Int) by omega), rfl, rfl, rfl, rfl, rfl, rfl, rfl, trivial⟩, ho', hp.go hsg' hh⟩
    · exact ⟨_, List.Sublist.refl _, pv, hz, _, ys, Δ, hpv1, hpv2, rfl, rfl, keep ⟨rfl, rfl, rfl, rfl, rfl, rfl, rfl, rfl, rfl, trivial⟩, ho, hp⟩
    · clear ho hp hyl hyl' hrt hsv k198 hpv1 hpv2
      rintro t ds S' ⟨pv, hz, t0, ys, Δ, hpv1, hpv2, rfl, rfl, rfl, ho, hp⟩
      have hyl := hp.seg.len
      repeat' first|(refine gX ?_;first|refine o_v rfl rfl ?_|(refine o_splitD rfl rfl rfl ?_ ?_<;>intro h)|(refine o_split rfl rfl rfl ?_ ?_<;>intro h<;>fail_if_success exact Bool.noConfusion h)|(refine gL ?_;first|refine o_load rfl rfl rfl rfl ?_|refine o_loadR rfl rfl rfl (by omega) rfl rfl ?_|refine o_loadW rfl rfl rfl rfl ?_|refine o_loadK rfl rfl rfl ?_)|(refine gB ?_;first|refine o_add rfl rfl rfl rfl (by omega) ?_|refine o_sub rfl rfl rfl rfl (by omega) ?_|refine o_eqNil rfl rfl rfl rfl rfl ?_)|(refine gC ?_;first|(refine o_callZ rfl rfl rfl (c200 _ S0 Δ ys a len cap x y ho (by omega) (by omega) (by omega) hp.low) ?_;rintro r _ ⟨is, zs, Δ', rfl, ho', hsg', hst', rfl⟩;refine ⟨inferInstance, ?_⟩))|(refine gI ?_;first|refine o_indexS rfl rfl rfl rfl rfl rfl (by omega) ?_|refine o_index rfl rfl rfl rfl rfl (by omega) ?_)|refine o_skip rfl rfl ?_|refine o_skipN rfl rfl ?_|(refine o_splitP rfl ?_ ?_<;>intro h<;>fail_if_success exact Bool.noConfusion h))|refine o_head0 rfl ?_|refine o_end ?_|refine o_head1 rfl ?_|(show WP _ _ _ _ (.seq (.seq (.region 15 _ _) _) _) _ _ _ _;refine wp_cut (fun t ds S' => ∃ (t0 : Tm) (ys : List Int) (Δ : Ents), [] = ds ∧ Δ ++ S0 = S' ∧ t = den [(11, iv pv), (10, iv ((y : Int) - x)), (8, .bool bal), (9, .bool part), (0, .slice a len cap), (1, iv x), (2, iv y), (3, iv l)] t0 ∧ Own (.slice a len cap) ys Δ ∧ Pq lo hi x y xs ys) ?_ ?_)|refine wp_seq ?_|refine o_region ?_|refine wp_block ?_|refine wp_skip ?_|refine wp_exit ?_|(refine w_condD rfl ?_ ?_<;>intro h)|(refine w_cond rfl ?_ ?_<;>intro h<;>try exact Bool.noConfusion h)|refine w_retA (vs:=[]) rfl Res.nil ?_|refine w_ret (S) (vs:=[]) rfl Res.nil ?_|(show WP _ _ _ _ (.region 17 _ true) _ _ _ _;refine o_drawnZ [Zf 0,Zf 1,Zf 2,Zf 3,Zf 4,Zf 5,Zf 6,Zf 7,Zf 8,Zf 9,Zf 10,Zf 11,Zt 12,Zf 13,Zf 14] [] mixed (by kernel_rfl) (List.nil_sublist _) ?_)
      · exact ⟨zs, Δ', ho', (hp.fin hsg' hh (hst' h)).1, (hp.fin hsg' hh (hst' h)).2, rfl⟩
      · exact ⟨_, List.Sublist.refl _, _, zs, Δ', rfl, rfl, keep ⟨rfl, rfl, rfl, rfl, rfl, rfl, rfl, rfl, trivial⟩, ho', hp.go hsg' hh⟩
      iterate 3 exact ⟨_, List.Sublist.refl _, _, ys, Δ, rfl, rfl, keep ⟨rfl, rfl, rfl, rfl, rfl, rfl, rfl, rfl, trivial⟩, ho, hp⟩
      clear ho hp hyl
      rintro t ds S' ⟨t0, ys, Δ, rfl, rfl, rfl, ho, hp⟩
      have hyl := hp.seg.len
      have hyl' : len = ys.length := hlen.trans hyl.symm
      obtain ⟨_, hrt⟩ := ho.sla
      have i6 := SlI.mk hrt
      repeat' first|(refine gX ?_;first|refine o_v rfl rfl ?_|(refine o_splitD rfl rfl rfl ?_ ?_<;>intro h)|(refine o_split rfl rfl rfl ?_ ?_<;>intro h<;>fail_if_success exact Bool.noConfusion h)|(refine gL ?_;first|refine o_load rfl rfl rfl rfl ?_|refine o_loadR rfl rfl rfl (by omega) rfl rfl ?_|refine o_loadW rfl rfl rfl rfl ?_|refine o_loadK rfl rfl rfl ?_)|(refine gB ?_;first|refine o_quoN rfl rfl rfl rfl (by decide) (by omega) ?_|refine o_add rfl rfl rfl rfl (by omega) ?_|refine o_sub rfl rfl rfl rfl (by omega) ?_|refine o_eqNil rfl rfl rfl rfl rfl ?_)|(refine gC ?_;first|refine o_callF rfl rfl rfl (c201 _ _ _ _) ?_|(refine o_callZ rfl rfl rfl (c202 _ S0 Δ ys a len cap x y pv ho ⟨hpv1, hpv2⟩ (by omega) (by omega)) ?_;rintro r _ ⟨md, zs, Δ', rfl, hmd1, hmd2, ho', hsg', hml, hmr, rfl⟩;refine ⟨inferInstance, ?_⟩)|(refine o_callZ rfl rfl rfl (c203 _ S0 Δ ys a len cap x y pv ho ⟨hpv1, hpv2⟩ (by omega) (by omega)) ?_;rintro r _ ⟨np, al, zs, Δ', rfl, ho', hcut, rfl⟩;have hc2 := hcut.ge;have hc3 := hcut.lt;have hzl := hcut.seg.len;refine ⟨inferInstance, ?_⟩)|(refine o_callZ rfl rfl rfl (ih _ S0 Δ' zs a len cap x np l (by omega) ho' (by omega) (by omega) (by omega) hl (fun e0 q e1 e2 => (hp.go hcut.seg hh).low e0 q e1 (by omega))) ?_;rintro r _ ⟨ws, Δ4, ho4, hsg4, hst4, rfl⟩;refine ⟨inferInstance, ?_⟩)|(refine o_callZ rfl rfl rfl (ih _ S0 Δ' zs a len cap (np + 1) y l (by omega) ho' (by omega) (by omega) (by omega) hl (fun e0 q e1 e2 => hcut.r q (by omega) e2)) ?_;rintro r _ ⟨ws, Δ4, ho4, hsg4, hst4, rfl⟩;refine ⟨inferInstance, ?_⟩))|(refine gI ?_;first|refine o_indexZ (x - 1) rfl rfl rfl rfl rfl hyl' (by omega) (by omega) ?_|refine o_indexS rfl rfl rfl rfl rfl hyl' (by omega) ?_|refine o_indexS rfl rfl rfl rfl rfl rfl (by omega) ?_|refine o_index rfl rfl rfl rfl rfl (by omega) ?_)|refine o_skip rfl rfl ?_|refine o_skipN rfl rfl ?_|(refine o_splitP rfl ?_ ?_<;>intro h<;>fail_if_success exact Bool.noConfusion h))|refine o_head0 rfl ?_|refine o_end ?_|refine o_head1 rfl ?_|refine wp_seq ?_|refine o_region ?_|refine wp_block ?_|refine wp_skip ?_|refine wp_exit ?_|(refine w_condD rfl ?_ ?_<;>intro h)|(refine w_cond rfl ?_ ?_<;>intro h<;>try exact Bool.noConfusion h)|refine w_retA (vs:=[]) rfl Res.nil ?_|refine w_ret (S) (vs:=[]) rfl Res.nil ?_|(show WP _ _ _ _ (.region 17 _ true) _ _ _ _;refine o_drawnZ [Zf 0,Zf 1,Zf 2,Zf 3,Zf 4,Zf 5,Zf 6,Zf 7,Zf 8,Zf 9,Zf 10,Zf 11,Zt 12,Zf 13,Zf 14] [] mixed (by kernel_rfl) (List.nil_sublist _) ?_)
      · simp only [at0_get] at h
        have h2 : at0 ys pv ≤ at0 ys (x - 1) := by
          have : ¬ at0 ys (x - 1) < at0 ys pv := by simpa using h
          omega
        exact ⟨y - md, by omega, _, List.Sublist.refl _, md, y, l, bal, part, _, zs, Δ', rfl, hl, rfl, rfl, keep ⟨rfl, rfl, rfl, rfl, rfl, rfl, trivial⟩, ho', hp.eqs (by omega) ⟨hpv1, hpv2⟩ h2 hh hmd1 hmd2 hsg' hml hmr⟩
      all_goals first
        | exact ⟨y - (np + 1), by omega, _, List.Sublist.refl _, np + 1, y, l, _, al, _, ws, Δ4, rfl, hl, rfl, rfl, keep ⟨rfl, rfl, rfl, rfl, rfl, rfl, trivial⟩, ho4, hp.left hcut hh hsg4 hst4⟩
        | exact ⟨np - x, by omega, _, List.Sublist.refl _, x, np, l, _, al, _, ws, Δ4, rfl, hl, rfl, rfl, keep ⟨rfl, rfl, rfl, rfl, rfl, rfl, trivial⟩, ho4, hp.right hcut hh hsg4 hst4⟩
theorem sortOk_all {xs : List Int} (h : xs.length ≤ 4000000) : SortOk xs := fun E S0 Δ a cap lim ho hl =>
  c188 (xs.length + 1) E S0 Δ xs a xs.length cap 0 xs.length lim (by omega) ho (Nat.zero_le _) (Nat.le_refl _) h hl fun h0 => absurd h0 (by omega)
end Go.Proofs.YtpnnmklacialgaaGreat
namespace Go.Proofs.YtpnnmklacialgaaGreat
open Go.Conc
attribute [local irreducible] WP OpF OpX CallW SemH retQ AnyF RoundW WM OpsM CallM
def putL : List Int → Int → List Int
  | [], y => [y]
  | x :: xs, y => if x < y then x :: putL xs y else if x = y then x :: xs else y :: x :: xs
theorem putL_len {xs : List Int} {y : Int} : (putL xs y).length ≤ xs.length + 1 := by
  induction xs with
  | nil => simp [putL]
  | cons x xs ih =>
    unfold putL
    split
    · simp; omega
    · split <;> simp
theorem putL_at : ∀ {xs : List Int} {y : Int} {j : Nat}, j ≤ xs.length → (∀ q, q < j → at0 xs q < y) → (j < xs.length → ¬ at0 xs j < y) → putL xs y = if j < xs.length ∧ at0 xs j = y then xs else xs.take j ++ y :: xs.drop j
  | [], y, j, hj, h1, h2 => by
    have : j = 0 := by simpa using hj
    subst this
    simp [putL]
  | x :: xs, y, 0, hj, h1, h2 => by
    have h3 := h2 (by simp)
    unfold putL
    have e : at0 (x :: xs) 0 = x := rfl
    rw [e] at h3
    rw [if_neg h3, e]
    by_cases h4 : x = y
    · rw [if_pos h4, if_pos ⟨by simp, h4⟩]
    · rw [if_neg h4, if_neg (fun hc => h4 hc.2)]; rfl
  | x :: xs, y, j + 1, hj, h1, h2 => by
    have h3 := h1 0 (by omega)
    have e : at0 (x :: xs) 0 = x := rfl
    have e2 : ∀ q, at0 (x :: xs) (q + 1) = at0 xs q := fun q => rfl
    rw [e] at h3
    unfold putL
    rw [if_pos h3, putL_at (j := j) (by simpa using hj) (fun q hq => by have := h1 (q + 1) (by omega); rwa [e2] at this) (fun hq => by have := h2 (by simp; omega); rwa [e2] at this), e2]
    by_cases h4 : j < xs.length ∧ at0 xs j = y
    · rw [if_pos h4, if_pos ⟨by simp; omega, h4.2⟩]
    · rw [if_neg h4, if_neg (fun hc => h4 ⟨by have := hc.1; simp at this; omega, hc.2⟩)]; rfl
theorem c98 (E : Env) (S Δ : Ents) (v : Value) (xs : List Int) (y : Int) (ho : Own v xs Δ) (hm : xs.length ≤ 3000000) : CallW Tryz.prog E 98 #[v, iv y] (Δ ++ S) fun r S' => ∃ Δ', Own r (putL xs y) Δ' ∧ S' = Δ' ++ S := by
  have hv0 : SlV (Δ ++ S) v xs := ho.slvS
  obtain ⟨a, cp, rfl, hcp, hr⟩ := id hv0
  have i6 := SlI.mk hr
  refine call_in (args := [.slice a xs.length cp, iv y]) Tryz.func98 (by decide) rfl rfl ?_
  repeat' first|(refine gX ?_;first|refine o_v rfl rfl ?_|(refine o_splitD rfl rfl rfl ?_ ?_<;>intro h)|(refine o_split rfl rfl rfl ?_ ?_<;>intro h<;>fail_if_success exact Bool.noConfusion h)|(refine gL ?_;first|refine o_load rfl rfl rfl rfl ?_|refine o_loadR rfl rfl rfl (by omega) rfl rfl ?_|refine o_loadW rfl rfl rfl rfl ?_|refine o_loadK rfl rfl rfl ?_)|(refine gB ?_;first|refine o_add rfl rfl rfl rfl (by omega) ?_|refine o_eqNil rfl rfl rfl rfl rfl ?_)|(refine gI ?_;first|refine o_indexS rfl rfl rfl rfl rfl rfl (by omega) ?_|refine o_index rfl rfl rfl rfl rfl (by omega) ?_)|refine o_skip rfl rfl ?_|refine o_skipN rfl rfl ?_|(refine o_bslice rfl rfl rfl rfl rfl rfl rfl ?_;intro _)|(refine o_splitP rfl ?_ ?_<;>intro h<;>fail_if_success exact Bool.noConfusion h))|refine o_head0 rfl ?_|refine o_end ?_|refine o_head1 rfl ?_|(show WP _ _ _ _ (.seq (.block 0 _) _) _ _ _ _;refine wp_cut (fun t ds S' => ∃ (j : Nat) (t0 : Tm), [] = ds ∧ Δ ++ S = S' ∧ t = den [(5, iv j), (0, .slice a xs.length cp), (1, iv y)] t0 ∧ j ≤ xs.length ∧ (∀ q, q < j → at0 xs q < y) ∧ (j < xs.length → ¬ at0 xs j < y)) ?_ ?_)|refine wp_seq ?_|refine o_region ?_|refine wp_block ?_|refine wp_skip ?_|refine wp_exit ?_|(refine w_condD rfl ?_ ?_<;>intro h)|(refine w_cond rfl ?_ ?_<;>intro h<;>try exact Bool.noConfusion h)|refine w_ret (S) (vs:=[_]) rfl (Res.tmp rfl Res.nil) ?_|refine anyF_of (fn:=98) (by decide +kernel) ?_|refine anyF_v1 (fn:=98) (by decide +kernel) rfl ?_|refine anyF_v0 (fn:=98) (by decide +kernel) rfl ?_|(show WP _ _ _ _ (.region 6 _ true) _ _ _ _;refine o_drawnA [Zt 1,Zt 2,Zt 3,Zt 5,Zt 8,Zt 9,Zt 10,Zf 0,Zf 4,Zf 6,Zf 7,Zf 11,Zf 12] mixed (by kernel_rfl) ?_)|refine o_br2 (fn:=98) (l:=[(4, false), (6, false), (7, false), (11, false), (12, false)]) 4 6 [(6, false), (7, false), (11, false), (12, false)] [(4, false), (7, false), (11, false), (12, false)] (by kernel_rfl) rfl rfl ?_ ?_|refine o_br2 (fn:=98) (l:=[(0, false), (4, false), (6, false), (7, false), (11, false), (12, false)]) 0 6 [(4, false), (6, false), (7, false), (11, false), (12, false)] [(0, false), (4, false), (7, false), (11, false), (12, false)] (by kernel_rfl) rfl rfl ?_ ?_
  · refine wp_loop (fun m t ds S' => ∃ (j : Nat) (t0 : Tm), m = xs.length - j ∧ [] = ds ∧ Δ ++ S = S' ∧ t = den [(5, iv j), (0, .slice a xs.length cp), (1, iv y)] t0 ∧ j ≤ xs.length ∧ ∀ q, q < j → at0 xs q < y) _ ⟨0, _, rfl, rfl, rfl, keep ⟨rfl, rfl, rfl, trivial⟩, Nat.zero_le _, fun q h => absurd h (by omega)⟩ ?_
    rintro m t ds S' ⟨j, t0, rfl, rfl, rfl, rfl, hj, hq⟩
    repeat' first|(refine gX ?_;first|refine o_v rfl rfl ?_|(refine o_splitD rfl rfl rfl ?_ ?_<;>intro h)|(refine o_split rfl rfl rfl ?_ ?_<;>intro h<;>fail_if_success exact Bool.noConfusion h)|(refine gL ?_;first|refine o_load rfl rfl rfl rfl ?_|refine o_loadR rfl rfl rfl (by omega) rfl rfl ?_|refine o_loadW rfl rfl rfl rfl ?_|refine o_loadK rfl rfl rfl ?_)|(refine gB ?_;first|refine o_add rfl rfl rfl rfl (by omega) ?_|refine o_eqNil rfl rfl rfl rfl rfl ?_)|(refine gI ?_;first|refine o_indexS rfl rfl rfl rfl rfl rfl (by omega) ?_|refine o_indexS rfl rfl rfl rfl rfl rfl (by omega) ?_|refine o_index rfl rfl rfl rfl rfl (by omega) ?_)|refine o_skip rfl rfl ?_|refine o_skipN rfl rfl ?_|(refine o_bslice rfl rfl rfl rfl rfl rfl rfl ?_;intro _)|(refine o_splitP rfl ?_ ?_<;>intro h<;>fail_if_success exact Bool.noConfusion h))|refine o_head0 rfl ?_|refine o_end ?_|refine o_head1 rfl ?_|refine wp_seq ?_|refine o_region ?_|refine wp_block ?_|refine wp_skip ?_|refine wp_exit ?_|(refine w_condD rfl ?_ ?_<;>intro h)|(refine w_cond rfl ?_ ?_<;>intro h<;>try exact Bool.noConfusion h)|refine w_retA (vs:=[_]) rfl (Res.tmp rfl Res.nil) ?_|refine w_ret (S) (vs:=[_]) rfl (Res.tmp rfl Res.nil) ?_|refine anyF_of (fn:=98) (by decide +kernel) ?_|refine anyF_v1 (fn:=98) (by decide +kernel) rfl ?_|refine anyF_v0 (fn:=98) (by decide +kernel) rfl ?_|(show WP _ _ _ _ (.region 6 _ true) _ _ _ _;refine o_drawnA [Zt 1,Zt 2,Zt 3,Zt 5,Zt 8,Zt 9,Zt 10,Zf 0,Zf 4,Zf 6,Zf 7,Zf 11,Zf 12] mixed (by kernel_rfl) ?_)|refine o_br2 (fn:=98) (l:=[(4, false), (6, false), (7, false), (11, false), (12, false)]) 4 6 [(6, false), (7, false), (11, false), (12, false)] [(4, false), (7, false), (11, false), (12, false)] (by kernel_rfl) rfl rfl ?_ ?_|refine o_br2 (fn:=98) (l:=[(0, false), (4, false), (6, false), (7, false), (11, false), (12, false)]) 0 6 [(4, false), (6, false), (7, false), (11, false), (12, false)] [(0, false), (4, false), (7, false), (11, false), (12, false)] (by kernel_rfl) rfl rfl ?_ ?_
    · simp only [at0_get] at h
      exact ⟨xs.length - (j + 1), by omega, _, List.Sublist.refl _, j + 1, _, rfl, rfl, rfl, keep ⟨rfl, rfl, rfl, trivial⟩, by omega, fun q h1 => by
        by_cases e : q = j
        · subst e; exact h
        · exact hq q (by omega)⟩
    · simp only [at0_get] at h
      exact ⟨_, List.Sublist.refl _, j, _, rfl, rfl, keep ⟨rfl, rfl, rfl, trivial⟩, hj, hq, fun _ => h⟩
    · exact ⟨_, List.Sublist.refl _, j, _, rfl, rfl, keep ⟨rfl, rfl, rfl, trivial⟩, hj, hq, fun hc => by omega⟩
  · rintro t ds S' ⟨k, t0, rfl, rfl, rfl, hk, hq, hge⟩
    have s1 : SlV (Δ ++ S) (slVal a 1 0 k cp) (xs.take k) := by
      have := SlV.slice (En := instEncInt) hv0 (l := 0) (hi := k) (q := cp) (by omega) (by omega) (by omega)
      rw [List.drop_zero, Nat.sub_zero] at this
      exact this
    have s2 : SlV (Δ ++ S) (slVal a 1 k xs.length cp) (xs.drop k) := by
      have := SlV.slice (En := instEncInt) hv0 (l := k) (hi := xs.length) (q := cp) (by omega) (by omega) (by omega)
      rwa [List.take_of_length_le (by simp)] at this
    have hput := putL_at hk hq hge
    repeat' first|(refine gX ?_;first|refine o_v rfl rfl ?_|(refine o_splitD rfl rfl rfl ?_ ?_<;>intro h)|(refine o_split rfl rfl rfl ?_ ?_<;>intro h<;>fail_if_success exact Bool.noConfusion h)|(refine gL ?_;first|refine o_load rfl rfl rfl rfl ?_|refine o_loadR rfl rfl rfl (by omega) rfl rfl ?_|refine o_loadW rfl rfl rfl rfl ?_|refine o_loadK rfl rfl rfl ?_)|(refine gB ?_;first|refine o_add rfl rfl rfl rfl (by omega) ?_|refine o_eqNil rfl rfl rfl rfl rfl ?_)|(refine gC ?_;first|(refine o_append (xs := ([] : List Int)) (ys := xs.take k) rfl rfl rfl rfl (Own.some (ty := 3) (c := #[]) IsRow.nil rfl (Nat.le_refl _)) (fun _ _ => s1.sub Sb.h) (by simp; omega) rfl rfl rfl rfl ?_;intro w2 Δ2 ho2;refine ⟨inferInstance, ?_⟩)|(refine o_append1 y rfl rfl rfl rfl ho2 rfl (by simp; omega) rfl rfl rfl rfl ?_;intro w3 Δ3 ho3;refine ⟨inferInstance, ?_⟩)|(refine o_append (ys := xs.drop k) rfl rfl rfl rfl ho3 (fun _ _ => s2.sub Sb.h) (by simp; omega) rfl rfl rfl rfl ?_;intro w4 Δ4 ho4;refine ⟨inferInstance, ?_⟩))|(refine gI ?_;first|refine o_indexS rfl rfl rfl rfl rfl rfl (by omega) ?_|refine o_indexS rfl rfl rfl rfl rfl rfl (by omega) ?_|refine o_index rfl rfl rfl rfl rfl (by omega) ?_)|refine o_slice 0 k cp rfl rfl rfl rfl rfl rfl rfl (.inr ⟨rfl, rfl⟩) (.inl rfl) (.inr ⟨rfl, rfl⟩) (by omega) (by omega) (by omega) ?_|refine o_slice k xs.length cp rfl rfl rfl rfl rfl rfl rfl (.inl rfl) (.inr ⟨rfl, rfl, rfl⟩) (.inr ⟨rfl, rfl⟩) (by omega) (by omega) (by omega) ?_|refine o_skip rfl rfl ?_|refine o_skipN rfl rfl ?_|(refine o_bslice rfl rfl rfl rfl rfl rfl rfl ?_;intro _)|(refine o_splitP rfl ?_ ?_<;>intro h<;>fail_if_success exact Bool.noConfusion h))|refine o_head0 rfl ?_|refine o_end ?_|refine o_head1 rfl ?_|refine wp_seq ?_|refine o_region ?_|refine wp_block ?_|refine wp_skip ?_|refine wp_exit ?_|(refine w_condD rfl ?_ ?_<;>intro h)|(refine w_cond rfl ?_ ?_<;>intro h<;>try exact Bool.noConfusion h)|refine w_ret (Δ4 ++ S) (vs:=[_]) rfl (Res.tmp rfl Res.nil) ?_|refine w_ret (Δ ++ S) (vs:=[_]) rfl (Res.tmp rfl Res.nil) ?_|refine w_ret (S) (vs:=[_]) rfl (Res.tmp rfl Res.nil) ?_|refine anyF_of (fn:=98) (by decide +kernel) ?_|refine anyF_v1 (fn:=98) (by decide +kernel) rfl ?_|refine anyF_v0 (fn:=98) (by decide +kernel) rfl ?_|(show WP _ _ _ _ (.region 6 _ true) _ _ _ _;refine o_drawnA [Zt 1,Zt 2,Zt 3,Zt 5,Zt 8,Zt 9,Zt 10,Zf 0,Zf 4,Zf 6,Zf 7,Zf 11,Zf 12] mixed (by kernel_rfl) ?_)|refine o_br2 (fn:=98) (l:=[(4, false), (6, false), (7, false), (11, false), (12, false)]) 4 6 [(6, false), (7, false), (11, false), (12, false)] [(4, false), (7, false), (11, false), (12, false)] (by kernel_rfl) rfl rfl ?_ ?_|refine o_br2 (fn:=98) (l:=[(0, false), (4, false), (6, false), (7, false), (11, false), (12, false)]) 0 6 [(4, false), (6, false), (7, false), (11, false), (12, false)] [(0, false), (4, false), (7, false), (11, false), (12, false)] (by kernel_rfl) rfl rfl ?_ ?_
    · simp only [at0_get] at h
      rw [hput, if_pos ⟨by omega, h⟩]
      exact ⟨Δ, ho, rfl⟩
    all_goals
      rw [hput, if_neg (fun hc => by first | omega | (simp only [at0_get] at h; exact h hc.2))]
      exact ⟨Δ4, by simpa [pack] using ho4, rfl⟩
def putAll (acc l : List Int) : List Int := l.foldl putL acc
theorem putAll_len {l acc : List Int} : (putAll acc l).length ≤ acc.length + l.length := by
  induction l generalizing acc with
  | nil => simp [putAll]
  | cons y l ih =>
    have h1 : (putAll (putL acc y) l).length ≤ (putL acc y).length + l.length := ih
    have h2 := putL_len (xs := acc) (y := y)
    show (putAll (putL acc y) l).length ≤ _
    simp only [List.length_cons]
    omega
theorem putAll_app {acc l l' : List Int} : putAll acc (l ++ l') = putAll (putAll acc l) l' := by unfold putAll; rw [List.foldl_append]
def periodsR (n : NetG) : List Int := putAll (putAll (putAll [] (n.uses.flatMap fun (x : UseG) => [x.period])) (n.readings.flatMap fun (x : ReadG) => [x.period])) (n.faults.flatMap fun (x : FaultG) => [x.period])
theorem c34 (E : Env) (S : Ents) (n : NetG) (a b c d e : Value) (hn : NetV S a b c d e n) (hu : n.uses.length ≤ 60) (hr : n.readings.length ≤ 60) (hf : n.faults.length ≤ 60) : CallW Tryz.prog E 34 #[.agg #[a, b, c, d, e]] S fun r S' => ∃ Δ, Own r (periodsR n) Δ ∧ S' = Δ ++ S := by
  obtain ⟨qu, cu, rfl, _, hru⟩ := hn.uses
  obtain ⟨qr, cr, rfl, _, hrr⟩ := hn.readings
  obtain ⟨qf, cf, rfl, _, hrf⟩ := hn.faults
  have iu := SlI.mk hru
  have ir := SlI.mk hrr
  have iff := SlI.mk hrf
  refine call_in (args := [.agg #[a, .slice qu n.uses.length cu, .slice qr n.readings.length cr, .slice qf n.faults.length cf, e]]) Tryz.func34 (by decide) rfl rfl ?_
  repeat' first|(refine gX ?_;first|refine o_v rfl rfl ?_|(refine gL ?_;first|refine o_load rfl rfl rfl rfl ?_|refine o_loadR rfl rfl rfl (by omega) rfl rfl ?_|refine o_loadW rfl rfl rfl rfl ?_|refine o_loadK rfl rfl rfl ?_)|(refine gF ?_;first|refine o_fieldI rfl rfl rfl rfl ?_|refine o_field rfl rfl rfl rfl ?_)|(refine gB ?_;first|refine o_add rfl rfl rfl rfl (by omega) ?_)|(refine gI ?_;first|refine o_indexS rfl rfl rfl rfl rfl rfl (by omega) ?_|refine o_index rfl rfl rfl rfl rfl (by omega) ?_)|(refine gS ?_;first|refine o_store rfl rfl rfl rfl rfl rfl ?_|refine o_storeW rfl rfl rfl rfl rfl rfl ?_)|(refine o_allocZ rfl rfl ?_;intro _)|(refine o_box rfl rfl rfl ?_;intro _))|refine o_head0 rfl ?_|refine o_end ?_|refine o_head1 rfl ?_|refine wp_seq ?_|refine o_region ?_|refine wp_block ?_|refine wp_skip ?_|refine wp_exit ?_|(refine w_condD rfl ?_ ?_<;>intro h)|(refine w_cond rfl ?_ ?_<;>intro h<;>try exact Bool.noConfusion h)|refine w_ret (Δ ++ S) (vs:=[_]) rfl (Res.tmp rfl Res.nil) ?_|refine w_ret (S) (vs:=[_]) rfl (Res.tmp rfl Res.nil) ?_
  rename_i b1
  refine wp_loop (fun m t ds S' => ∃ (j : Nat) (t0 : Tm) (w : Value) (Δ : Ents), m = n.uses.length - j ∧ j ≤ n.uses.length ∧ [] = ds ∧ Δ ++ (⟨b1, true, .cells #[a, .slice qu n.uses.length cu, .slice qr n.readings.length cr, .slice qf n.faults.length cf, e] 28 (0, 0)⟩ :: S) = S' ∧ t = den [(13, iv j), (3, w), (12, iv n.uses.length), (11, .slice qu n.uses.length cu), (1, .pointer (some ⟨b1, 0, none⟩))] t0 ∧ Own w (putAll ([]) ((n.uses.take j).flatMap fun (x : UseG) => [x.period])) Δ)
    _ ⟨0, _, _, [], rfl, Nat.zero_le _, rfl, rfl, keep ⟨rfl, rfl, rfl, rfl, rfl, trivial⟩, .nil⟩ ?_
  rintro m t ds S' ⟨j, t0, w, Δ, rfl, hj, rfl, rfl, rfl, ho⟩
  have hlo : (putAll ([]) ((n.uses.take j).flatMap fun (x : UseG) => [x.period])).length ≤ 1000 := by
    refine Nat.le_trans putAll_len ?_
    have h1 : ([] : List Int).length ≤ 0 := by
      simp
    have h2 : ((n.uses.take j).flatMap fun (x : UseG) => [x.period]).length ≤ 120 := by
      rw [List.length_flatMap]
      simp only [List.length_cons, List.length_nil, List.map_const', List.sum_replicate_nat, List.length_take]
      omega
    omega
  repeat' first|(refine gX ?_;first|refine o_v rfl rfl ?_|(refine gL ?_;first|refine o_load rfl rfl rfl rfl ?_|refine o_loadR rfl rfl rfl (by omega) rfl rfl ?_|refine o_loadW rfl rfl rfl rfl ?_|refine o_loadK rfl rfl rfl ?_)|(refine gF ?_;first|refine o_fieldI rfl rfl rfl rfl ?_|refine o_field rfl rfl rfl rfl ?_)|(refine gB ?_;first|refine o_add rfl rfl rfl rfl (by omega) ?_)|(refine gC ?_;first|(refine o_callZ rfl rfl rfl (CallW.perm (c98 _ _ Δ _ _ (n.uses[j]'(by first|done|omega)).period ho (by omega)) List.perm_middle.symm) ?_;rintro r _ ⟨Δ2, ho2, rfl⟩;refine ⟨inferInstance, ?_⟩))|(refine gI ?_;first|refine o_indexS rfl rfl rfl rfl rfl rfl (by omega) ?_|refine o_indexS rfl rfl rfl rfl rfl rfl (by omega) ?_|refine o_index rfl rfl rfl rfl rfl (by omega) ?_)|(refine gS ?_;first|refine o_store rfl rfl rfl rfl rfl rfl ?_|refine o_storeW rfl rfl rfl rfl rfl rfl ?_)|(refine o_allocZ rfl rfl ?_;intro _)|(refine o_box rfl rfl rfl ?_;intro _))|refine o_head0 rfl ?_|refine o_end ?_|refine o_head1 rfl ?_|refine wp_seq ?_|refine o_region ?_|refine wp_block ?_|refine wp_skip ?_|refine wp_exit ?_|(refine w_condD rfl ?_ ?_<;>intro h)|(refine w_cond rfl ?_ ?_<;>intro h<;>try exact Bool.noConfusion h)|refine w_ret (Δ ++ S) (vs:=[_]) rfl (Res.tmp rfl Res.nil) ?_|refine w_ret (S) (vs:=[_]) rfl (Res.tmp rfl Res.nil) ?_
  · exact ⟨n.uses.length - (j + 1), by omega, _, List.Sublist.append_left (.cons _ (List.Sublist.refl _)) _, j + 1, _, _, Δ2, rfl, by omega, rfl, rfl, keep ⟨rfl, rfl, rfl, rfl, rfl, trivial⟩, by rw [take_snoc (by omega), List.flatMap_append, putAll_app]; exact ho2⟩
  have hj2 : j = n.uses.length := by omega
  subst hj2
  rw [List.take_length] at ho
  have hacc1 : (putAll ([]) (n.uses.flatMap fun (x : UseG) => [x.period])).length ≤ 120 := by
    refine Nat.le_trans putAll_len ?_
    have h2 : (n.uses.flatMap fun (x : UseG) => [x.period]).length ≤ 120 := by
      rw [List.length_flatMap]
      simp only [List.length_cons, List.length_nil, List.map_const', List.sum_replicate_nat]
      omega
    simp only [List.length_nil]
    omega
  refine wp_loop (fun m t ds S' => ∃ (j : Nat) (t0 : Tm) (w : Value) (Δ : Ents), m = n.readings.length - j ∧ j ≤ n.readings.length ∧ [] = ds ∧ Δ ++ (⟨b1, true, .cells #[a, .slice qu n.uses.length cu, .slice qr n.readings.length cr, .slice qf n.faults.length cf, e] 28 (0, 0)⟩ :: S) = S' ∧ t = den [(25, iv j), (3, w), (24, iv n.readings.length), (23, .slice qr n.readings.length cr), (1, .pointer (some ⟨b1, 0, none⟩))] t0 ∧ Own w (putAll (putAll ([]) (n.uses.flatMap fun (x : UseG) => [x.period])) ((n.readings.take j).flatMap fun (x : ReadG) => [x.period])) Δ)
    _ ⟨0, _, _, Δ, rfl, Nat.zero_le _, rfl, rfl, keep ⟨rfl, rfl, rfl, rfl, rfl, trivial⟩, ho⟩ ?_
  clear ho hlo
  rintro m t ds S' ⟨j, t0, w, Δ, rfl, hj, rfl, rfl, rfl, ho⟩
  have hlo : (putAll (putAll ([]) (n.uses.flatMap fun (x : UseG) => [x.period])) ((n.readings.take j).flatMap fun (x : ReadG) => [x.period])).length ≤ 1000 := by
    refine Nat.le_trans putAll_len ?_
    have h1 : (putAll ([]) (n.uses.flatMap fun (x : UseG) => [x.period]) : List Int).length ≤ 120 := by
      exact hacc1
    have h2 : ((n.readings.take j).flatMap fun (x : ReadG) => [x.period]).length ≤ 120 := by
      rw [List.length_flatMap]
      simp only [List.length_cons, List.length_nil, List.map_const', List.sum_replicate_nat, List.length_take]
      omega
    omega
  repeat' first|(refine gX ?_;first|refine o_v rfl rfl ?_|(refine gL ?_;first|refine o_load rfl rfl rfl rfl ?_|refine o_loadR rfl rfl rfl (by omega) rfl rfl ?_|refine o_loadW rfl rfl rfl rfl ?_|refine o_loadK rfl rfl rfl ?_)|(refine gF ?_;first|refine o_fieldI rfl rfl rfl rfl ?_|refine o_field rfl rfl rfl rfl ?_)|(refine gB ?_;first|refine o_add rfl rfl rfl rfl (by omega) ?_)|(refine gC ?_;first|(refine o_callZ rfl rfl rfl (CallW.perm (c98 _ _ Δ _ _ (n.readings[j]'(by first|done|omega)).period ho (by omega)) List.perm_middle.symm) ?_;rintro r _ ⟨Δ2, ho2, rfl⟩;refine ⟨inferInstance, ?_⟩))|(refine gI ?_;first|refine o_indexS rfl rfl rfl rfl rfl rfl (by omega) ?_|refine o_indexS rfl rfl rfl rfl rfl rfl (by omega) ?_|refine o_index rfl rfl rfl rfl rfl (by omega) ?_)|(refine gS ?_;first|refine o_store rfl rfl rfl rfl rfl rfl ?_|refine o_storeW rfl rfl rfl rfl rfl rfl ?_)|(refine o_allocZ rfl rfl ?_;intro _)|(refine o_box rfl rfl rfl ?_;intro _))|refine o_head0 rfl ?_|refine o_end ?_|refine o_head1 rfl ?_|refine wp_seq ?_|refine o_region ?_|refine wp_block ?_|refine wp_skip ?_|refine wp_exit ?_|(refine w_condD rfl ?_ ?_<;>intro h)|(refine w_cond rfl ?_ ?_<;>intro h<;>try exact Bool.noConfusion h)|refine w_ret (Δ ++ S) (vs:=[_]) rfl (Res.tmp rfl Res.nil) ?_|refine w_ret (S) (vs:=[_]) rfl (Res.tmp rfl Res.nil) ?_
  · exact ⟨n.readings.length - (j + 1), by omega, _, List.Sublist.append_left (.cons _ (List.Sublist.refl _)) _, j + 1, _, _, Δ2, rfl, by omega, rfl, rfl, keep ⟨rfl, rfl, rfl, rfl, rfl, trivial⟩, by rw [take_snoc (by omega), List.flatMap_append, putAll_app]; exact ho2⟩
  have hj2 : j = n.readings.length := by omega
  subst hj2
  rw [List.take_length] at ho
  have hacc2 : (putAll (putAll ([]) (n.uses.flatMap fun (x : UseG) => [x.period])) (n.readings.flatMap fun (x : ReadG) => [x.period])).length ≤ 240 := by
    refine Nat.le_trans putAll_len ?_
    have h2 : (n.readings.flatMap fun (x : ReadG) => [x.period]).length ≤ 120 := by
      rw [List.length_flatMap]
      simp only [List.length_cons, List.length_nil, List.map_const', List.sum_replicate_nat]
      omega
    have := hacc1
    omega
  refine wp_loop (fun m t ds S' => ∃ (j : Nat) (t0 : Tm) (w : Value) (Δ : Ents), m = n.faults.length - j ∧ j ≤ n.faults.length ∧ [] = ds ∧ Δ ++ (⟨b1, true, .cells #[a, .slice qu n.uses.length cu, .slice qr n.readings.length cr, .slice qf n.faults.length cf, e] 28 (0, 0)⟩ :: S) = S' ∧ t = den [(37, iv j), (3, w), (36, iv n.faults.length), (35, .slice qf n.faults.length cf), (1, .pointer (some ⟨b1, 0, none⟩))] t0 ∧ Own w (putAll (putAll (putAll ([]) (n.uses.flatMap fun (x : UseG) => [x.period])) (n.readings.flatMap fun (x : ReadG) => [x.period])) ((n.faults.take j).flatMap fun (x : FaultG) => [x.period])) Δ)
    _ ⟨0, _, _, Δ, rfl, Nat.zero_le _, rfl, rfl, keep ⟨rfl, rfl, rfl, rfl, rfl, trivial⟩, ho⟩ ?_
  clear ho hlo
  rintro m t ds S' ⟨j, t0, w, Δ, rfl, hj, rfl, rfl, rfl, ho⟩
  have hlo : (putAll (putAll (putAll ([]) (n.uses.flatMap fun (x : UseG) => [x.period])) (n.readings.flatMap fun (x : ReadG) => [x.period])) ((n.faults.take j).flatMap fun (x : FaultG) => [x.period])).length ≤ 1000 := by
    refine Nat.le_trans putAll_len ?_
    have h1 : (putAll (putAll ([]) (n.uses.flatMap fun (x : UseG) => [x.period])) (n.readings.flatMap fun (x : ReadG) => [x.period]) : List Int).length ≤ 240 := by
      exact hacc2
    have h2 : ((n.faults.take j).flatMap fun (x : FaultG) => [x.period]).length ≤ 120 := by
      rw [List.length_flatMap]
      simp only [List.length_cons, List.length_nil, List.map_const', List.sum_replicate_nat, List.length_take]
      omega
    omega
  repeat' first|(refine gX ?_;first|refine o_v rfl rfl ?_|(refine gL ?_;first|refine o_load rfl rfl rfl rfl ?_|refine o_loadR rfl rfl rfl (by omega) rfl rfl ?_|refine o_loadW rfl rfl rfl rfl ?_|refine o_loadK rfl rfl rfl ?_)|(refine gF ?_;first|refine o_fieldI rfl rfl rfl rfl ?_|refine o_field rfl rfl rfl rfl ?_)|(refine gB ?_;first|refine o_add rfl rfl rfl rfl (by omega) ?_)|(refine gC ?_;first|(refine o_callZ rfl rfl rfl (CallW.perm (c98 _ _ Δ _ _ (n.faults[j]'(by first|done|omega)).period ho (by omega)) List.perm_middle.symm) ?_;rintro r _ ⟨Δ2, ho2, rfl⟩;refine ⟨inferInstance, ?_⟩))|(refine gI ?_;first|refine o_indexS rfl rfl rfl rfl rfl rfl (by omega) ?_|refine o_indexS rfl rfl rfl rfl rfl rfl (by omega) ?_|refine o_index rfl rfl rfl rfl rfl (by omega) ?_)|(refine gS ?_;first|refine o_store rfl rfl rfl rfl rfl rfl ?_|refine o_storeW rfl rfl rfl rfl rfl rfl ?_)|(refine o_allocZ rfl rfl ?_;intro _)|(refine o_box rfl rfl rfl ?_;intro _))|refine o_head0 rfl ?_|refine o_end ?_|refine o_head1 rfl ?_|refine wp_seq ?_|refine o_region ?_|refine wp_block ?_|refine wp_skip ?_|refine wp_exit ?_|(refine w_condD rfl ?_ ?_<;>intro h)|(refine w_cond rfl ?_ ?_<;>intro h<;>try exact Bool.noConfusion h)|refine w_ret (Δ ++ S) (vs:=[_]) rfl (Res.tmp rfl Res.nil) ?_|refine w_ret (S) (vs:=[_]) rfl (Res.tmp rfl Res.nil) ?_
  · exact ⟨n.faults.length - (j + 1), by omega, _, List.Sublist.append_left (.cons _ (List.Sublist.refl _)) _, j + 1, _, _, Δ2, rfl, by omega, rfl, rfl, keep ⟨rfl, rfl, rfl, rfl, rfl, trivial⟩, by rw [take_snoc (by omega), List.flatMap_append, putAll_app]; exact ho2⟩
  have hj2 : j = n.faults.length := by omega
  subst hj2
  rw [List.take_length] at ho
  exact ⟨Δ, ho, rfl⟩
def knownsR (n : NetG) : List Int := putAll (putAll (putAll [] (n.uses.flatMap fun (x : UseG) => [x.known])) (n.readings.flatMap fun (x : ReadG) => [x.known])) (n.faults.flatMap fun (x : FaultG) => [x.known])
theorem c165 (E : Env) (S : Ents) (n : NetG) (a b c d e : Value) (hn : NetV S a b c d e n) (hu : n.uses.length ≤ 60) (hr : n.readings.length ≤ 60) (hf : n.faults.length ≤ 60) : CallW Tryz.prog E 165 #[.agg #[a, b, c, d, e]] S fun r S' => ∃ Δ, Own r (knownsR n) Δ ∧ S' = Δ ++ S := by
  obtain ⟨qu, cu, rfl, _, hru⟩ := hn.uses
  obtain ⟨qr, cr, rfl, _, hrr⟩ := hn.readings
  obtain ⟨qf, cf, rfl, _, hrf⟩ := hn.faults
  have iu := SlI.mk hru
  have ir := SlI.mk hrr
  have iff := SlI.mk hrf
  refine call_in (args := [.agg #[a, .slice qu n.uses.length cu, .slice qr n.readings.length cr, .slice qf n.faults.length cf, e]]) Tryz.func165 (by decide) rfl rfl ?_
  repeat' first|(refine gX ?_;first|refine o_v rfl rfl ?_|(refine gL ?_;first|refine o_load rfl rfl rfl rfl ?_|refine o_loadR rfl rfl rfl (by omega) rfl rfl ?_|refine o_loadW rfl rfl rfl rfl ?_|refine o_loadK rfl rfl rfl ?_)|(refine gF ?_;first|refine o_fieldI rfl rfl rfl rfl ?_|refine o_field rfl rfl rfl rfl ?_)|(refine gB ?_;first|refine o_add rfl rfl rfl rfl (by omega) ?_)|(refine gI ?_;first|refine o_indexS rfl rfl rfl rfl rfl rfl (by omega) ?_|refine o_index rfl rfl rfl rfl rfl (by omega) ?_)|(refine gS ?_;first|refine o_store rfl rfl rfl rfl rfl rfl ?_|refine o_storeW rfl rfl rfl rfl rfl rfl ?_)|(refine o_allocZ rfl rfl ?_;intro _)|(refine o_box rfl rfl rfl ?_;intro _))|refine o_head0 rfl ?_|refine o_end ?_|refine o_head1 rfl ?_|refine wp_seq ?_|refine o_region ?_|refine wp_block ?_|refine wp_skip ?_|refine wp_exit ?_|(refine w_condD rfl ?_ ?_<;>intro h)|(refine w_cond rfl ?_ ?_<;>intro h<;>try exact Bool.noConfusion h)|refine w_ret (Δ ++ S) (vs:=[_]) rfl (Res.tmp rfl Res.nil) ?_|refine w_ret (S) (vs:=[_]) rfl (Res.tmp rfl Res.nil) ?_
  rename_i b1
  refine wp_loop (fun m t ds S' => ∃ (j : Nat) (t0 : Tm) (w : Value) (Δ : Ents), m = n.uses.length - j ∧ j ≤ n.uses.length ∧ [] = ds ∧ Δ ++ (⟨b1, true, .cells #[a, .slice qu n.uses.length cu, .slice qr n.readings.length cr, .slice qf n.faults.length cf, e] 28 (0, 0)⟩ :: S) = S' ∧ t = den [(13, iv j), (3, w), (12, iv n.uses.length), (11, .slice qu n.uses.length cu), (1, .pointer (some ⟨b1, 0, none⟩))] t0 ∧ Own w (putAll ([]) ((n.uses.take j).flatMap fun (x : UseG) => [x.known])) Δ)
    _ ⟨0, _, _, [], rfl, Nat.zero_le _, rfl, rfl, keep ⟨rfl, rfl, rfl, rfl, rfl, trivial⟩, .nil⟩ ?_
  rintro m t ds S' ⟨j, t0, w, Δ, rfl, hj, rfl, rfl, rfl, ho⟩
  have hlo : (putAll ([]) ((n.uses.take j).flatMap fun (x : UseG) => [x.known])).length ≤ 1000 := by
    refine Nat.le_trans putAll_len ?_
    have h1 : ([] : List Int).length ≤ 0 := by
      simp
    have h2 : ((n.uses.take j).flatMap fun (x : UseG) => [x.known]).length ≤ 120 := by
      rw [List.length_flatMap]
      simp only [List.length_cons, List.length_nil, List.map_const', List.sum_replicate_nat, List.length_take]
      omega
    omega
  repeat' first|(refine gX ?_;first|refine o_v rfl rfl ?_|(refine gL ?_;first|refine o_load rfl rfl rfl rfl ?_|refine o_loadR rfl rfl rfl (by omega) rfl rfl ?_|refine o_loadW rfl rfl rfl rfl ?_|refine o_loadK rfl rfl rfl ?_)|(refine gF ?_;first|refine o_fieldI rfl rfl rfl rfl ?_|refine o_field rfl rfl rfl rfl ?_)|(refine gB ?_;first|refine o_add rfl rfl rfl rfl (by omega) ?_)|(refine gC ?_;first|(refine o_callZ rfl rfl rfl (CallW.perm (c98 _ _ Δ _ _ (n.uses[j]'(by first|done|omega)).known ho (by omega)) List.perm_middle.symm) ?_;rintro r _ ⟨Δ2, ho2, rfl⟩;refine ⟨inferInstance, ?_⟩))|(refine gI ?_;first|refine o_indexS rfl rfl rfl rfl rfl rfl (by omega) ?_|refine o_indexS rfl rfl rfl rfl rfl rfl (by omega) ?_|refine o_index rfl rfl rfl rfl rfl (by omega) ?_)|(refine gS ?_;first|refine o_store rfl rfl rfl rfl rfl rfl ?_|refine o_storeW rfl rfl rfl rfl rfl rfl ?_)|(refine o_allocZ rfl rfl ?_;intro _)|(refine o_box rfl rfl rfl ?_;intro _))|refine o_head0 rfl ?_|refine o_end ?_|refine o_head1 rfl ?_|refine wp_seq ?_|refine o_region ?_|refine wp_block ?_|refine wp_skip ?_|refine wp_exit ?_|(refine w_condD rfl ?_ ?_<;>intro h)|(refine w_cond rfl ?_ ?_<;>intro h<;>try exact Bool.noConfusion h)|refine w_ret (Δ ++ S) (vs:=[_]) rfl (Res.tmp rfl Res.nil) ?_|refine w_ret (S) (vs:=[_]) rfl (Res.tmp rfl Res.nil) ?_
  · exact ⟨n.uses.length - (j + 1), by omega, _, List.Sublist.append_left (.cons _ (List.Sublist.refl _)) _, j + 1, _, _, Δ2, rfl, by omega, rfl, rfl, keep ⟨rfl, rfl, rfl, rfl, rfl, trivial⟩, by rw [take_snoc (by omega), List.flatMap_append, putAll_app]; exact ho2⟩
  have hj2 : j = n.uses.length := by omega
  subst hj2
  rw [List.take_length] at ho
  have hacc1 : (putAll ([]) (n.uses.flatMap fun (x : UseG) => [x.known])).length ≤ 120 := by
    refine Nat.le_trans putAll_len ?_
    have h2 : (n.uses.flatMap fun (x : UseG) => [x.known]).length ≤ 120 := by
      rw [List.length_flatMap]
      simp only [List.length_cons, List.length_nil, List.map_const', List.sum_replicate_nat]
      omega
    simp only [List.length_nil]
    omega
  refine wp_loop (fun m t ds S' => ∃ (j : Nat) (t0 : Tm) (w : Value) (Δ : Ents), m = n.readings.length - j ∧ j ≤ n.readings.length ∧ [] = ds ∧ Δ ++ (⟨b1, true, .cells #[a, .slice qu n.uses.length cu, .slice qr n.readings.length cr, .slice qf n.faults.length cf, e] 28 (0, 0)⟩ :: S) = S' ∧ t = den [(25, iv j), (3, w), (24, iv n.readings.length), (23, .slice qr n.readings.length cr), (1, .pointer (some ⟨b1, 0, none⟩))] t0 ∧ Own w (putAll (putAll ([]) (n.uses.flatMap fun (x : UseG) => [x.known])) ((n.readings.take j).flatMap fun (x : ReadG) => [x.known])) Δ)
    _ ⟨0, _, _, Δ, rfl, Nat.zero_le _, rfl, rfl, keep ⟨rfl, rfl, rfl, rfl, rfl, trivial⟩, ho⟩ ?_
  clear ho hlo
  rintro m t ds S' ⟨j, t0, w, Δ, rfl, hj, rfl, rfl, rfl, ho⟩
  have hlo : (putAll (putAll ([]) (n.uses.flatMap fun (x : UseG) => [x.known])) ((n.readings.take j).flatMap fun (x : ReadG) => [x.known])).length ≤ 1000 := by
    refine Nat.le_trans putAll_len ?_
    have h1 : (putAll ([]) (n.uses.flatMap fun (x : UseG) => [x.known]) : List Int).length ≤ 120 := by
      exact hacc1
    have h2 : ((n.readings.take j).flatMap fun (x : ReadG) => [x.known]).length ≤ 120 := by
      rw [List.length_flatMap]
      simp only [List.length_cons, List.length_nil, List.map_const', List.sum_replicate_nat, List.length_take]
      omega
    omega
  repeat' first|(refine gX ?_;first|refine o_v rfl rfl ?_|(refine gL ?_;first|refine o_load rfl rfl rfl rfl ?_|refine o_loadR rfl rfl rfl (by omega) rfl rfl ?_|refine o_loadW rfl rfl rfl rfl ?_|refine o_loadK rfl rfl rfl ?_)|(refine gF ?_;first|refine o_fieldI rfl rfl rfl rfl ?_|refine o_field rfl rfl rfl rfl ?_)|(refine gB ?_;first|refine o_add rfl rfl rfl rfl (by omega) ?_)|(refine gC ?_;first|(refine o_callZ rfl rfl rfl (CallW.perm (c98 _ _ Δ _ _ (n.readings[j]'(by first|done|omega)).known ho (by omega)) List.perm_middle.symm) ?_;rintro r _ ⟨Δ2, ho2, rfl⟩;refine ⟨inferInstance, ?_⟩))|(refine gI ?_;first|refine o_indexS rfl rfl rfl rfl rfl rfl (by omega) ?_|refine o_indexS rfl rfl rfl rfl rfl rfl (by omega) ?_|refine o_index rfl rfl rfl rfl rfl (by omega) ?_)|(refine gS ?_;first|refine o_store rfl rfl rfl rfl rfl rfl ?_|refine o_storeW rfl rfl rfl rfl rfl rfl ?_)|(refine o_allocZ rfl rfl ?_;intro _)|(refine o_box rfl rfl rfl ?_;intro _))|refine o_head0 rfl ?_|refine o_end ?_|refine o_head1 rfl ?_|refine wp_seq ?_|refine o_region ?_|refine wp_block ?_|refine wp_skip ?_|refine wp_exit ?_|(refine w_condD rfl ?_ ?_<;>intro h)|(refine w_cond rfl ?_ ?_<;>intro h<;>try exact Bool.noConfusion h)|refine w_ret (Δ ++ S) (vs:=[_]) rfl (Res.tmp rfl Res.nil) ?_|refine w_ret (S) (vs:=[_]) rfl (Res.tmp rfl Res.nil) ?_
  · exact ⟨n.readings.length - (j + 1), by omega, _, List.Sublist.append_left (.cons _ (List.Sublist.refl _)) _, j + 1, _, _, Δ2, rfl, by omega, rfl, rfl, keep ⟨rfl, rfl, rfl, rfl, rfl, trivial⟩, by rw [take_snoc (by omega), List.flatMap_append, putAll_app]; exact ho2⟩
  have hj2 : j = n.readings.length := by omega
  subst hj2
  rw [List.take_length] at ho
  have hacc2 : (putAll (putAll ([]) (n.uses.flatMap fun (x : UseG) => [x.known])) (n.readings.flatMap fun (x : ReadG) => [x.known])).length ≤ 240 := by
    refine Nat.le_trans putAll_len ?_
    have h2 : (n.readings.flatMap fun (x : ReadG) => [x.known]).length ≤ 120 := by
      rw [List.length_flatMap]
      simp only [List.length_cons, List.length_nil, List.map_const', List.sum_replicate_nat]
      omega
    have := hacc1
    omega
  refine wp_loop (fun m t ds S' => ∃ (j : Nat) (t0 : Tm) (w : Value) (Δ : Ents), m = n.faults.length - j ∧ j ≤ n.faults.length ∧ [] = ds ∧ Δ ++ (⟨b1, true, .cells #[a, .slice qu n.uses.length cu, .slice qr n.readings.length cr, .slice qf n.faults.length cf, e] 28 (0, 0)⟩ :: S) = S' ∧ t = den [(37, iv j), (3, w), (36, iv n.faults.length), (35, .slice qf n.faults.length cf), (1, .pointer (some ⟨b1, 0, none⟩))] t0 ∧ Own w (putAll (putAll (putAll ([]) (n.uses.flatMap fun (x : UseG) => [x.known])) (n.readings.flatMap fun (x : ReadG) => [x.known])) ((n.faults.take j).flatMap fun (x : FaultG) => [x.known])) Δ)
    _ ⟨0, _, _, Δ, rfl, Nat.zero_le _, rfl, rfl, keep ⟨rfl, rfl, rfl, rfl, rfl, trivial⟩, ho⟩ ?_
  clear ho hlo
  rintro m t ds S' ⟨j, t0, w, Δ, rfl, hj, rfl, rfl, rfl, ho⟩
  have hlo : (putAll (putAll (putAll ([]) (n.uses.flatMap fun (x : UseG) => [x.known])) (n.readings.flatMap fun (x : ReadG) => [x.known])) ((n.faults.take j).flatMap fun (x : FaultG) => [x.known])).length ≤ 1000 := by
    refine Nat.le_trans putAll_len ?_
    have h1 : (putAll (putAll ([]) (n.uses.flatMap fun (x : UseG) => [x.known])) (n.readings.flatMap fun (x : ReadG) => [x.known]) : List Int).length ≤ 240 := by
      exact hacc2
    have h2 : ((n.faults.take j).flatMap fun (x : FaultG) => [x.known]).length ≤ 120 := by
      rw [List.length_flatMap]
      simp only [List.length_cons, List.length_nil, List.map_const', List.sum_replicate_nat, List.length_take]
      omega
    omega
  repeat' first|(refine gX ?_;first|refine o_v rfl rfl ?_|(refine gL ?_;first|refine o_load rfl rfl rfl rfl ?_|refine o_loadR rfl rfl rfl (by omega) rfl rfl ?_|refine o_loadW rfl rfl rfl rfl ?_|refine o_loadK rfl rfl rfl ?_)|(refine gF ?_;first|refine o_fieldI rfl rfl rfl rfl ?_|refine o_field rfl rfl rfl rfl ?_)|(refine gB ?_;first|refine o_add rfl rfl rfl rfl (by omega) ?_)|(refine gC ?_;first|(refine o_callZ rfl rfl rfl (CallW.perm (c98 _ _ Δ _ _ (n.faults[j]'(by first|done|omega)).known ho (by omega)) List.perm_middle.symm) ?_;rintro r _ ⟨Δ2, ho2, rfl⟩;refine ⟨inferInstance, ?_⟩))|(refine gI ?_;first|refine o_indexS rfl rfl rfl rfl rfl rfl (by omega) ?_|refine o_indexS rfl rfl rfl rfl rfl rfl (by omega) ?_|refine o_index rfl rfl rfl rfl rfl (by omega) ?_)|(refine gS ?_;first|refine o_store rfl rfl rfl rfl rfl rfl ?_|refine o_storeW rfl rfl rfl rfl rfl rfl ?_)|(refine o_allocZ rfl rfl ?_;intro _)|(refine o_box rfl rfl rfl ?_;intro _))|refine o_head0 rfl ?_|refine o_end ?_|refine o_head1 rfl ?_|refine wp_seq ?_|refine o_region ?_|refine wp_block ?_|refine wp_skip ?_|refine wp_exit ?_|(refine w_condD rfl ?_ ?_<;>intro h)|(refine w_cond rfl ?_ ?_<;>intro h<;>try exact Bool.noConfusion h)|refine w_ret (Δ ++ S) (vs:=[_]) rfl (Res.tmp rfl Res.nil) ?_|refine w_ret (S) (vs:=[_]) rfl (Res.tmp rfl Res.nil) ?_
  · exact ⟨n.faults.length - (j + 1), by omega, _, List.Sublist.append_left (.cons _ (List.Sublist.refl _)) _, j + 1, _, _, Δ2, rfl, by omega, rfl, rfl, keep ⟨rfl, rfl, rfl, rfl, rfl, trivial⟩, by rw [take_snoc (by omega), List.flatMap_append, putAll_app]; exact ho2⟩
  have hj2 : j = n.faults.length := by omega
  subst hj2
  rw [List.take_length] at ho
  exact ⟨Δ, ho, rfl⟩
def datesR (n : NetG) : List Int := putAll (putAll (putAll [] (n.uses.flatMap fun (x : UseG) => [x.known, x.til])) (n.readings.flatMap fun (x : ReadG) => [x.known, x.til])) (n.faults.flatMap fun (x : FaultG) => [x.known, x.til])
theorem c164 (E : Env) (S : Ents) (n : NetG) (a b c d e : Value) (hn : NetV S a b c d e n) (hu : n.uses.length ≤ 60) (hr : n.readings.length ≤ 60) (hf : n.faults.length ≤ 60) : CallW Tryz.prog E 164 #[.agg #[a, b, c, d, e]] S fun r S' => ∃ Δ, Own r (datesR n) Δ ∧ S' = Δ ++ S := by
  obtain ⟨qu, cu, rfl, _, hru⟩ := hn.uses
  obtain ⟨qr, cr, rfl, _, hrr⟩ := hn.readings
  obtain ⟨qf, cf, rfl, _, hrf⟩ := hn.faults
  have iu := SlI.mk hru
  have ir := SlI.mk hrr
  have iff := SlI.mk hrf
  refine call_in (args := [.agg #[a, .slice qu n.uses.length cu, .slice qr n.readings.length cr, .slice qf n.faults.length cf, e]]) Tryz.func164 (by decide) rfl rfl ?_
  repeat' first|(refine gX ?_;first|refine o_v rfl rfl ?_|(refine gL ?_;first|refine o_load rfl rfl rfl rfl ?_|refine o_loadR rfl rfl rfl (by omega) rfl rfl ?_|refine o_loadW rfl rfl rfl rfl ?_|refine o_loadK rfl rfl rfl ?_)|(refine gF ?_;first|refine o_fieldI rfl rfl rfl rfl ?_|refine o_field rfl rfl rfl rfl ?_)|(refine gB ?_;first|refine o_add rfl rfl rfl rfl (by omega) ?_)|(refine gI ?_;first|refine o_indexS rfl rfl rfl rfl rfl rfl (by omega) ?_|refine o_index rfl rfl rfl rfl rfl (by omega) ?_)|(refine gS ?_;first|refine o_store rfl rfl rfl rfl rfl rfl ?_|refine o_storeW rfl rfl rfl rfl rfl rfl ?_)|(refine o_allocZ rfl rfl ?_;intro _)|(refine o_box rfl rfl rfl ?_;intro _))|refine o_head0 rfl ?_|refine o_end ?_|refine o_head1 rfl ?_|refine wp_seq ?_|refine o_region ?_|refine wp_block ?_|refine wp_skip ?_|refine wp_exit ?_|(refine w_condD rfl ?_ ?_<;>intro h)|(refine w_cond rfl ?_ ?_<;>intro h<;>try exact Bool.noConfusion h)|refine w_ret (Δ ++ S) (vs:=[_]) rfl (Res.tmp rfl Res.nil) ?_|refine w_ret (S) (vs:=[_]) rfl (Res.tmp rfl Res.nil) ?_|(show WP _ _ _ _ (.region 5 _ true) _ _ _ _;refine o_drawn [Zf 0,Zf 1,Zf 2,Zt 4,Zt 5,Zf 3,Zt 6,Zf 7] mixed (by kernel_rfl) ?_)|(show WP _ _ _ _ (.region 10 _ true) _ _ _ _;refine o_drawn [Zf 0,Zf 1,Zf 2,Zt 4,Zt 5,Zf 3,Zt 6,Zf 7] mixed (by kernel_rfl) ?_)|(show WP _ _ _ _ (.region 15 _ true) _ _ _ _;refine o_drawn [Zf 0,Zf 1,Zf 2,Zt 4,Zt 5,Zf 3,Zt 6,Zf 7] mixed (by kernel_rfl) ?_)
  rename_i b1
  refine wp_loop (fun m t ds S' => ∃ (j : Nat) (t0 : Tm) (w : Value) (Δ : Ents), m = n.uses.length - j ∧ j ≤ n.uses.length ∧ [] = ds ∧ Δ ++ (⟨b1, true, .cells #[a, .slice qu n.uses.length cu, .slice qr n.readings.length cr, .slice qf n.faults.length cf, e] 28 (0, 0)⟩ :: S) = S' ∧ t = den [(13, iv j), (3, w), (12, iv n.uses.length), (11, .slice qu n.uses.length cu), (1, .pointer (some ⟨b1, 0, none⟩))] t0 ∧ Own w (putAll ([]) ((n.uses.take j).flatMap fun (x : UseG) => [x.known, x.til])) Δ)
    _ ⟨0, _, _, [], rfl, Nat.zero_le _, rfl, rfl, keep ⟨rfl, rfl, rfl, rfl, rfl, trivial⟩, .nil⟩ ?_
  rintro m t ds S' ⟨j, t0, w, Δ, rfl, hj, rfl, rfl, rfl, ho⟩
  have hlo : (putAll ([]) ((n.uses.take j).flatMap fun (x : UseG) => [x.known, x.til])).length ≤ 1000 := by
    refine Nat.le_trans putAll_len ?_
    have h1 : ([] : List Int).length ≤ 0 := by
      simp
    have h2 : ((n.uses.take j).flatMap fun (x : UseG) => [x.known, x.til]).length ≤ 120 := by
      rw [List.length_flatMap]
      simp only [List.length_cons, List.length_nil, List.map_const', List.sum_replicate_nat, List.length_take]
      omega
    omega
  repeat' first|(refine gX ?_;first|refine o_v rfl rfl ?_|(refine gL ?_;first|refine o_load rfl rfl rfl rfl ?_|refine o_loadR rfl rfl rfl (by omega) rfl rfl ?_|refine o_loadW rfl rfl rfl rfl ?_|refine o_loadK rfl rfl rfl ?_)|(refine gF ?_;first|refine o_fieldI rfl rfl rfl rfl ?_|refine o_field rfl rfl rfl rfl ?_)|(refine gB ?_;first|refine o_add rfl rfl rfl rfl (by omega) ?_)|(refine gC ?_;first|(refine o_callZ rfl rfl rfl (CallW.perm (c98 _ _ Δ _ _ (n.uses[j]'(by first|done|omega)).known ho (by omega)) List.perm_middle.symm) ?_;rintro r _ ⟨Δ2, ho2, rfl⟩;refine ⟨inferInstance, ?_⟩)|(refine o_callZ rfl rfl rfl (c98 _ _ Δ2 _ _ (n.uses[j]'(by first|done|omega)).til ho2 (Nat.le_trans putL_len (by omega))) ?_;rintro r _ ⟨Δ3, ho3, rfl⟩;refine ⟨inferInstance, ?_⟩))|(refine gI ?_;first|refine o_indexS rfl rfl rfl rfl rfl rfl (by omega) ?_|refine o_indexS rfl rfl rfl rfl rfl rfl (by omega) ?_|refine o_index rfl rfl rfl rfl rfl (by omega) ?_)|(refine gS ?_;first|refine o_store rfl rfl rfl rfl rfl rfl ?_|refine o_storeW rfl rfl rfl rfl rfl rfl ?_)|(refine o_allocZ rfl rfl ?_;intro _)|(refine o_box rfl rfl rfl ?_;intro _))|refine o_head0 rfl ?_|refine o_end ?_|refine o_head1 rfl ?_|(show WP _ _ _ _ (.region 5 _ true) _ _ _ _;refine o_drawnZ [Zf 0,Zf 1,Zf 2,Zt 4,Zt 5,Zf 3,Zt 6,Zf 7] [_] mixed (by kernel_rfl) (.cons_cons _ (List.nil_sublist _)) ?_)|refine wp_seq ?_|refine o_region ?_|refine wp_block ?_|refine wp_skip ?_|refine wp_exit ?_|(refine w_condD rfl ?_ ?_<;>intro h)|(refine w_cond rfl ?_ ?_<;>intro h<;>try exact Bool.noConfusion h)|refine w_ret (Δ ++ S) (vs:=[_]) rfl (Res.tmp rfl Res.nil) ?_|refine w_ret (S) (vs:=[_]) rfl (Res.tmp rfl Res.nil) ?_|(show WP _ _ _ _ (.region 5 _ true) _ _ _ _;refine o_drawn [Zf 0,Zf 1,Zf 2,Zt 4,Zt 5,Zf 3,Zt 6,Zf 7] mixed (by kernel_rfl) ?_)|(show WP _ _ _ _ (.region 10 _ true) _ _ _ _;refine o_drawn [Zf 0,Zf 1,Zf 2,Zt 4,Zt 5,Zf 3,Zt 6,Zf 7] mixed (by kernel_rfl) ?_)|(show WP _ _ _ _ (.region 15 _ true) _ _ _ _;refine o_drawn [Zf 0,Zf 1,Zf 2,Zt 4,Zt 5,Zf 3,Zt 6,Zf 7] mixed (by kernel_rfl) ?_)
  · exact ⟨n.uses.length - (j + 1), by omega, _, List.Sublist.append_left (.cons _ (List.Sublist.refl _)) _, j + 1, _, _, Δ3, rfl, by omega, rfl, rfl, keep ⟨rfl, rfl, rfl, rfl, rfl, trivial⟩, by rw [take_snoc (by omega), List.flatMap_append, putAll_app]; exact ho3⟩
  have hj2 : j = n.uses.length := by omega
  subst hj2
  rw [List.take_length] at ho
  have hacc1 : (putAll ([]) (n.uses.flatMap fun (x : UseG) => [x.known, x.til])).length ≤ 120 := by
    refine Nat.le_trans putAll_len ?_
    have h2 : (n.uses.flatMap fun (x : UseG) => [x.known, x.til]).length ≤ 120 := by
      rw [List.length_flatMap]
      simp only [List.length_cons, List.length_nil, List.map_const', List.sum_replicate_nat]
      omega
    simp only [List.length_nil]
    omega
  refine wp_loop (fun m t ds S' => ∃ (j : Nat) (t0 : Tm) (w : Value) (Δ : Ents), m = n.readings.length - j ∧ j ≤ n.readings.length ∧ [] = ds ∧ Δ ++ (⟨b1, true, .cells #[a, .slice qu n.uses.length cu, .slice qr n.readings.length cr, .slice qf n.faults.length cf, e] 28 (0, 0)⟩ :: S) = S' ∧ t = den [(28, iv j), (3, w), (27, iv n.readings.length), (26, .slice qr n.readings.length cr), (1, .pointer (some ⟨b1, 0, none⟩))] t0 ∧ Own w (putAll (putAll ([]) (n.uses.flatMap fun (x : UseG) => [x.known, x.til])) ((n.readings.take j).flatMap fun (x : ReadG) => [x.known, x.til])) Δ)
    _ ⟨0, _, _, Δ, rfl, Nat.zero_le _, rfl, rfl, keep ⟨rfl, rfl, rfl, rfl, rfl, trivial⟩, ho⟩ ?_
  clear ho hlo
  rintro m t ds S' ⟨j, t0, w, Δ, rfl, hj, rfl, rfl, rfl, ho⟩
  have hlo : (putAll (putAll ([]) (n.uses.flatMap fun (x : UseG) => [x.known, x.til])) ((n.readings.take j).flatMap fun (x : ReadG) => [x.known, x.til])).length ≤ 1000 := by
    refine Nat.le_trans putAll_len ?_
    have h1 : (putAll ([]) (n.uses.flatMap fun (x : UseG) => [x.known, x.til]) : List Int).length ≤ 120 := by
      exact hacc1
    have h2 : ((n.readings.take j).flatMap fun (x : ReadG) => [x.known, x.til]).length ≤ 120 := by
      rw [List.length_flatMap]
      simp only [List.length_cons, List.length_nil, List.map_const', List.sum_replicate_nat, List.length_take]
      omega
    omega
  repeat' first|(refine gX ?_;first|refine o_v rfl rfl ?_|(refine gL ?_;first|refine o_load rfl rfl rfl rfl ?_|refine o_loadR rfl rfl rfl (by omega) rfl rfl ?_|refine o_loadW rfl rfl rfl rfl ?_|refine o_loadK rfl rfl rfl ?_)|(refine gF ?_;first|refine o_fieldI rfl rfl rfl rfl ?_|refine o_field rfl rfl rfl rfl ?_)|(refine gB ?_;first|refine o_add rfl rfl rfl rfl (by omega) ?_)|(refine gC ?_;first|(refine o_callZ rfl rfl rfl (CallW.perm (c98 _ _ Δ _ _ (n.readings[j]'(by first|done|omega)).known ho (by omega)) List.perm_middle.symm) ?_;rintro r _ ⟨Δ2, ho2, rfl⟩;refine ⟨inferInstance, ?_⟩)|(refine o_callZ rfl rfl rfl (c98 _ _ Δ2 _ _ (n.readings[j]'(by first|done|omega)).til ho2 (Nat.le_trans putL_len (by omega))) ?_;rintro r _ ⟨Δ3, ho3, rfl⟩;refine ⟨inferInstance, ?_⟩))|(refine gI ?_;first|refine o_indexS rfl rfl rfl rfl rfl rfl (by omega) ?_|refine o_indexS rfl rfl rfl rfl rfl rfl (by omega) ?_|refine o_index rfl rfl rfl rfl rfl (by omega) ?_)|(refine gS ?_;first|refine o_store rfl rfl rfl rfl rfl rfl ?_|refine o_storeW rfl rfl rfl rfl rfl rfl ?_)|(refine o_allocZ rfl rfl ?_;intro _)|(refine o_box rfl rfl rfl ?_;intro _))|refine o_head0 rfl ?_|refine o_end ?_|refine o_head1 rfl ?_|(show WP _ _ _ _ (.region 10 _ true) _ _ _ _;refine o_drawnZ [Zf 0,Zf 1,Zf 2,Zt 4,Zt 5,Zf 3,Zt 6,Zf 7] [_] mixed (by kernel_rfl) (.cons_cons _ (List.nil_sublist _)) ?_)|refine wp_seq ?_|refine o_region ?_|refine wp_block ?_|refine wp_skip ?_|refine wp_exit ?_|(refine w_condD rfl ?_ ?_<;>intro h)|(refine w_cond rfl ?_ ?_<;>intro h<;>try exact Bool.noConfusion h)|refine w_ret (Δ ++ S) (vs:=[_]) rfl (Res.tmp rfl Res.nil) ?_|refine w_ret (S) (vs:=[_]) rfl (Res.tmp rfl Res.nil) ?_|(show WP _ _ _ _ (.region 5 _ true) _ _ _ _;refine o_drawn [Zf 0,Zf 1,Zf 2,Zt 4,Zt 5,Zf 3,Zt 6,Zf 7] mixed (by kernel_rfl) ?_)|(show WP _ _ _ _ (.region 10 _ true) _ _ _ _;refine o_drawn [Zf 0,Zf 1,Zf 2,Zt 4,Zt 5,Zf 3,Zt 6,Zf 7] mixed (by kernel_rfl) ?_)|(show WP _ _ _ _ (.region 15 _ true) _ _ _ _;refine o_drawn [Zf 0,Zf 1,Zf 2,Zt 4,Zt 5,Zf 3,Zt 6,Zf 7] mixed (by kernel_rfl) ?_)
  · exact ⟨n.readings.length - (j + 1), by omega, _, List.Sublist.append_left (.cons _ (List.Sublist.refl _)) _, j + 1, _, _, Δ3, rfl, by omega, rfl, rfl, keep ⟨rfl, rfl, rfl, rfl, rfl, trivial⟩, by rw [take_snoc (by omega), List.flatMap_append, putAll_app]; exact ho3⟩
  have hj2 : j = n.readings.length := by omega
  subst hj2
  rw [List.take_length] at ho
  have hacc2 : (putAll (putAll ([]) (n.uses.flatMap fun (x : UseG) => [x.known, x.til])) (n.readings.flatMap fun (x : ReadG) => [x.known, x.til])).length ≤ 240 := by
    refine Nat.le_trans putAll_len ?_
    have h2 : (n.readings.flatMap fun (x : ReadG) => [x.known, x.til]).length ≤ 120 := by
      rw [List.length_flatMap]
      simp only [List.length_cons, List.length_nil, List.map_const', List.sum_replicate_nat]
      omega
    have := hacc1
    omega
  refine wp_loop (fun m t ds S' => ∃ (j : Nat) (t0 : Tm) (w : Value) (Δ : Ents), m = n.faults.length - j ∧ j ≤ n.faults.length ∧ [] = ds ∧ Δ ++ (⟨b1, true, .cells #[a, .slice qu n.uses.length cu, .slice qr n.readings.length cr, .slice qf n.faults.length cf, e] 28 (0, 0)⟩ :: S) = S' ∧ t = den [(43, iv j), (3, w), (42, iv n.faults.length), (41, .slice qf n.faults.length cf), (1, .pointer (some ⟨b1, 0, none⟩))] t0 ∧ Own w (putAll (putAll (putAll ([]) (n.uses.flatMap fun (x : UseG) => [x.known, x.til])) (n.readings.flatMap fun (x : ReadG) => [x.known, x.til])) ((n.faults.take j).flatMap fun (x : FaultG) => [x.known, x.til])) Δ)
    _ ⟨0, _, _, Δ, rfl, Nat.zero_le _, rfl, rfl, keep ⟨rfl, rfl, rfl, rfl, rfl, trivial⟩, ho⟩ ?_
  clear ho hlo
  rintro m t ds S' ⟨j, t0, w, Δ, rfl, hj, rfl, rfl, rfl, ho⟩
  have hlo : (putAll (putAll (putAll ([]) (n.uses.flatMap fun (x : UseG) => [x.known, x.til])) (n.readings.flatMap fun (x : ReadG) => [x.known, x.til])) ((n.faults.take j).flatMap fun (x : FaultG) => [x.known, x.til])).length ≤ 1000 := by
    refine Nat.le_trans putAll_len ?_
    have h1 : (putAll (putAll ([]) (n.uses.flatMap fun (x : UseG) => [x.known, x.til])) (n.readings.flatMap fun (x : ReadG) => [x.known, x.til]) : List Int).length ≤ 240 := by
      exact hacc2
    have h2 : ((n.faults.take j).flatMap fun (x : FaultG) => [x.known, x.til]).length ≤ 120 := by
      rw [List.length_flatMap]
      simp only [List.length_cons, List.length_nil, List.map_const', List.sum_replicate_nat, List.length_take]
      omega
    omega
  repeat' first|(refine gX ?_;first|refine o_v rfl rfl ?_|(refine gL ?_;first|refine o_load rfl rfl rfl rfl ?_|refine o_loadR rfl rfl rfl (by omega) rfl rfl ?_|refine o_loadW rfl rfl rfl rfl ?_|refine o_loadK rfl rfl rfl ?_)|(refine gF ?_;first|refine o_fieldI rfl rfl rfl rfl ?_|refine o_field rfl rfl rfl rfl ?_)|(refine gB ?_;first|refine o_add rfl rfl rfl rfl (by omega) ?_)|(refine gC ?_;first|(refine o_callZ rfl rfl rfl (CallW.perm (c98 _ _ Δ _ _ (n.faults[j]'(by first|done|omega)).known ho (by omega)) List.perm_middle.symm) ?_;rintro r _ ⟨Δ2, ho2, rfl⟩;refine ⟨inferInstance, ?_⟩)|(refine o_callZ rfl rfl rfl (c98 _ _ Δ2 _ _ (n.faults[j]'(by first|done|omega)).til ho2 (Nat.le_trans putL_len (by omega))) ?_;rintro r _ ⟨Δ3, ho3, rfl⟩;refine ⟨inferInstance, ?_⟩))|(refine gI ?_;first|refine o_indexS rfl rfl rfl rfl rfl rfl (by omega) ?_|refine o_indexS rfl rfl rfl rfl rfl rfl (by omega) ?_|refine o_index rfl rfl rfl rfl rfl (by omega) ?_)|(refine gS ?_;first|refine o_store rfl rfl rfl rfl rfl rfl ?_|refine o_storeW rfl rfl rfl rfl rfl rfl ?_)|(refine o_allocZ rfl rfl ?_;intro _)|(refine o_box rfl rfl rfl ?_;intro _))|refine o_head0 rfl ?_|refine o_end ?_|refine o_head1 rfl ?_|(show WP _ _ _ _ (.region 15 _ true) _ _ _ _;refine o_drawnZ [Zf 0,Zf 1,Zf 2,Zt 4,Zt 5,Zf 3,Zt 6,Zf 7] [_] mixed (by kernel_rfl) (.cons_cons _ (List.nil_sublist _)) ?_)|refine wp_seq ?_|refine o_region ?_|refine wp_block ?_|refine wp_skip ?_|refine wp_exit ?_|(refine w_condD rfl ?_ ?_<;>intro h)|(refine w_cond rfl ?_ ?_<;>intro h<;>try exact Bool.noConfusion h)|refine w_ret (Δ ++ S) (vs:=[_]) rfl (Res.tmp rfl Res.nil) ?_|refine w_ret (S) (vs:=[_]) rfl (Res.tmp rfl Res.nil) ?_|(show WP _ _ _ _ (.region 5 _ true) _ _ _ _;refine o_drawn [Zf 0,Zf 1,Zf 2,Zt 4,Zt 5,Zf 3,Zt 6,Zf 7] mixed (by kernel_rfl) ?_)|(show WP _ _ _ _ (.region 10 _ true) _ _ _ _;refine o_drawn [Zf 0,Zf 1,Zf 2,Zt 4,Zt 5,Zf 3,Zt 6,Zf 7] mixed (by kernel_rfl) ?_)|(show WP _ _ _ _ (.region 15 _ true) _ _ _ _;refine o_drawn [Zf 0,Zf 1,Zf 2,Zt 4,Zt 5,Zf 3,Zt 6,Zf 7] mixed (by kernel_rfl) ?_)
  · exact ⟨n.faults.length - (j + 1), by omega, _, List.Sublist.append_left (.cons _ (List.Sublist.refl _)) _, j + 1, _, _, Δ3, rfl, by omega, rfl, rfl, keep ⟨rfl, rfl, rfl, rfl, rfl, trivial⟩, by rw [take_snoc (by omega), List.flatMap_append, putAll_app]; exact ho3⟩
  have hj2 : j = n.faults.length := by omega
  subst hj2
  rw [List.take_length] at ho
  exact ⟨Δ, ho, rfl⟩
end Go.Proofs.YtpnnmklacialgaaGreat
namespace Go.Proofs.YtpnnmklacialgaaGreat
open Go.Conc
attribute [local irreducible] WP OpF OpX CallW SemH retQ AnyF RoundW WM OpsM CallM
theorem flatC_len {α : Type} {l : List α} {f : α → List Int} {c m : Nat} (h : ∀ x, (f x).length ≤ c) (hl : l.length ≤ m) : (l.flatMap f).length ≤ m * c := by
  induction l generalizing m with
  | nil => simp
  | cons x l ih =>
    cases m with
    | zero => simp at hl
    | succ m =>
      have h1 := ih (m := m) (by simpa using hl)
      have h2 := h x
      simp only [List.flatMap_cons, List.length_append]
      rw [Nat.add_mul, Nat.one_mul]
      omega
theorem datesR_len {n : NetG} (hu : n.uses.length ≤ 60) (hr : n.readings.length ≤ 60) (hf : n.faults.length ≤ 60) : (datesR n).length ≤ 360 := by
  unfold datesR
  have h1 := flatC_len (l := n.uses) (f := fun x => [x.known, x.til]) (c := 2) (fun x => Nat.le_refl _) hu
  have h2 := flatC_len (l := n.readings) (f := fun x => [x.known, x.til]) (c := 2) (fun x => Nat.le_refl _) hr
  have h3 := flatC_len (l := n.faults) (f := fun x => [x.known, x.til]) (c := 2) (fun x => Nat.le_refl _) hf
  refine Nat.le_trans putAll_len ?_
  have h4 := putAll_len (acc := putAll [] (n.uses.flatMap fun x => [x.known, x.til])) (l := n.readings.flatMap fun x => [x.known, x.til])
  have h5 := putAll_len (acc := []) (l := n.uses.flatMap fun x => [x.known, x.til])
  simp only [List.length_nil] at h5
  omega
theorem knownsR_len {n : NetG} (hu : n.uses.length ≤ 60) (hr : n.readings.length ≤ 60) (hf : n.faults.length ≤ 60) : (knownsR n).length ≤ 180 := by
  unfold knownsR
  have h1 := flatC_len (l := n.uses) (f := fun x => [x.known]) (c := 1) (fun x => Nat.le_refl _) hu
  have h2 := flatC_len (l := n.readings) (f := fun x => [x.known]) (c := 1) (fun x => Nat.le_refl _) hr
  have h3 := flatC_len (l := n.faults) (f := fun x => [x.known]) (c := 1) (fun x => Nat.le_refl _) hf
  refine Nat.le_trans putAll_len ?_
  have h4 := putAll_len (acc := putAll [] (n.uses.flatMap fun x => [x.known])) (l := n.readings.flatMap fun x => [x.known])
  have h5 := putAll_len (acc := []) (l := n.uses.flatMap fun x => [x.known])
  simp only [List.length_nil] at h5
  omega
def dayOk (n : NetG) (d : Int) : Bool := decide (d > 0) || (knownsR n).contains 0
def daysR (n : NetG) : List Int := (datesR n).filter (dayOk n)
theorem c122 (E : Env) (S : Ents) (n : NetG) (a b c d e : Value) (hn : NetV S a b c d e n) (hu : n.uses.length ≤ 60) (hr : n.readings.length ≤ 60) (hf : n.faults.length ≤ 60) : CallW Tryz.prog E 122 #[.agg #[a, b, c, d, e]] S fun r S' => ∃ Δ, Own r (daysR n) Δ ∧ S' = Δ ++ S := by
  have hlen := datesR_len hu hr hf
  have hlen2 := knownsR_len hu hr hf
  refine call_in (args := [.agg #[a, b, c, d, e]]) Tryz.func122 (by decide) rfl rfl ?_
  repeat' first|(refine gX ?_;first|refine o_v rfl rfl ?_|(refine o_splitD rfl rfl rfl ?_ ?_<;>intro h)|(refine o_split rfl rfl rfl ?_ ?_<;>intro h<;>fail_if_success exact Bool.noConfusion h)|(refine gL ?_;first|refine o_load rfl rfl rfl rfl ?_|refine o_loadR rfl rfl rfl (by omega) rfl rfl ?_|refine o_loadW rfl rfl rfl rfl ?_|refine o_loadK rfl rfl rfl ?_)|(refine gB ?_;first|refine o_add rfl rfl rfl rfl (by omega) ?_)|(refine gC ?_;first|(refine o_callZ rfl rfl rfl (c164 _ _ n _ _ _ _ _ (hn.sub Sb.h) hu hr hf) ?_;rintro r _ ⟨Δd, hod, rfl⟩;obtain ⟨qd, cd, rfl, hcd, hrd⟩ := hod.slv;have idd := SlI.mk hrd;refine ⟨inferInstance, ?_⟩))|(refine gI ?_;first|refine o_indexS rfl rfl rfl rfl rfl rfl (by omega) ?_|refine o_index rfl rfl rfl rfl rfl (by omega) ?_)|(refine o_box rfl rfl rfl ?_;intro _)|refine o_skip rfl rfl ?_|refine o_skipN rfl rfl ?_|(refine o_bslice rfl rfl rfl rfl rfl rfl rfl ?_;intro _)|(refine o_splitP rfl ?_ ?_<;>intro h<;>fail_if_success exact Bool.noConfusion h))|refine o_head0 rfl ?_|refine o_end ?_|refine o_head1 rfl ?_|refine wp_seq ?_|refine o_region ?_|refine wp_block ?_|refine wp_skip ?_|refine wp_exit ?_|(refine w_condD rfl ?_ ?_<;>intro h)|(refine w_cond rfl ?_ ?_<;>intro h<;>try exact Bool.noConfusion h)|refine w_ret (S) (vs:=[_]) rfl (Res.tmp rfl Res.nil) ?_
  rename_i b1
  refine wp_loop (fun m t ds S' => ∃ (j : Nat) (t0 : Tm) (w : Value) (Δ : Ents), m = (datesR n).length - j ∧ j ≤ (datesR n).length ∧ [] = ds ∧ Δ ++ (Δd ++ (⟨b1, true, .cells #[a, b, c, d, e] 28 (0, 0)⟩ :: S)) = S' ∧ t = den [(9, iv j), (3, w), (8, iv (datesR n).length), (7, .slice qd (datesR n).length cd), (1, .pointer (some ⟨b1, 0, none⟩))] t0 ∧ Own w (((datesR n).take j).filter (dayOk n)) Δ)
    _ ⟨0, _, _, [], rfl, Nat.zero_le _, rfl, rfl, keep ⟨rfl, rfl, rfl, rfl, rfl, trivial⟩, .nil⟩ ?_
  rintro m t ds S' ⟨j, t0, w, Δ, rfl, hj, rfl, rfl, rfl, ho⟩
  repeat' first|(refine gX ?_;first|refine o_v rfl rfl ?_|(refine o_splitD rfl rfl rfl ?_ ?_<;>intro h)|(refine o_split rfl rfl rfl ?_ ?_<;>intro h<;>fail_if_success exact Bool.noConfusion h)|(refine gL ?_;first|refine o_load rfl rfl rfl rfl ?_|refine o_loadR rfl rfl rfl (by omega) rfl rfl ?_|refine o_loadW rfl rfl rfl rfl ?_|refine o_loadK rfl rfl rfl ?_)|(refine gB ?_;first|refine o_add rfl rfl rfl rfl (by omega) ?_)|(refine gC ?_;first|(refine o_callZ rfl rfl rfl (c165 _ _ n _ _ _ _ _ (hn.sub Sb.h) hu hr hf) ?_;rintro r _ ⟨Δk, hok, rfl⟩;refine ⟨inferInstance, ?_⟩)|refine o_callF rfl rfl rfl (c33 _ _ (knownsR n) _ 0 (hok.slv.sub Sb.h) (by omega)) ?_|(refine o_append1 ((datesR n)[j]'(by first|done|omega)) rfl rfl rfl rfl ho rfl (Nat.le_trans filter_len (by omega)) rfl rfl rfl rfl ?_;intro w2 Δ2 ho2;refine ⟨inferInstance, ?_⟩))|(refine gI ?_;first|refine o_indexS rfl rfl rfl rfl rfl rfl (by omega) ?_|refine o_indexS rfl rfl rfl rfl rfl rfl (by omega) ?_|refine o_index rfl rfl rfl rfl rfl (by omega) ?_)|(refine o_box rfl rfl rfl ?_;intro _)|refine o_skip rfl rfl ?_|refine o_skipN rfl rfl ?_|(refine o_bslice rfl rfl rfl rfl rfl rfl rfl ?_;intro _)|(refine o_splitP rfl ?_ ?_<;>intro h<;>fail_if_success exact Bool.noConfusion h))|refine o_head0 rfl ?_|refine o_end ?_|refine o_head1 rfl ?_|refine wp_seq ?_|refine o_region ?_|refine wp_block ?_|refine wp_skip ?_|refine wp_exit ?_|(refine w_condD rfl ?_ ?_<;>intro h)|(refine w_cond rfl ?_ ?_<;>intro h<;>try exact Bool.noConfusion h)|refine w_ret (Δ ++ S) (vs:=[_]) rfl (Res.tmp rfl Res.nil) ?_|refine w_ret (S) (vs:=[_]) rfl (Res.tmp rfl Res.nil) ?_
  · rename_i h0
    exact ⟨(datesR n).length - (j + 1), by omega, _, Sb.h, j + 1, _, w2, Δ2, rfl, by omega, rfl, rfl, keep ⟨rfl, rfl, rfl, rfl, rfl, trivial⟩, by rw [filter_snoc (by omega), if_pos (by simp only [dayOk, Bool.or_eq_true, decide_eq_true_eq]; exact .inl (by assumption))]; exact ho2⟩
  · exact ⟨(datesR n).length - (j + 1), by omega, _, Sb.h, j + 1, _, w2, Δ2, rfl, by omega, rfl, rfl, keep ⟨rfl, rfl, rfl, rfl, rfl, trivial⟩, by rw [filter_snoc (by omega), if_pos (by simp only [dayOk, Bool.or_eq_true, decide_eq_true_eq]; exact .inr h)]; exact ho2⟩
  · rename_i h0
    exact ⟨(datesR n).length - (j + 1), by omega, _, Sb.h, j + 1, _, w, Δ, rfl, by omega, rfl, rfl, keep ⟨rfl, rfl, rfl, rfl, rfl, trivial⟩, by rw [filter_snoc (by omega), if_neg (by simp only [dayOk, Bool.or_eq_true, decide_eq_true_eq]; rw [h]; simp; omega), List.append_nil]; exact ho⟩
  · have hj2 : j = (datesR n).length := by omega
    subst hj2
    rw [List.take_length] at ho
    exact ⟨Δ, ho, rfl⟩
end Go.Proofs.YtpnnmklacialgaaGreat
namespace Go.Proofs.YtpnnmklacialgaaGreat
open Go.Conc
attribute [local irreducible] WP OpF OpX CallW SemH retQ AnyF RoundW WM OpsM CallM
theorem rest_used {ms : List MainG} {u P : List RangeG} {q : Nat} : (restR ms u P q (-3)).lo = (partOf u q).lo + (restR ms u P q (-1)).lo ∧ (restR ms u P q (-3)).hi = (partOf u q).hi + (restR ms u P q (-1)).hi := by
  unfold restR restL
  have e : ∀ but : Int, but < 0 → (belowN ms (idOf ms q)).filter (fun (k : Nat) => decide ((k : Int) ≠ but)) = belowN ms (idOf ms q) := fun but hb => List.filter_eq_self.2 fun k _ => by simp; omega
  rw [e (-3) (by decide), e (-1) (by decide), if_pos (by decide), if_pos (by decide), if_neg (by decide), if_pos (by decide)]
  simp only [sumR_app, sumR, List.nil_append]
  omega
theorem tgt_burn {n : NetG} {p k : Int} {q : Nat} : tgtU n tt p k q = burnI n p k q := by
  unfold tgtU burnI burntR tightR lessR
  have h := rest_used (ms := n.mains) (u := usedN n p k) (P := upsN n tt p k) (q := q)
  congr 1
  show (⟨_, _⟩ : RangeG) = ⟨_, _⟩
  rw [h.1, h.2]
  show (⟨(partOf (thrN n tt p k) q).lo - ((partOf (usedN n p k) q).hi + (restR n.mains (usedN n p k) (upsN n tt p k) q (-1)).hi - (partOf (usedN n p k) q).hi), (partOf (thrN n tt p k) q).hi - ((partOf (usedN n p k) q).lo + (restR n.mains (usedN n p k) (upsN n tt p k) q (-1)).lo - (partOf (usedN n p k) q).lo)⟩ : RangeG) = ⟨(partOf (thrN n tt p k) q).lo - (restR n.mains (usedN n p k) (upsN n tt p k) q (-1)).hi, (partOf (thrN n tt p k) q).hi - (restR n.mains (usedN n p k) (upsN n tt p k) q (-1)).lo⟩
  congr 1 <;> omega
theorem spr_even {n : NetG} {p k : Int} (h : evenN n tt p k = true) {q : Nat} (hq : q < n.mains.length) : partOf (sprU n tt p k (endI n p k)) q = burnI n p k q := by
  unfold sprU endI
  rw [if_pos h, part_map hq, if_pos hq, tgt_burn]
theorem c90 (E : Env) (S : Ents) (n : NetG) (a b c d e : Value) (p k : Int) (hn : NetV S a b c d e n) (hV : Valid n) :
    CallW Tryz.prog E 90 #[.agg #[a, b, c, d, e], .agg #[iv p, iv k]] S fun r S' => ∃ Δ, Own r (billsN n p k) Δ ∧ S' = Δ ++ S := by
  have hsm := hn.mains
  obtain ⟨qm, cm, rfl, _, hrm⟩ := hn.mains
  obtain ⟨qp, cp, rfl, _, hrp⟩ := hn.prices
  obtain ⟨qf, cf, rfl, _, hrf⟩ := hn.faults
  have iim := SlI.mk hrm
  have iip := SlI.mk hrp
  have iif := SlI.mk hrf
  have hm12 := hV.m12
  have hf60 := hV.f60
  have hp10 := hV.p10
  refine call_in (args := [.agg #[.slice qm n.mains.length cm, b, c, .slice qf n.faults.length cf, .slice qp n.prices.length cp], .agg #[iv p, iv k]]) Tryz.func90 (by decide) rfl rfl ?_
  repeat' first|(refine gX ?_;first|refine o_v rfl rfl ?_|(refine o_splitD rfl rfl rfl ?_ ?_<;>intro h)|(refine o_split rfl rfl rfl ?_ ?_<;>intro h<;>fail_if_success exact Bool.noConfusion h)|(refine gL ?_;first|refine o_load rfl rfl rfl rfl ?_|refine o_loadR rfl rfl rfl (by omega) rfl rfl ?_|refine o_loadW rfl rfl rfl rfl ?_|refine o_loadK rfl rfl rfl ?_)|(refine gF ?_;first|refine o_fieldI rfl rfl rfl rfl ?_|refine o_field rfl rfl rfl rfl ?_)|(refine gB ?_;first|refine o_add rfl rfl rfl rfl (by omega) ?_|refine o_eqNil rfl rfl rfl rfl rfl ?_)|(refine gI ?_;first|refine o_indexS rfl rfl rfl rfl rfl rfl (by omega) ?_|refine o_index rfl rfl rfl rfl rfl (by omega) ?_)|(refine gS ?_;first|refine o_store rfl rfl rfl rfl rfl rfl ?_|refine o_storeW rfl rfl rfl rfl rfl rfl ?_)|(refine o_make (⟨0, 0⟩ : BillG) n.mains.length rfl rfl rfl rfl rfl rfl rfl (by omega) ?_;intro v Δ ho;obtain ⟨wa, wc, rfl, hwc, _⟩ := ho.slv)|(refine o_allocZ rfl rfl ?_;intro _)|(refine o_box rfl rfl rfl ?_;intro _)|refine o_skip rfl rfl ?_|refine o_skipN rfl rfl ?_|refine o_build rfl rfl rfl rfl rfl ?_|(refine o_splitP rfl ?_ ?_<;>intro h<;>fail_if_success exact Bool.noConfusion h))|refine o_head0 rfl ?_|refine o_end ?_|refine o_head1 rfl ?_|refine wp_seq ?_|refine o_region ?_|refine wp_block ?_|refine wp_skip ?_|refine wp_exit ?_|(refine w_condD rfl ?_ ?_<;>intro h)|(refine w_cond rfl ?_ ?_<;>intro h<;>try exact Bool.noConfusion h)|refine w_ret (S) (vs:=[_]) rfl (Res.tmp rfl Res.nil) ?_|(show WP _ _ _ _ (.region 14 _ true) _ _ _ _;refine o_drawnZ [Zf 0,Zf 1,Zf 2,Zf 3,Zf 4,Zf 5,Zf 6,Zf 7,Zf 8,Zf 9,Zf 10,Zf 11,Zf 12,Zf 13,Zt 14] [] mixed (by kernel_rfl) (List.nil_sublist _) ?_)|(show WP _ _ _ _ (.region 21 _ true) _ _ _ _;refine o_drawnZ [Zf 0,Zf 1,Zf 2,Zf 3,Zf 4,Zf 5,Zf 6,Zf 7,Zf 8,Zf 9,Zf 10,Zf 11,Zf 12,Zt 13] [] mixed (by kernel_rfl) (List.nil_sublist _) ?_)
  rename_i b2 b3 _ b6
  have e0 : (List.replicate n.mains.length (⟨0, 0⟩ : BillG)).length = n.mains.length := List.length_replicate ..
  rw [e0] at ho
  refine wp_loop (fun m t ds S' => ∃ (j : Nat) (t0 : Tm), m = n.prices.length - j ∧ j ≤ n.prices.length ∧ [] = ds ∧ ⟨b6, true, .cells #[.int .i64 (priceT n.prices p j).since, .int .i64 (priceT n.prices p j).feet, .int .i64 (priceT n.prices p j).fault] 104 (0, 0)⟩ :: (Δ ++ (⟨b3, true, .cells #[iv p, iv k] 30 (0, 0)⟩ :: ⟨b2, true, .cells #[.slice qm n.mains.length cm, b, c, .slice qf n.faults.length cf, .slice qp n.prices.length cp] 28 (0, 0)⟩ :: S)) = S' ∧ t = den [(22, iv j), (21, iv n.prices.length), (20, .slice qp n.prices.length cp), (5, .slice wa n.mains.length wc), (3, .pointer (some ⟨b3, 0, none⟩)), (2, .pointer (some ⟨b2, 0, none⟩)), (6, .pointer (some ⟨b6, 0, none⟩))] t0)
    _ ⟨0, _, rfl, Nat.zero_le _, rfl, rfl, keep ⟨rfl, rfl, rfl, congrArg (fun q : Nat => some (Value.slice wa q wc)) e0, rfl, rfl, rfl, trivial⟩⟩ ?_
  rintro m t ds S' ⟨j, t0, rfl, hj, rfl, rfl, rfl⟩
  by_cases hjl : j < n.prices.length
  · have hst := priceT_succ (p := p) hjl
    generalize priceT n.prices p j = x at hst ⊢
    repeat' first|(refine gX ?_;first|refine o_v rfl rfl ?_|(refine o_splitD rfl rfl rfl ?_ ?_<;>intro h)|(refine o_split rfl rfl rfl ?_ ?_<;>intro h<;>fail_if_success exact Bool.noConfusion h)|(refine gL ?_;first|refine o_load rfl rfl rfl rfl ?_|refine o_loadR rfl rfl rfl (by omega) rfl rfl ?_|refine o_loadW rfl rfl rfl rfl ?_|refine o_loadK rfl rfl rfl ?_)|(refine gF ?_;first|refine o_fieldI rfl rfl rfl rfl ?_|refine o_field rfl rfl rfl rfl ?_)|(refine gB ?_;first|refine o_add rfl rfl rfl rfl (by omega) ?_|refine o_eqNil rfl rfl rfl rfl rfl ?_)|(refine gI ?_;first|refine o_indexS rfl rfl rfl rfl rfl rfl (by omega) ?_|refine o_index rfl rfl rfl rfl rfl (by omega) ?_)|(refine gS ?_;first|refine o_store rfl rfl rfl rfl rfl rfl ?_|refine o_storeW rfl rfl rfl rfl rfl rfl ?_)|(refine o_allocZ rfl rfl ?_;intro _)|(refine o_box rfl rfl rfl ?_;intro _)|refine o_skip rfl rfl ?_|refine o_skipN rfl rfl ?_|refine o_build rfl rfl rfl rfl rfl ?_|(refine o_splitP rfl ?_ ?_<;>intro h<;>fail_if_success exact Bool.noConfusion h))|refine o_head0 rfl ?_|refine o_end ?_|refine o_head1 rfl ?_|(refine w_condD rfl ?_ ?_<;>intro h<;>try (exact absurd (by omega) h))|refine wp_seq ?_|refine o_region ?_|refine wp_block ?_|refine wp_skip ?_|refine wp_exit ?_|(refine w_condD rfl ?_ ?_<;>intro h)|(refine w_cond rfl ?_ ?_<;>intro h<;>try exact Bool.noConfusion h)|refine w_ret (S) (vs:=[_]) rfl (Res.tmp rfl Res.nil) ?_|(show WP _ _ _ _ (.region 14 _ true) _ _ _ _;refine o_drawnZ [Zf 0,Zf 1,Zf 2,Zf 3,Zf 4,Zf 5,Zf 6,Zf 7,Zf 8,Zf 9,Zf 10,Zf 11,Zf 12,Zf 13,Zt 14] [] mixed (by kernel_rfl) (List.nil_sublist _) ?_)|(show WP _ _ _ _ (.region 21 _ true) _ _ _ _;refine o_drawnZ [Zf 0,Zf 1,Zf 2,Zf 3,Zf 4,Zf 5,Zf 6,Zf 7,Zf 8,Zf 9,Zf 10,Zf 11,Zf 12,Zt 13] [] mixed (by kernel_rfl) (List.nil_sublist _) ?_)
    all_goals refine ⟨n.prices.length - (j + 1), by omega, _, .cons _ (List.Sublist.refl _), j + 1, _, rfl, by omega, rfl, ?_, keep ⟨rfl, rfl, rfl, rfl, rfl, rfl, rfl, trivial⟩⟩
    · rw [hst, if_pos h]
    · rw [hst, if_neg h]
  have hjm : j = n.prices.length := by omega
  subst hjm
  repeat' first|(refine gX ?_;first|refine o_v rfl rfl ?_|(refine o_splitD rfl rfl rfl ?_ ?_<;>intro h)|(refine o_split rfl rfl rfl ?_ ?_<;>intro h<;>fail_if_success exact Bool.noConfusion h)|(refine gL ?_;first|refine o_load rfl rfl rfl rfl ?_|refine o_loadR rfl rfl rfl (by omega) rfl rfl ?_|refine o_loadW rfl rfl rfl rfl ?_|refine o_loadK rfl rfl rfl ?_)|(refine gF ?_;first|refine o_fieldI rfl rfl rfl rfl ?_|refine o_field rfl rfl rfl rfl ?_)|(refine gB ?_;first|refine o_add rfl rfl rfl rfl (by omega) ?_|refine o_eqNil rfl rfl rfl rfl rfl ?_)|(refine gC ?_;first|(refine o_callZ rfl rfl rfl (c79 _ _ n _ _ _ _ _ p k (hn.sub Sb.h) hV) ?_;rintro r _ ⟨vu, vl, vf, Δu, Δl, Δf, rfl, hou, hol, hof, rfl⟩;obtain ⟨wu, cu, rfl, hcu, hru⟩ := hou.slv;obtain ⟨wl, cl, rfl, _, _⟩ := hol.slv;obtain ⟨wf, cwf, rfl, _, _⟩ := hof.slv;refine ⟨inferInstance, ?_⟩))|(refine gI ?_;first|refine o_indexS rfl rfl rfl rfl rfl rfl (by omega) ?_|refine o_index rfl rfl rfl rfl rfl (by omega) ?_)|(refine gS ?_;first|refine o_store rfl rfl rfl rfl rfl rfl ?_|refine o_storeW rfl rfl rfl rfl rfl rfl ?_)|(refine o_allocZ rfl rfl ?_;intro _)|(refine o_box rfl rfl rfl ?_;intro _)|refine o_skip rfl rfl ?_|refine o_skipN rfl rfl ?_|refine o_build rfl rfl rfl rfl rfl ?_|(refine o_splitP rfl ?_ ?_<;>intro h<;>fail_if_success exact Bool.noConfusion h))|refine o_head0 rfl ?_|refine o_end ?_|refine o_head1 rfl ?_|(refine w_condD rfl ?_ ?_<;>intro h<;>try (exact absurd h (by omega)))|refine wp_seq ?_|refine o_region ?_|refine wp_block ?_|refine wp_skip ?_|refine wp_exit ?_|(refine w_condD rfl ?_ ?_<;>intro h)|(refine w_cond rfl ?_ ?_<;>intro h<;>try exact Bool.noConfusion h)|refine w_ret (S) (vs:=[_]) rfl (Res.tmp rfl Res.nil) ?_|(show WP _ _ _ _ (.region 14 _ true) _ _ _ _;refine o_drawnZ [Zf 0,Zf 1,Zf 2,Zf 3,Zf 4,Zf 5,Zf 6,Zf 7,Zf 8,Zf 9,Zf 10,Zf 11,Zf 12,Zf 13,Zt 14] [] mixed (by kernel_rfl) (List.nil_sublist _) ?_)|(show WP _ _ _ _ (.region 21 _ true) _ _ _ _;refine o_drawnZ [Zf 0,Zf 1,Zf 2,Zf 3,Zf 4,Zf 5,Zf 6,Zf 7,Zf 8,Zf 9,Zf 10,Zf 11,Zf 12,Zt 13] [] mixed (by kernel_rfl) (List.nil_sublist _) ?_)
  rename_i b9
  refine WP.perm ?_ (FrS.h (Δ := Δ))
  have isu := SlI.mk hru
  have hsl : (sprU n tt p k (endI n p k)).length = n.mains.length := by simp [sprU]
  refine wp_loop (fun m t ds S' => ∃ (j : Nat) (t0 : Tm) (Δ : Ents), m = n.mains.length - j ∧ j ≤ n.mains.length ∧ [] = ds ∧ Δ ++ (⟨b9, true, .cells #[.slice qm n.mains.length cm, .slice wu (sprU n tt p k (endI n p k)).length cu, .slice wl (sprL n tt p k (endI n p k)).length cl, .slice wf (sprF n tt p k (endI n p k)).length cwf, .bool (evenN n tt p k)] 130 (0, 0)⟩ :: (Δl ++ (Δu ++ (Δf ++ (⟨b6, true, .cells #[.int .i64 (priceN n p).since, .int .i64 (priceN n p).feet, .int .i64 (priceN n p).fault] 104 (0, 0)⟩ :: ⟨b3, true, .cells #[iv p, iv k] 30 (0, 0)⟩ :: ⟨b2, true, .cells #[.slice qm n.mains.length cm, b, c, .slice qf n.faults.length cf, .slice qp n.prices.length cp] 28 (0, 0)⟩ :: S))))) = S' ∧ t = den [(39, iv j), (38, iv n.mains.length), (9, .pointer (some ⟨b9, 0, none⟩)), (5, .slice wa n.mains.length wc), (3, .pointer (some ⟨b3, 0, none⟩)), (2, .pointer (some ⟨b2, 0, none⟩)), (6, .pointer (some ⟨b6, 0, none⟩))] t0 ∧ Own (.slice wa n.mains.length wc) (bill1 n p k j) Δ)
    _ ⟨0, _, Δ, rfl, Nat.zero_le _, rfl, rfl, keep ⟨rfl, rfl, rfl, rfl, rfl, rfl, rfl, trivial⟩, by rw [bill1_zero]; exact ho⟩ ?_
  clear ho
  rintro m t ds S' ⟨j, t0, Δ, rfl, hj, rfl, rfl, rfl, ho⟩
  have hbl := bill1_len (n := n) (p := p) (k := k) (j := j)
  have hgb := gas_bd hV (p := p) (k := k) (q := j)
  obtain ⟨_, hrt⟩ := ho.sla
  have i6 := SlI.mk hrt
  have hsj : ∀ (h1 : j < (sprU n tt p k (endI n p k)).length), evenN n tt p k = true → (sprU n tt p k (endI n p k))[j] = burnI n p k j := fun h1 h2 => by rw [← partOf_get h1]; exact spr_even h2 (by omega)
  repeat' first|(refine gX ?_;first|refine o_v rfl rfl ?_|(refine o_splitD rfl rfl rfl ?_ ?_<;>intro h)|(refine o_split rfl rfl rfl ?_ ?_<;>intro h<;>fail_if_success exact Bool.noConfusion h)|(refine gL ?_;first|refine o_load rfl rfl rfl rfl ?_|refine o_loadR rfl rfl rfl (by omega) rfl rfl ?_|refine o_loadW rfl rfl rfl rfl ?_|refine o_loadK rfl rfl rfl ?_)|(refine gF ?_;first|refine o_fieldI rfl rfl rfl rfl ?_|refine o_field rfl rfl rfl rfl ?_)|(refine gB ?_;first|refine o_mul rfl rfl rfl rfl (by rw [hsj (by omega) (by assumption)]; omega) ?_|refine o_quoN rfl rfl rfl rfl (by decide) (by rw [hsj (by omega) (by assumption)]; omega) ?_|refine o_add rfl rfl rfl rfl (by omega) ?_|refine o_eqNil rfl rfl rfl rfl rfl ?_)|(refine gI ?_;first|refine o_indexS rfl rfl rfl rfl rfl hbl.symm (by omega) ?_|refine o_indexS rfl rfl rfl rfl rfl rfl (by omega) ?_|refine o_indexS rfl rfl rfl rfl rfl rfl (by omega) ?_|refine o_index rfl rfl rfl rfl rfl (by omega) ?_)|(refine gS ?_;first|(refine o_storeO (⟨((sprU n tt p k (endI n p k))[j]'(by first|done|omega)).lo * (priceN n p).feet / 100, ((bill1 n p k j)[j]'(by first|done|omega)).penalty⟩ : BillG) rfl rfl rfl ho (by omega) rfl rfl rfl rfl ?_;intro Δ2 ho2;refine ⟨_, inferInstance, ?_⟩)|refine o_store rfl rfl rfl rfl rfl rfl ?_|refine o_storeW rfl rfl rfl rfl rfl rfl ?_)|(refine o_allocZ rfl rfl ?_;intro _)|(refine o_box rfl rfl rfl ?_;intro _)|refine o_skip rfl rfl ?_|refine o_skipN rfl rfl ?_|refine o_build rfl rfl rfl rfl rfl ?_|(refine o_splitP rfl ?_ ?_<;>intro h<;>fail_if_success exact Bool.noConfusion h))|refine o_head0 rfl ?_|refine o_end ?_|refine o_head1 rfl ?_|refine wp_seq ?_|refine o_region ?_|refine wp_block ?_|refine wp_skip ?_|refine wp_exit ?_|(refine w_condD rfl ?_ ?_<;>intro h)|(refine w_cond rfl ?_ ?_<;>intro h<;>try exact Bool.noConfusion h)|refine w_ret (S) (vs:=[_]) rfl (Res.tmp rfl Res.nil) ?_|(show WP _ _ _ _ (.region 14 _ true) _ _ _ _;refine o_drawnZ [Zf 0,Zf 1,Zf 2,Zf 3,Zf 4,Zf 5,Zf 6,Zf 7,Zf 8,Zf 9,Zf 10,Zf 11,Zf 12,Zf 13,Zt 14] [] mixed (by kernel_rfl) (List.nil_sublist _) ?_)|(show WP _ _ _ _ (.region 21 _ true) _ _ _ _;refine o_drawnZ [Zf 0,Zf 1,Zf 2,Zf 3,Zf 4,Zf 5,Zf 6,Zf 7,Zf 8,Zf 9,Zf 10,Zf 11,Zf 12,Zt 13] [] mixed (by kernel_rfl) (List.nil_sublist _) ?_)
  · rw [hsj (by omega) h] at ho2
    refine ⟨n.mains.length - (j + 1), by omega, _, List.Sublist.refl _, j + 1, _, Δ2, rfl, by omega, rfl, rfl, keep ⟨rfl, rfl, rfl, rfl, rfl, rfl, rfl, trivial⟩, ?_⟩
    have hg : gasI n p k j = (burnI n p k j).lo * (priceN n p).feet / 100 := if_pos h
    rw [← bill1_succ, hg]
    rw [show ((bill1 n p k j)[j]'(by omega)).penalty = 0 by rw [bill1_at]] at ho2
    exact ho2
  · refine ⟨n.mains.length - (j + 1), by omega, _, List.Sublist.refl _, j + 1, _, Δ, rfl, by omega, rfl, rfl, keep ⟨rfl, rfl, rfl, rfl, rfl, rfl, rfl, trivial⟩, ?_⟩
    rw [← bill1_none (if_neg (by rw [show evenN n (fun _ => true) p k = false from h]; decide))]
    exact ho
  have hjm : j = n.mains.length := by omega
  subst hjm
  have hb0 : bill1 n p k n.mains.length = bill2 n p k 0 := by
    unfold bill1 bill2
    refine List.map_congr_left fun q hq => ?_
    rw [if_pos (List.mem_range.1 hq)]
    rfl
  rw [hb0] at ho
  clear i6 hrt hbl hsj hgb
  refine wp_loop (fun m t ds S' => ∃ (j : Nat) (t0 : Tm) (Δ : Ents), m = n.faults.length - j ∧ j ≤ n.faults.length ∧ [] = ds ∧ Δ ++ (⟨b9, true, .cells #[.slice qm n.mains.length cm, .slice wu (sprU n tt p k (endI n p k)).length cu, .slice wl (sprL n tt p k (endI n p k)).length cl, .slice wf (sprF n tt p k (endI n p k)).length cwf, .bool (evenN n tt p k)] 130 (0, 0)⟩ :: (Δl ++ (Δu ++ (Δf ++ (⟨b6, true, .cells #[.int .i64 (priceN n p).since, .int .i64 (priceN n p).feet, .int .i64 (priceN n p).fault] 104 (0, 0)⟩ :: ⟨b3, true, .cells #[iv p, iv k] 30 (0, 0)⟩ :: ⟨b2, true, .cells #[.slice qm n.mains.length cm, b, c, .slice qf n.faults.length cf, .slice qp n.prices.length cp] 28 (0, 0)⟩ :: S))))) = S' ∧ t = den [(62, iv j), (61, iv n.faults.length), (60, .slice qf n.faults.length cf), (5, .slice wa n.mains.length wc), (3, .pointer (some ⟨b3, 0, none⟩)), (2, .pointer (some ⟨b2, 0, none⟩)), (6, .pointer (some ⟨b6, 0, none⟩))] t0 ∧ Own (.slice wa n.mains.length wc) (bill2 n p k j) Δ)
    _ ⟨0, _, Δ, rfl, Nat.zero_le _, rfl, rfl, keep ⟨rfl, rfl, rfl, rfl, rfl, rfl, rfl, trivial⟩, ho⟩ ?_
  clear ho
  rintro m t ds S' ⟨j, t0, Δ, rfl, hj, rfl, rfl, rfl, ho⟩
  by_cases hjl : j < n.faults.length
  · obtain ⟨hfo, hpl⟩ := hV.faults _ (List.getElem_mem hjl)
    obtain ⟨hpe, hil, _⟩ := idx_spec hpl
    have hbl := bill2_len (n := n) (p := p) (k := k) (j := j)
    obtain ⟨_, hrt⟩ := ho.sla
    have i6 := SlI.mk hrt
    have hmb := many_bd hV (p := p) hjl
    have hpb := pen_bd hV (p := p) (k := k) (q := idx n n.faults[j].main) (j := j) (by omega)
    have hat : ((bill2 n p k j)[idx n n.faults[j].main]'(by omega)) = ⟨gasI n p k (idx n n.faults[j].main), penT n p k j (idx n n.faults[j].main)⟩ := bill2_at _
    have hpp : ((bill2 n p k j)[idx n n.faults[j].main]'(by omega)).penalty = penT n p k j (idx n n.faults[j].main) := by rw [hat]
    repeat' first|(refine gX ?_;first|refine o_v rfl rfl ?_|(refine o_splitD rfl rfl rfl ?_ ?_<;>intro h)|(refine o_split rfl rfl rfl ?_ ?_<;>intro h<;>fail_if_success exact Bool.noConfusion h)|(refine gL ?_;first|refine o_load rfl rfl rfl rfl ?_|refine o_loadR rfl rfl rfl (by omega) rfl rfl ?_|refine o_loadW rfl rfl rfl rfl ?_|refine o_loadK rfl rfl rfl ?_)|(refine gF ?_;first|refine o_fieldI rfl rfl rfl rfl ?_|refine o_field rfl rfl rfl rfl ?_)|(refine gB ?_;first|refine o_mul rfl rfl rfl rfl (by omega) ?_|refine o_add rfl rfl rfl rfl (by omega) ?_|refine o_add rfl rfl rfl rfl (by omega) ?_|refine o_eqNil rfl rfl rfl rfl rfl ?_)|(refine gC ?_;first|refine o_callF rfl rfl rfl (c109 _ _ _ _ _) ?_|refine o_callF rfl rfl rfl (c91 _ _ n.mains _ _ (hsm.sub Sb.h) (by omega)) ?_)|(refine gI ?_;first|refine o_indexZ (idx n n.faults[j].main) rfl rfl rfl rfl rfl hbl.symm hpe (by omega) ?_|refine o_indexS rfl rfl rfl rfl rfl rfl (by omega) ?_|refine o_index rfl rfl rfl rfl rfl (by omega) ?_)|(refine gS ?_;first|(refine o_storeO (⟨((bill2 n p k j)[idx n n.faults[j].main]'(by first|done|omega)).gas, ((bill2 n p k j)[idx n n.faults[j].main]'(by first|done|omega)).penalty + n.faults[j].many * (priceN n p).fault⟩ : BillG) rfl rfl rfl ho (by omega) rfl rfl rfl rfl ?_;intro Δ2 ho2;refine ⟨_, inferInstance, ?_⟩)|refine o_store rfl rfl rfl rfl rfl rfl ?_|refine o_storeW rfl rfl rfl rfl rfl rfl ?_)|(refine o_allocZ rfl rfl ?_;intro _)|(refine o_box rfl rfl rfl ?_;intro _)|refine o_skip rfl rfl ?_|refine o_skipN rfl rfl ?_|refine o_build rfl rfl rfl rfl rfl ?_|(refine o_splitP rfl ?_ ?_<;>intro h<;>fail_if_success exact Bool.noConfusion h))|refine o_head0 rfl ?_|refine o_end ?_|refine o_head1 rfl ?_|(refine w_condD rfl ?_ ?_<;>intro h<;>try (exact absurd (by omega) h))|refine wp_seq ?_|refine o_region ?_|refine wp_block ?_|refine wp_skip ?_|refine wp_exit ?_|(refine w_condD rfl ?_ ?_<;>intro h)|(refine w_cond rfl ?_ ?_<;>intro h<;>try exact Bool.noConfusion h)|refine w_ret (S) (vs:=[_]) rfl (Res.tmp rfl Res.nil) ?_|(show WP _ _ _ _ (.region 14 _ true) _ _ _ _;refine o_drawnZ [Zf 0,Zf 1,Zf 2,Zf 3,Zf 4,Zf 5,Zf 6,Zf 7,Zf 8,Zf 9,Zf 10,Zf 11,Zf 12,Zf 13,Zt 14] [] mixed (by kernel_rfl) (List.nil_sublist _) ?_)|(show WP _ _ _ _ (.region 21 _ true) _ _ _ _;refine o_drawnZ [Zf 0,Zf 1,Zf 2,Zf 3,Zf 4,Zf 5,Zf 6,Zf 7,Zf 8,Zf 9,Zf 10,Zf 11,Zf 12,Zt 13] [] mixed (by kernel_rfl) (List.nil_sublist _) ?_)
    · have hc : countsF p k n.faults[j] = true := by
        unfold countsF countsB
        simp only [Bool.and_eq_true, decide_eq_true_eq]
        exact ⟨by assumption, h⟩
      rw [hat] at ho2
      exact ⟨n.faults.length - (j + 1), by omega, _, Sb.h, j + 1, _, Δ2, rfl, by omega, rfl, rfl, keep ⟨rfl, rfl, rfl, rfl, rfl, rfl, rfl, trivial⟩, by rw [← bill2_succ hjl hc]; exact ho2⟩
    all_goals
      have hc : countsF p k n.faults[j] = false := Bool.eq_false_iff.2 fun hc => by
        unfold countsF countsB at hc
        simp only [Bool.and_eq_true, decide_eq_true_eq] at hc
        first | exact h hc.2 | exact absurd hc.1 (by assumption)
      exact ⟨n.faults.length - (j + 1), by omega, _, Sb.h, j + 1, _, Δ, rfl, by omega, rfl, rfl, keep ⟨rfl, rfl, rfl, rfl, rfl, rfl, rfl, trivial⟩, by rw [bill2_skip hjl hc]; exact ho⟩
  have hjm : j = n.faults.length := by omega
  subst hjm
  repeat' first|(refine gX ?_;first|refine o_v rfl rfl ?_|(refine o_splitD rfl rfl rfl ?_ ?_<;>intro h)|(refine o_split rfl rfl rfl ?_ ?_<;>intro h<;>fail_if_success exact Bool.noConfusion h)|(refine gL ?_;first|refine o_load rfl rfl rfl rfl ?_|refine o_loadR rfl rfl rfl (by omega) rfl rfl ?_|refine o_loadW rfl rfl rfl rfl ?_|refine o_loadK rfl rfl rfl ?_)|(refine gF ?_;first|refine o_fieldI rfl rfl rfl rfl ?_|refine o_field rfl rfl rfl rfl ?_)|(refine gB ?_;first|refine o_add rfl rfl rfl rfl (by omega) ?_|refine o_eqNil rfl rfl rfl rfl rfl ?_)|(refine gI ?_;first|refine o_indexS rfl rfl rfl rfl rfl rfl (by omega) ?_|refine o_index rfl rfl rfl rfl rfl (by omega) ?_)|(refine gS ?_;first|refine o_store rfl rfl rfl rfl rfl rfl ?_|refine o_storeW rfl rfl rfl rfl rfl rfl ?_)|(refine o_allocZ rfl rfl ?_;intro _)|(refine o_box rfl rfl rfl ?_;intro _)|refine o_skip rfl rfl ?_|refine o_skipN rfl rfl ?_|refine o_build rfl rfl rfl rfl rfl ?_|(refine o_splitP rfl ?_ ?_<;>intro h<;>fail_if_success exact Bool.noConfusion h))|refine o_head0 rfl ?_|refine o_end ?_|refine o_head1 rfl ?_|(refine w_condD rfl ?_ ?_<;>intro h<;>try (exact absurd h (by omega)))|refine wp_seq ?_|refine o_region ?_|refine wp_block ?_|refine wp_skip ?_|refine wp_exit ?_|(refine w_condD rfl ?_ ?_<;>intro h)|(refine w_cond rfl ?_ ?_<;>intro h<;>try exact Bool.noConfusion h)|refine w_ret (Δ ++ S) (vs:=[_]) rfl (Res.tmp rfl Res.nil) ?_|refine w_ret (S) (vs:=[_]) rfl (Res.tmp rfl Res.nil) ?_|(show WP _ _ _ _ (.region 14 _ true) _ _ _ _;refine o_drawnZ [Zf 0,Zf 1,Zf 2,Zf 3,Zf 4,Zf 5,Zf 6,Zf 7,Zf 8,Zf 9,Zf 10,Zf 11,Zf 12,Zf 13,Zt 14] [] mixed (by kernel_rfl) (List.nil_sublist _) ?_)|(show WP _ _ _ _ (.region 21 _ true) _ _ _ _;refine o_drawnZ [Zf 0,Zf 1,Zf 2,Zf 3,Zf 4,Zf 5,Zf 6,Zf 7,Zf 8,Zf 9,Zf 10,Zf 11,Zf 12,Zt 13] [] mixed (by kernel_rfl) (List.nil_sublist _) ?_)
  exact ⟨Δ, ho, rfl⟩
end Go.Proofs.YtpnnmklacialgaaGreat
