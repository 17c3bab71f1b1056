/-
  Vc19: the steps of a walk as rewriting, state by state.
-/
import Derived.Test.YtdlddbclcmecjaaDoorVc18
set_option linter.unusedVariables false
set_option linter.unusedSimpArgs false
namespace Go.Vc
open Go

section
variable {P : Program} {Q : St → Prop} {k : List It} {st : St} {d : Option Nat}

def runT (P : Program) (Q : St → Prop) (k : List It) (d : Option Nat) (m : M) (st : St) : Prop := T P m d st fun st' => run P Q k st'
def runP (P : Program) (Q : St → Prop) (k : List It) (d : Option Nat) (st : St) (r : Res) : Prop := r.holds fun v => run P Q k (put? d st v)
def runW (P : Program) (Q : St → Prop) (k : List It) (d : Option Nat) (r : WR) : Prop := r.holds d fun st' => run P Q k st'
def callK (P : Program) (Q : St → Prop) (k : List It) (d : Option Nat) (st : St) (f : FuncId) (vs : List AV) : Prop := CallP P f vs st d fun st' => run P Q k st'
def runV (P : Program) (Q : St → Prop) (k : List It) (d : Option Nat) (st : St) (vs : List AV) (v : AV) : Prop := match v with
  | .fn f => okFn P f = true ∧ callK P Q k d st f vs
  | _ => False
def runPick (P : Program) (Q : St → Prop) (k : List It) (d : Option Nat) (st : St) (c a b : X) (v : AV) : Prop := match v with
  | .bool t => (t = true → run P Q k (put? d (setB st c true) (evX st a))) ∧ (t = false → run P Q k (put? d (setB st c false) (evX st b)))
  | _ => False
def runG (P : Program) (Q : St → Prop) (k : List It) (d : Option Nat) (t : Nat) (want : Bool) (m : M) (st : St) (v : AV) : Prop := match v with
  | .bool b => (b = want → runT P Q k d m (st.set t (.bool want))) ∧ (b = !want → run P Q k (put? d (st.set t (.bool (!want))) (.tup [])))
  | .tup [] => run P Q k (put? d st (.tup []))
  | _ => False
def runC (P : Program) (Q : St → Prop) (k : List It) (st : St) (x : X) (c e : MC) (v : AV) : Prop := match v with
  | .bool t => (t = true → run P Q (.code c :: k) (setB st x true)) ∧ (t = false → run P Q (.code e :: k) (setB st x false))
  | _ => False

theorem run_op (l : List MI) (m : M) : run P Q (.ops (.op d none m :: l) :: k) st = runT P Q (.ops l :: k) d m st := by rw [run_ops_op]; rfl
theorem run_opg (l : List MI) (t : Nat) (w : Bool) (m : M) : run P Q (.ops (.op d (some (t, w)) m :: l) :: k) st = runG P Q (.ops l :: k) d t w m st (eget st.env t) := by
  rw [run_ops_op]; simp only [TG, runG]; rfl
theorem run_dr (i : Nat) (m : M) (t : MT) : run P Q (.dr (.op i (.op d none m) t) :: k) st = runT P Q (.dr t :: k) d m st := by rw [run_dr_op]; rfl
theorem run_drg (i t : Nat) (w : Bool) (m : M) (x : MT) : run P Q (.dr (.op i (.op d (some (t, w)) m) x) :: k) st = runG P Q (.dr x :: k) d t w m st (eget st.env t) := by
  rw [run_dr_op]; simp only [TG, runG]; rfl
theorem run_c (x : X) (c e : MC) : run P Q (.code (.cond x c e) :: k) st = runC P Q k st x c e (evX st x) := by rw [run_cond]; rfl

theorem runT_p (m : PM) : runT P Q k d (.p m) st = runP P Q k d st (res st m) := rfl
theorem runT_w (m : WM) : runT P Q k d (.w m) st = runW P Q k d (wres st d m) := rfl
theorem runT_pick (c a b : X) : runT P Q k d (.pick c a b) st = runPick P Q k d st c a b (evX st c) := by simp only [runT, T, runPick]; cases evX st c <;> rfl
theorem runT_call (f : FuncId) (args : List X) : runT P Q k d (.call f args) st = callK P Q k d st f (args.map (evX st)) := rfl
theorem runT_callv (x : X) (args : List X) : runT P Q k d (.callv x args) st = runV P Q k d st (args.map (evX st)) (evX st x) := by simp only [runT, T, runV]; cases evX st x <;> rfl

theorem runT_bad : runT P Q k d .bad st = False := rfl
theorem runV_fn (f : FuncId) (vs : List AV) : runV P Q k d st vs (.fn f) = (okFn P f = true ∧ callK P Q k d st f vs) := rfl

theorem runP_val (asm p : Prop) (v : AV) : runP P Q k d st (.val asm p v) = (asm → p ∧ run P Q k (put? d st v)) := rfl
theorem runP_el {α : Type} (asm p : Prop) (xs : List α) (i : Nat) (f : α → AV) : runP P Q k d st (.el asm p xs i f) = (asm → p ∧ ∀ e, xs[i]? = some e → run P Q k (put? d st (f e))) := rfl
theorem runP_bad : runP P Q k d st .bad = False := rfl
theorem runW_ok (asm p : Prop) (st' : St) (v : AV) : runW P Q k d (.ok asm p st' v) = (asm → p ∧ run P Q k (put? d st' v)) := rfl
theorem runW_ex {α : Type} (asm p : Prop) (q : α → Prop) (st' : α → St) (v : α → AV) : runW P Q k d (.ex asm p q st' v) = (asm → p ∧ ∃ e, q e ∧ run P Q k (put? d (st' e) (v e))) := rfl
theorem runW_bad : runW P Q k d .bad = False := rfl

theorem runPick_t (c a b : X) : runPick P Q k d st c a b (.bool true) = run P Q k (put? d (setB st c true) (evX st a)) := by simp [runPick]
theorem runPick_f (c a b : X) : runPick P Q k d st c a b (.bool false) = run P Q k (put? d (setB st c false) (evX st b)) := by simp [runPick]
theorem runPick_dec (c a b : X) (p : Prop) [Decidable p] : runPick P Q k d st c a b (.bool (decide p)) = ((p → runPick P Q k d st c a b (.bool true)) ∧ (¬ p → runPick P Q k d st c a b (.bool false))) := by simp [runPick]
theorem runG_tt (t : Nat) (m : M) : runG P Q k d t true m st (.bool true) = runT P Q k d m (st.set t (.bool true)) := by simp [runG]
theorem runG_ff (t : Nat) (m : M) : runG P Q k d t false m st (.bool false) = runT P Q k d m (st.set t (.bool false)) := by simp [runG]
theorem runG_tf (t : Nat) (m : M) : runG P Q k d t true m st (.bool false) = run P Q k (put? d (st.set t (.bool false)) (.tup [])) := by simp [runG]
theorem runG_ft (t : Nat) (m : M) : runG P Q k d t false m st (.bool true) = run P Q k (put? d (st.set t (.bool true)) (.tup [])) := by simp [runG]
theorem runG_und (t : Nat) (w : Bool) (m : M) : runG P Q k d t w m st (.tup []) = run P Q k (put? d st (.tup [])) := rfl
theorem runG_dec (t : Nat) (w : Bool) (m : M) (p : Prop) [Decidable p] : runG P Q k d t w m st (.bool (decide p)) = ((p → runG P Q k d t w m st (.bool true)) ∧ (¬ p → runG P Q k d t w m st (.bool false))) := by
  cases w <;> by_cases hp : p <;> simp [runG, hp]
theorem runC_t (x : X) (c e : MC) : runC P Q k st x c e (.bool true) = run P Q (.code c :: k) (setB st x true) := by simp [runC]
theorem runC_f (x : X) (c e : MC) : runC P Q k st x c e (.bool false) = run P Q (.code e :: k) (setB st x false) := by simp [runC]
theorem runC_dec (x : X) (c e : MC) (p : Prop) [Decidable p] : runC P Q k st x c e (.bool (decide p)) = ((p → runC P Q k st x c e (.bool true)) ∧ (¬ p → runC P Q k st x c e (.bool false))) := by simp [runC]

end

/-! ### slots -/
def memb (i : Nat) : List Nat → Bool
  | [] => false
  | n :: ns => if i = n then true else memb i ns
theorem memb_iff (i : Nat) : ∀ ns : List Nat, memb i ns = true ↔ i ∈ ns
  | [] => by simp [memb]
  | n :: ns => by
    simp only [memb, List.mem_cons]
    by_cases h : i = n
    · simp [h]
    · simp [h, memb_iff i ns]
theorem edrop_cons (i : Nat) (v : AV) (t : Env) (ns : List Nat) : edrop ((i, v) :: t) ns = if memb i ns = true then edrop t ns else (i, v) :: edrop t ns := by
  simp only [edrop, memb_iff]
theorem edrop_nil (ns : List Nat) : edrop [] ns = [] := rfl

theorem drop_run {P : Program} {Q : St → Prop} {k : List It} {env : Env} {hp : Heap} (l : List MI) (ns : List Nat) : run P Q (.ops (.gh (.drop ns) :: l) :: k) ⟨env, hp⟩ = run P Q (.ops l :: k) ⟨edrop env ns, hp⟩ := by rw [run_ops_gh]; simp [gpre, gst]
theorem dropc_run {P : Program} {Q : St → Prop} {k : List It} {env : Env} {hp : Heap} (c : MC) (ns : List Nat) : run P Q (.code (.gh (.drop ns) c) :: k) ⟨env, hp⟩ = run P Q (.code c :: k) ⟨edrop env ns, hp⟩ := by rw [run_gh]; simp [gpre, gst]

section
variable {P : Program} {Q : St → Prop} {k : List It} {st : St}
theorem pub_run (l : List MI) (id : Nat) : run P Q (.ops (.gh (.pub id) :: l) :: k) st = (gpre st (.pub id) ∧ run P Q (.ops l :: k) (gst st (.pub id))) := by rw [run_ops_gh]
theorem pubd_run (i : Nat) (t : MT) (id : Nat) : run P Q (.dr (.op i (.gh (.pub id)) t) :: k) st = (gpre st (.pub id) ∧ run P Q (.dr t :: k) (gst st (.pub id))) := by rw [run_dr_gh]
theorem pubc_run (c : MC) (id : Nat) : run P Q (.code (.gh (.pub id) c) :: k) st = (gpre st (.pub id) ∧ run P Q (.code c :: k) (gst st (.pub id))) := by rw [run_gh]
theorem ren_run (l : List MI) (a b : Nat) : run P Q (.ops (.gh (.ren a b) :: l) :: k) st = (gpre st (.ren a b) ∧ run P Q (.ops l :: k) (gst st (.ren a b))) := by rw [run_ops_gh]
theorem nil_run {α : Type} (l : List MI) (i j id : Nat) (T : TypeId) (sz : Nat) (enc : α → List DV) : run P Q (.ops (.gh (.nil i j id T sz enc) :: l) :: k) st = (gpre st (.nil i j id T sz enc) ∧ run P Q (.ops l :: k) (gst st (.nil i j id T sz enc))) := by rw [run_ops_gh]
theorem gpre_pub (env : Env) (hp : Heap) (id : Nat) : gpre ⟨env, hp⟩ (.pub id) = (match hget hp id with | some (.arr _ _ _ _ _ _) => id < 1000 | _ => False) := rfl
theorem gst_pub (env : Env) (hp : Heap) (id : Nat) : gst ⟨env, hp⟩ (.pub id) = (match hget hp id with
    | some (.arr T mov fr sz enc xs) => ⟨env.map fun p => (p.1, pubV id fr sz enc xs p.2), (hdel hp id).map fun p => (p.1, pubO id fr sz enc xs p.2)⟩
    | _ => ⟨env, hp⟩) := rfl
theorem gpre_ren (env : Env) (hp : Heap) (a b : Nat) : gpre ⟨env, hp⟩ (.ren a b) = ((hget hp a).isSome = true ∧ hget hp b = none) := rfl
theorem gst_ren (env : Env) (hp : Heap) (a b : Nat) : gst ⟨env, hp⟩ (.ren a b) = (match hget hp a with
    | some ob => ⟨env.map fun p => (p.1, renV a b p.2), hset ((hdel hp a).map fun p => (p.1, renO a b p.2)) b (renO a b ob)⟩
    | none => ⟨env, hp⟩) := rfl
theorem gpre_nil {α : Type} (env : Env) (hp : Heap) (i j id : Nat) (T : TypeId) (sz : Nat) (enc : α → List DV) : gpre ⟨env, hp⟩ (.nil i j id T sz enc) = (match hget hp i with
    | some (.blk _ cs) => cs[j]? = some .nilS ∧ hget hp id = none ∧ 0 < sz
    | _ => False) := rfl
theorem gst_nil {α : Type} (env : Env) (hp : Heap) (i j id : Nat) (T : TypeId) (sz : Nat) (enc : α → List DV) : gst ⟨env, hp⟩ (.nil i j id T sz enc) = (match hget hp i with
    | some (.blk T0 cs) => ⟨env, hset (hset hp i (.blk T0 (cs.set j (.own id 0 0 true)))) id (.arr T true true sz enc ([] : List α))⟩
    | _ => ⟨env, hp⟩) := rfl
end

/-! ### operands, results -/
section
variable (env : Env) (hp : Heap) (st : St)
theorem evX_t (n : Nat) : evX ⟨env, hp⟩ (.t n) = eget env n := rfl
theorem evX_i (k : IntKind) (n : Int) : evX st (.i k n) = .int k n := rfl
theorem evX_b (b : Bool) : evX st (.b b) = .bool b := rfl
theorem evX_s (s : ByteArray) : evX st (.s s) = .str s := rfl
theorem evX_nil : evX st .nil = .nilS := rfl
theorem evX_fn (f : FuncId) : evX st (.fn f) = .fn f := rfl
theorem eget_cons (i n : Nat) (v : AV) (t : Env) : eget ((i, v) :: t) n = if i = n then v else eget t n := rfl
theorem eget_nil (n : Nat) : eget [] n = .any := rfl
theorem eset_cons (i n : Nat) (u v : AV) (t : Env) : eset ((i, u) :: t) n v = if i = n then (n, v) :: t else if n < i then (n, v) :: (i, u) :: t else (i, u) :: eset t n v := rfl
theorem eset_nil (n : Nat) (v : AV) : eset [] n v = [(n, v)] := rfl
theorem put_some (n : Nat) (v : AV) : put? (some n) ⟨env, hp⟩ v = ⟨eset env n v, hp⟩ := rfl
theorem put_none (v : AV) : put? none st v = st := rfl
theorem set_st (n : Nat) (v : AV) : St.set ⟨env, hp⟩ n v = ⟨eset env n v, hp⟩ := rfl
theorem setB_t (n : Nat) (b : Bool) : setB ⟨env, hp⟩ (.t n) b = ⟨eset env n (.bool b), hp⟩ := rfl
theorem setB_b (c b : Bool) : setB st (.b c) b = st := rfl

theorem res_mv (x : X) : res st (.mv x) = .val True True (evX st x) := rfl
theorem res_nchk (x : X) : res st (.nchk x) = nchkR (evX st x) := rfl
theorem res_bin (op : BinOp) (x y : X) : res st (.bin op x y) = binR op (evX st x) (evX st y) := rfl
theorem res_bb (op : BinOp) (x y : X) : res st (.bb op x y) = boolR op (evX st x) (evX st y) := rfl
theorem res_un (op : UnOp) (x : X) : res st (.un op x) = unR op (evX st x) := rfl
theorem res_cv (k : IntKind) (x : X) : res st (.cv k x) = cvR k (evX st x) := rfl

theorem ar_i64 (r : Int) : arith .i64 r = .val True (-9223372036854775808 ≤ r ∧ r < 9223372036854775808) (.int .i64 r) := rfl
theorem ar_u64 (r : Int) : arith .u64 r = .val True True (.int .u64 (r % 18446744073709551616)) := rfl
theorem ar_u32 (r : Int) : arith .u32 r = .val True True (.int .u32 (r % 4294967296)) := rfl
theorem ar_u16 (r : Int) : arith .u16 r = .val True True (.int .u16 (r % 65536)) := rfl
theorem ar_u8 (r : Int) : arith .u8 r = .val True True (.int .u8 (r % 256)) := rfl
theorem ar_i32 (r : Int) : arith .i32 r = .val True (-2147483648 ≤ r ∧ r < 2147483648) (.int .i32 r) := rfl

variable (k k' : IntKind) (a b : Int)
theorem bin_add : binR .add (.int k a) (.int k b) = arith k (a + b) := by simp [binR, intR]
theorem bin_sub : binR .sub (.int k a) (.int k b) = arith k (a - b) := by simp [binR, intR]
theorem bin_mul : binR .mul (.int k a) (.int k b) = arith k (a * b) := by simp [binR, intR]
theorem bin_quo : binR .quo (.int k a) (.int k b) = .val (inK k a ∧ inK k b) (0 ≤ a ∧ 0 < b) (.int k (a / b)) := by simp [binR, intR]
theorem bin_rem : binR .rem (.int k a) (.int k b) = .val (inK k a ∧ inK k b) (0 ≤ a ∧ 0 < b) (.int k (a % b)) := by simp [binR, intR]
theorem bin_and : binR .and (.int k a) (.int k b) = .val (inK k a ∧ inK k b) (0 ≤ a ∧ 0 ≤ b) (.int k ((a.toNat &&& b.toNat : Nat) : Int)) := by simp [binR, intR]
theorem bin_or : binR .or (.int k a) (.int k b) = .val (inK k a ∧ inK k b) (0 ≤ a ∧ 0 ≤ b) (.int k ((a.toNat ||| b.toNat : Nat) : Int)) := by simp [binR, intR]
theorem bin_xor : binR .xor (.int k a) (.int k b) = .val (inK k a ∧ inK k b) (0 ≤ a ∧ 0 ≤ b) (.int k ((a.toNat ^^^ b.toNat : Nat) : Int)) := by simp [binR, intR]
theorem bin_andNot : binR .andNot (.int k a) (.int k b) = .val (inK k a ∧ inK k b) (0 ≤ a ∧ 0 ≤ b) (.int k ((a.toNat ^^^ (a.toNat &&& b.toNat) : Nat) : Int)) := by simp [binR, intR]
theorem bin_eql : binR .eql (.int k a) (.int k b) = .val True True (.bool (decide (a = b))) := by simp [binR, intR]
theorem bin_neq : binR .neq (.int k a) (.int k b) = .val True True (.bool (decide (¬ a = b))) := by simp [binR, intR]
theorem bin_lss : binR .lss (.int k a) (.int k b) = .val True True (.bool (decide (a < b))) := by simp [binR, intR]
theorem bin_leq : binR .leq (.int k a) (.int k b) = .val True True (.bool (decide (a ≤ b))) := by simp [binR, intR]
theorem bin_gtr : binR .gtr (.int k a) (.int k b) = .val True True (.bool (decide (b < a))) := by simp [binR, intR]
theorem bin_geq : binR .geq (.int k a) (.int k b) = .val True True (.bool (decide (b ≤ a))) := by simp [binR, intR]
theorem bin_shl64 : binR .shl (.int .u64 a) (.int k b) = .val True (0 ≤ b ∧ b ≤ 64) (.int .u64 ((a * 2 ^ b.toNat) % 18446744073709551616)) := by simp [binR, shR, arith, bitW]
theorem bin_shl32 : binR .shl (.int .u32 a) (.int k b) = .val True (0 ≤ b ∧ b ≤ 32) (.int .u32 ((a * 2 ^ b.toNat) % 4294967296)) := by simp [binR, shR, arith, bitW]
theorem bin_shl8 : binR .shl (.int .u8 a) (.int k b) = .val True (0 ≤ b ∧ b ≤ 8) (.int .u8 ((a * 2 ^ b.toNat) % 256)) := by simp [binR, shR, arith, bitW]
theorem bin_shli : binR .shl (.int .i64 a) (.int k b) = .val True (0 ≤ b ∧ b ≤ 64 ∧ (-9223372036854775808 ≤ a * 2 ^ b.toNat ∧ a * 2 ^ b.toNat < 9223372036854775808)) (.int .i64 (a * 2 ^ b.toNat)) := by simp [binR, shR, arith, bitW]
theorem bin_shr64 : binR .shr (.int .u64 a) (.int k b) = .val (inK .u64 a) (0 ≤ b) (.int .u64 (a / 2 ^ (min b.toNat 64))) := by simp [binR, shR, bitW]
theorem bin_shr32 : binR .shr (.int .u32 a) (.int k b) = .val (inK .u32 a) (0 ≤ b) (.int .u32 (a / 2 ^ (min b.toNat 32))) := by simp [binR, shR, bitW]
theorem bin_shr8 : binR .shr (.int .u8 a) (.int k b) = .val (inK .u8 a) (0 ≤ b) (.int .u8 (a / 2 ^ (min b.toNat 8))) := by simp [binR, shR, bitW]
theorem bin_shri : binR .shr (.int .i64 a) (.int k b) = .val (inK .i64 a) (0 ≤ b) (.int .i64 (a / 2 ^ (min b.toNat 64))) := by simp [binR, shR, bitW]
theorem str_eql (s t : ByteArray) : binR .eql (.str s) (.str t) = .val True True (.bool (decide (s = t))) := by simp [binR]
theorem str_neq (s t : ByteArray) : binR .neq (.str s) (.str t) = .val True True (.bool (decide (¬ s = t))) := by simp [binR]
theorem str_add (s t : ByteArray) : binR .add (.str s) (.str t) = .val (s.size ≤ 281474976710656 ∧ t.size ≤ 281474976710656) (s.size + t.size ≤ 281474976710656) (.str (s ++ t)) := by simp [binR]
theorem un_not (p : Prop) [Decidable p] : unR .not (.bool (decide p)) = .val True True (.bool (decide (¬ p))) := by simp [unR]
theorem un_notT : unR .not (.bool true) = .val True True (.bool false) := rfl
theorem un_notF : unR .not (.bool false) = .val True True (.bool true) := rfl
theorem un_xor8 (n : Int) : unR .xor (.int .u8 n) = .val (inK .u8 n) True (.int .u8 (255 - n)) := rfl
theorem un_xor32 (n : Int) : unR .xor (.int .u32 n) = .val (inK .u32 n) True (.int .u32 (4294967295 - n)) := rfl
theorem un_xor64 (n : Int) : unR .xor (.int .u64 n) = .val (inK .u64 n) True (.int .u64 (18446744073709551615 - n)) := rfl
theorem bool_eql (p q : Prop) [Decidable p] [Decidable q] : boolR .eql (.bool (decide p)) (.bool (decide q)) = .val True True (.bool (decide (p ↔ q))) := by
  simp only [boolR]; congr 2; by_cases p <;> by_cases q <;> simp_all
theorem bool_neq (p q : Prop) [Decidable p] [Decidable q] : boolR .neq (.bool (decide p)) (.bool (decide q)) = .val True True (.bool (decide (¬ (p ↔ q)))) := by
  simp only [boolR]; congr 2; by_cases p <;> by_cases q <;> simp_all
theorem cv_wide (h : wideK k k' = true) : cvR k' (.int k a) = .val (inK k a) True (.int k' a) := by simp [cvR, h]
theorem cv_3264 : cvR .u64 (.int .u32 a) = .val (inK .u32 a) True (.int .u64 a) := rfl
theorem cv_32i : cvR .i64 (.int .u32 a) = .val (inK .u32 a) True (.int .i64 a) := rfl
theorem cv_8i : cvR .i64 (.int .u8 a) = .val (inK .u8 a) True (.int .i64 a) := rfl
theorem cv_832 : cvR .u32 (.int .u8 a) = .val (inK .u8 a) True (.int .u32 a) := rfl
theorem cv_864 : cvR .u64 (.int .u8 a) = .val (inK .u8 a) True (.int .u64 a) := rfl
theorem cv_ii : cvR .i64 (.int .i64 a) = .val (inK .i64 a) True (.int .i64 a) := rfl
theorem cv_i64 : cvR .u64 (.int .i64 a) = .val True True (.int .u64 (a % 18446744073709551616)) := rfl
theorem cv_64i : cvR .i64 (.int .u64 a) = .val True (-9223372036854775808 ≤ a ∧ a < 9223372036854775808) (.int .i64 a) := rfl
theorem cv_6432 : cvR .u32 (.int .u64 a) = .val True True (.int .u32 (a % 4294967296)) := rfl
theorem cv_648 : cvR .u8 (.int .u64 a) = .val True True (.int .u8 (a % 256)) := rfl
theorem cv_328 : cvR .u8 (.int .u32 a) = .val True True (.int .u8 (a % 256)) := rfl
theorem cv_i32 : cvR .u32 (.int .i64 a) = .val True True (.int .u32 (a % 4294967296)) := rfl
theorem cv_i8 : cvR .u8 (.int .i64 a) = .val True True (.int .u8 (a % 256)) := rfl
theorem cv_3232 : cvR .u32 (.int .u32 a) = .val (inK .u32 a) True (.int .u32 a) := rfl
theorem cv_6464 : cvR .u64 (.int .u64 a) = .val (inK .u64 a) True (.int .u64 a) := rfl
end

end Go.Vc
