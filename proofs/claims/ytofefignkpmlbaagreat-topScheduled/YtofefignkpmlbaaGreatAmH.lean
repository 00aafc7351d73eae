/- An abstract machine for Go code and its soundness over the model; no condition of its own. Used by the proof that the law TopScheduled returns true at every input. -/
import Derived.Test.YtofefignkpmlbaaGreatAmG
/- The evaluator's equations, as one lemma. -/
namespace Go.Am
set_option linter.unusedVariables false
set_option linter.all false
theorem stepW_t (r : Rec) (ix cls dst op env hs h) : stepW r ix cls dst op env hs h (some true) = stepD r ⟨ix, cls, ⟨dst, none, op⟩⟩ env hs h := rfl
theorem stepW_e (r : Rec) (ix dst op env hs h) : stepW r ix .e dst op env hs h (some false) = .ok (putV dst (.tup []) env, h :: hs) h := rfl
theorem stepW_v (r : Rec) (ix dst op env hs h) : stepW r ix .v dst op env hs h (some false) = .ok (putV dst (.tup []) env, hs) h := rfl
theorem stepW_a (r : Rec) (ix dst op env hs h) : stepW r ix .a dst op env hs h (some false) = .ok (putV dst (.tup []) env, hs) h := rfl
theorem stepW_i (r : Rec) (ix dst op env hs h) : stepW r ix .i dst op env hs h (some false) = .ok (putV dst (.tup []) env, hs) h := rfl
theorem stepW_r (r : Rec) (ix k dst op env hs h) : stepW r ix (.r k) dst op env hs h (some false) = .ok (putV dst (.tup []) env, hs) h := rfl
theorem so3_t (size esz b off m hi h lo) : so3 size esz b off m hi true h (some lo) = .ok (.slice b (off + lo * size) (hi - lo) (.c (m - lo))) h := rfl
theorem so3_f (size b off m hi h lo) : so3 size size b off m hi false h (some lo) = .ok (.slice b (off + lo * size) (hi - lo) (.o size)) h := by simp only [so3, Nat.beq_refl]
theorem fieldV_n (off h cs) : fieldV off none h (.agg cs) = optVal' 63 h (nth cs off) := rfl
theorem fieldV_s (off k h cs) : fieldV off (some k) h (.agg cs) = optAgg 64 h (takeX (dropX cs off) k) := rfl
theorem loadN_n (off h cs) : loadN none off h cs = optVal' 26 h (nth cs off) := rfl
theorem loadN_s (off k h cs) : loadN (some k) off h cs = optAgg 27 h (takeX (dropX cs off) k) := rfl
def aggO : Option (List AV) → Option AV
  | some l => some (.agg l)
  | none => none
theorem aggO_s (l) : aggO (some l) = some (.agg l) := rfl
theorem resC_n (off cs sp) : resC none off (some (.cells cs sp)) = nth cs off := rfl
theorem resC_s (off k cs sp) : resC (some k) off (some (.cells cs sp)) = aggO (takeX (dropX cs off) k) := by
  simp only [resC]; cases takeX (dropX cs off) k <;> rfl
theorem resL_s (v l) : resL (some v) (some l) = some (v :: l) := rfl
theorem sa_n (p e) : setArgs [] p e = e := rfl
theorem sa_c (v vs p e) : setArgs (v :: vs) p e = setArgs vs p.succ (PT.set p v e) := rfl
theorem vals_n (e) : vals e [] = [] := rfl
theorem vals_c (e x l) : vals e (x :: l) = val e x :: vals e l := rfl
theorem cl_agg (cs) : (AV.agg cs).cells = cs := rfl
theorem cl_int (k n) : (AV.int k n).cells = [.int k n] := rfl
theorem cl_bool (b) : (AV.bool b).cells = [.bool b] := rfl
theorem cl_str (b) : (AV.str b).cells = [.str b] := rfl
theorem cl_ptr (b o) : (AV.ptr b o).cells = [.ptr b o] := rfl
theorem cl_nilptr : AV.nilptr.cells = [.nilptr] := rfl
theorem cl_slice (b o l c) : (AV.slice b o l c).cells = [.slice b o l c] := rfl
theorem cl_nilslice : AV.nilslice.cells = [.nilslice] := rfl
theorem cl_map (b) : (AV.map b).cells = [.map b] := rfl
theorem cl_nilmap : AV.nilmap.cells = [.nilmap] := rfl
theorem cl_fn (f a b) : (AV.fn f a b).cells = [.fn f a b] := rfl
theorem cl_nilfn : AV.nilfn.cells = [.nilfn] := rfl
theorem cl_yield (l) : (AV.yield l).cells = [.yield l] := rfl
theorem cn_n : cellsN none = 1 := rfl
theorem cn_s (k) : cellsN (some k) = k := rfl
theorem ac_n : allCells [] = true := rfl
def acB (l : List AV) : Bool → Bool
  | true => allCells l
  | false => false
theorem acB_t (l) : acB l true = allCells l := rfl
theorem ac_c (v l) : allCells (v :: l) = acB l v.isCell := by
  simp only [allCells]; cases v.isCell <;> rfl
theorem ic_int (k n) : (AV.int k n).isCell = true := rfl
theorem ic_bool (b) : (AV.bool b).isCell = true := rfl
theorem ic_str (b) : (AV.str b).isCell = true := rfl
theorem ic_ptr (b o) : (AV.ptr b o).isCell = true := rfl
theorem ic_nilptr : AV.nilptr.isCell = true := rfl
theorem ic_slice (b o l c) : (AV.slice b o l c).isCell = true := rfl
theorem ic_nilslice : AV.nilslice.isCell = true := rfl
theorem ic_map (b) : (AV.map b).isCell = true := rfl
theorem ic_nilmap : AV.nilmap.isCell = true := rfl
theorem ic_fn (f a b) : (AV.fn f a b).isCell = true := rfl
theorem ic_nilfn : AV.nilfn.isCell = true := rfl
theorem ic_yield (l) : (AV.yield l).isCell = true := rfl
theorem bd_n (d m) : bound none d m = some d := rfl
theorem bd_s (k n d m) : bound (some (.int k (.ofNat n))) d m = bif Nat.ble n m then some n else none := by
  simp only [bound]; cases Nat.ble n m <;> rfl
theorem ov_none (e) : optVal e none = none := rfl
theorem ov_some (e x) : optVal e (some x) = some (val e x) := rfl
theorem sm_bool (a b) : same .bool (.bool a) (.bool b) = some (eqBool a b) := rfl
theorem sm_ptr1 : same .ptr .nilptr .nilptr = some true := rfl
theorem sm_ptr2 (b o) : same .ptr .nilptr (.ptr b o) = some false := rfl
theorem sm_ptr3 (b o) : same .ptr (.ptr b o) .nilptr = some false := rfl
theorem sm_sl1 : same .slice .nilslice .nilslice = some true := rfl
theorem sm_sl2 (b o l c) : same .slice (.slice b o l c) .nilslice = some false := rfl
theorem sm_fn1 : same .func .nilfn .nilfn = some true := rfl
theorem sm_fn2 (f a b) : same .func (.fn f a b) .nilfn = some false := rfl
theorem sm_fn3 (l) : same .func (.yield l) .nilfn = some false := rfl
theorem sm_map1 : same .map .nilmap .nilmap = some true := rfl
theorem sm_map2 (b) : same .map (.map b) .nilmap = some false := rfl
theorem eb_tt : eqBool true true = true := rfl
theorem eb_ff : eqBool false false = true := rfl
theorem eb_tf : eqBool true false = false := rfl
theorem eb_ft : eqBool false true = false := rfl
theorem eb_self (b) : eqBool b b = true := by cases b <;> rfl
theorem bq_int (k n) : beqAV (.int k n) (.int k n) = true := by simp only [beqAV, eqKind_self, eqI_self]
theorem bq_bool (b) : beqAV (.bool b) (.bool b) = true := by cases b <;> rfl
theorem bq_ptr (b o) : beqAV (.ptr b o) (.ptr b o) = true := by simp only [beqAV, Pos.beq_self, Nat.beq_refl]
theorem bq_nilptr : beqAV .nilptr .nilptr = true := by simp only [beqAV]
theorem bq_nilslice : beqAV .nilslice .nilslice = true := by simp only [beqAV]
theorem bq_slo (b o l c) : beqAV (.slice b o l (.o c)) (.slice b o l (.o c)) = true := by simp only [beqAV, Pos.beq_self, Nat.beq_refl]
theorem bq_slc (b o l c) : beqAV (.slice b o l (.c c)) (.slice b o l (.c c)) = true := by simp only [beqAV, Pos.beq_self, Nat.beq_refl]
theorem bq_map (b) : beqAV (.map b) (.map b) = true := by simp only [beqAV, Pos.beq_self]
theorem bq_nilmap : beqAV .nilmap .nilmap = true := by simp only [beqAV]
theorem bqs_n : beqAV.beqAVs [] [] = true := by simp only [beqAV.beqAVs]
theorem bq_agg (a b) : beqAV (.agg a) (.agg b) = beqAV.beqAVs a b := by simp only [beqAV]
theorem bqs_c (a b l r) : beqAV.beqAVs (a :: l) (b :: r) = bif beqAV a b then beqAV.beqAVs l r else false := by
  simp only [beqAV.beqAVs]; cases beqAV a b <;> rfl
theorem seq_x (r b i env h) : seqY r b (.ok (.exit i, env) h) = .ok (.exit i, env) h := rfl
theorem seq_r (r b env h) : seqY r b (.ok (.ret, env) h) = .ok (.ret, env) h := rfl
theorem blk_n (i env h) : blockY i (.ok (.normal, env) h) = .ok (.normal, env) h := rfl
theorem blk_r (i env h) : blockY i (.ok (.ret, env) h) = .ok (.ret, env) h := rfl
theorem lp_x (r c i env h) : loopY r c (.ok (.exit i, env) h) = .ok (.exit i, env) h := rfl
theorem lp_r (r c env h) : loopY r c (.ok (.ret, env) h) = .ok (.ret, env) h := rfl
theorem fillC_s (e ps l) : fillC e ps (some l) = fillA e ps l := rfl
theorem fillB_t (e ps off vs l) : fillB e ps off vs l true = fillC e ps (writeAt off vs l) := rfl
theorem fv_int (e ps off size l k n) : fillV e ps off size l (.int k n) = fillB e ps off [.int k n] l (Nat.beq 1 size) := rfl
theorem fv_bool (e ps off size l b) : fillV e ps off size l (.bool b) = fillB e ps off [.bool b] l (Nat.beq 1 size) := rfl
theorem fv_str (e ps off size l b) : fillV e ps off size l (.str b) = fillB e ps off [.str b] l (Nat.beq 1 size) := rfl
theorem fv_ptr (e ps off size l b o) : fillV e ps off size l (.ptr b o) = fillB e ps off [.ptr b o] l (Nat.beq 1 size) := rfl
theorem fv_nilptr (e ps off size l) : fillV e ps off size l .nilptr = fillB e ps off [.nilptr] l (Nat.beq 1 size) := rfl
theorem fv_sl (e ps off size l b o n c) : fillV e ps off size l (.slice b o n c) = fillB e ps off [.slice b o n c] l (Nat.beq 1 size) := rfl
theorem fv_nilsl (e ps off size l) : fillV e ps off size l .nilslice = fillB e ps off [.nilslice] l (Nat.beq 1 size) := rfl
theorem fv_map (e ps off size l b) : fillV e ps off size l (.map b) = fillB e ps off [.map b] l (Nat.beq 1 size) := rfl
theorem fv_fn (e ps off size l f a b) : fillV e ps off size l (.fn f a b) = fillB e ps off [.fn f a b] l (Nat.beq 1 size) := rfl
theorem fv_agg (e ps off size l cs) : fillV e ps off size l (.agg cs) = fillB e ps off cs l (Nat.beq (len cs 0) size) := rfl
theorem bx_int (h k n) : boxV h (.int k n) = .ok (.ptr h.next 0) (h.new (.cells [.int k n] none)) := rfl
theorem bx_bool (h b) : boxV h (.bool b) = .ok (.ptr h.next 0) (h.new (.cells [.bool b] none)) := rfl
theorem bx_str (h b) : boxV h (.str b) = .ok (.ptr h.next 0) (h.new (.cells [.str b] none)) := rfl
theorem bx_ptr (h b o) : boxV h (.ptr b o) = .ok (.ptr h.next 0) (h.new (.cells [.ptr b o] none)) := rfl
theorem bx_nilptr (h) : boxV h .nilptr = .ok (.ptr h.next 0) (h.new (.cells [.nilptr] none)) := rfl
theorem bx_sl (h b o n c) : boxV h (.slice b o n c) = .ok (.ptr h.next 0) (h.new (.cells [.slice b o n c] none)) := rfl
theorem bx_nilsl (h) : boxV h .nilslice = .ok (.ptr h.next 0) (h.new (.cells [.nilslice] none)) := rfl
theorem bx_map (h b) : boxV h (.map b) = .ok (.ptr h.next 0) (h.new (.cells [.map b] none)) := rfl
theorem bx_nilmap (h) : boxV h .nilmap = .ok (.ptr h.next 0) (h.new (.cells [.nilmap] none)) := rfl
theorem bx_fn (h f a b) : boxV h (.fn f a b) = .ok (.ptr h.next 0) (h.new (.cells [.fn f a b] none)) := rfl
theorem bx_yield (h l) : boxV h (.yield l) = .ok (.ptr h.next 0) (h.new (.cells [.yield l] none)) := rfl
theorem bx_agg (h cs) : boxV h (.agg cs) = .ok (.ptr h.next 0) (h.new (.cells cs none)) := rfl
theorem bk_r (r rs env h) : bodyK r rs (.ok (.ret, env) h) = deferK' rs env.tmps (evalDefers r env.defers h) := rfl
theorem bk_n (r rs env h) : bodyK r rs (.ok (.normal, env) h) = deferK' rs env.tmps (evalDefers r env.defers h) := rfl
theorem ro_1 (h v) : resOf h (some [v]) = .ok v h := rfl
theorem ro_0 (h) : resOf h (some []) = .ok (.tup []) h := rfl
theorem ro_2 (h a b l) : resOf h (some (a :: b :: l)) = .ok (.tup (a :: b :: l)) h := rfl
theorem gm : growMost = 1073741824 := rfl
theorem ps_H : Pos.H.succ = .O .H := rfl
theorem ps_O (p) : (Pos.O p).succ = .I p := rfl
theorem ps_I (p) : (Pos.I p).succ = .O p.succ := rfl
theorem pb_HH : Pos.beq .H .H = true := rfl
theorem pb_HO (q) : Pos.beq .H (.O q) = false := rfl
theorem pb_HI (q) : Pos.beq .H (.I q) = false := rfl
theorem pb_OH (q) : Pos.beq (.O q) .H = false := rfl
theorem pb_IH (q) : Pos.beq (.I q) .H = false := rfl
theorem pb_OI (p q) : Pos.beq (.O p) (.I q) = false := rfl
theorem pb_IO (p q) : Pos.beq (.I p) (.O q) = false := rfl
theorem pb_OO (p q) : Pos.beq (.O p) (.O q) = Pos.beq p q := rfl
theorem pb_II (p q) : Pos.beq (.I p) (.I q) = Pos.beq p q := rfl
theorem callK_e0 (r : Rec) (args : List AV) (h : Heap) (f : Pos) {fn} : callK r args h f (some fn) = bodyK r fn.results (evalCode r fn.body ⟨setArgs args .H .E, [], none⟩ h) := rfl
theorem callvV_e0 (r : Rec) (args : List AV) (h : Heap) {f first captured} : callvV r args h (.fn f first captured) = r.call f (first ++ args ++ captured) h := rfl
theorem callvV_e1 (r : Rec) (args : List AV) (h : Heap) {l} : callvV r args h (.yield l) = r.yield l args h := rfl
theorem regY_e0 {env h} : regY (.ok env h) = .ok (.normal, env) h := rfl
theorem seqY_e0 (r : Rec) (b : ACode) {env h} : seqY r b (.ok (.normal, env) h) = evalCode r b env h := rfl
theorem condY_e0 (r : Rec) (a b : ACode) (env : Env) (h : Heap) : condY r a b env h (.bool true) = evalCode r a env h := rfl
theorem condY_e1 (r : Rec) (a b : ACode) (env : Env) (h : Heap) : condY r a b env h (.bool false) = evalCode r b env h := rfl
theorem drawnY_e0 {w1 env h} : drawnY (.ok (env, w1) h) = .ok (.normal, env) h := rfl
theorem blockY_e0 (id : Nat) {id' env h} : blockY id (.ok (.exit id', env) h) = blockIf id' env h (Nat.beq id id') := rfl
theorem blockIf_e0 (id : Nat) (env : Env) (h : Heap) : blockIf id env h true = .ok (.normal, env) h := rfl
theorem blockIf_e1 (id : Nat) (env : Env) (h : Heap) : blockIf id env h false = .ok (.exit id, env) h := rfl
theorem loopY_e0 (r : Rec) (c : ACode) {env h} : loopY r c (.ok (.normal, env) h) = r.loop c env h := rfl
theorem guardO_e0 (r : Rec) (dst : Option Pos) (op : AOp) (ops : List AOper) (env : Env) (h : Heap) : guardO r dst op ops env h (some true) = evalOps r (⟨dst, none, op⟩ :: ops) env h := rfl
theorem guardO_e1 (r : Rec) (dst : Option Pos) (op : AOp) (ops : List AOper) (env : Env) (h : Heap) : guardO r dst op ops env h (some false) = evalOps r ops (putV dst (.tup []) env) h := rfl
theorem thenO_e0 (r : Rec) (dst : Option Pos) (ops : List AOper) (env : Env) {v h} : thenO r dst ops env (.ok v h) = evalOps r ops (putV dst v env) h := rfl
theorem wantO_e0 (want : Bool) {b} : wantO want (.bool b) = some (eqBool b want) := rfl
theorem wantO_e1 (want : Bool) {w2} : wantO want (.tup w2) = some false := rfl
theorem thenD_e0 (r : Rec) (l : List DItem) {env' hs' h'} : thenD r l (.ok (env', hs') h') = evalD r l env' hs' h' := rfl
theorem madeK_e0 (dst : Option Pos) (env : Env) (hs : List Heap) {v h'} : madeK dst env hs (.ok v h') = .ok (putV dst v env, hs) h' := rfl
theorem wroteK_e0 (dst : Option Pos) (env : Env) (hs : List Heap) {v h'} : wroteK dst env hs (.ok v h') = .ok (putV dst v env, h' :: hs) h' := rfl
theorem readK_e0 (r : Rec) (dst : Option Pos) (op : AOp) (env : Env) (k : Nat) (hs hs' : List Heap) (h : Heap) {w3 v} : readK r dst op env k hs hs' h (.ok v w3) = readOk dst env hs h v (recheck r env op v k hs') := rfl
theorem readOk_e0 (dst : Option Pos) (env : Env) (hs : List Heap) (h : Heap) (v : AV) : readOk dst env hs h v true = .ok (putV dst v env, hs) h := rfl
theorem recheckK'_e0 (r : Rec) (env : Env) (op : AOp) (v : AV) (k : Nat) (hs : List Heap) {w4 u} : recheckK' r env op v k hs (.ok u w4) = bif beqAV v u then recheck r env op v k hs else false := rfl
theorem recheckK'_e1 (r : Rec) (env : Env) (op : AOp) (v : AV) (k : Nat) (hs : List Heap) {w5} : recheckK' r env op v k hs (.no w5) = false := rfl
theorem pickV_e0 (a b : AV) (h : Heap) : pickV a b h (.bool true) = .ok a h := rfl
theorem pickV_e1 (a b : AV) (h : Heap) : pickV a b h (.bool false) = .ok b h := rfl
theorem optAgg_e0 (w : Nat) (h : Heap) {l} : optAgg w h (some l) = .ok (.agg l) h := rfl
theorem optVal'_e0 (w : Nat) (h : Heap) {v} : optVal' w h (some v) = .ok v h := rfl
theorem sliceOf_e0 (n : Nat) (h : Heap) {l} : sliceOf n h (some l) = .ok (.slice h.next 0 n (.c n)) (h.new (.cells l none)) := rfl
theorem loadC_e0 (n : Option Nat) (off : Nat) (h : Heap) {w6 cs} : loadC n off h (some (.cells cs w6)) = loadN n off h cs := rfl
theorem loadV_e0 (n : Option Nat) (h : Heap) {b off} : loadV n h (.ptr b off) = loadC n off h (h.get b) := rfl
theorem storeW_e0 (b : Pos) (sp : Option Nat) (h : Heap) {cs'} : storeW b sp h (some cs') = .ok (.tup []) (h.upd b (.cells cs' sp)) := rfl
theorem storeK_e0 (b : Pos) (off : Nat) (sp : Option Nat) (cs vs : List AV) (h : Heap) : storeK b off sp cs vs h true true = storeW b sp h (writeAt off vs cs) := rfl
theorem storeC_e0 (n : Option Nat) (b : Pos) (off : Nat) (vs : List AV) (h : Heap) {cs sp} : storeC n b off vs h (some (.cells cs sp)) = storeK b off sp cs vs h (Nat.beq (len vs 0) (cellsN n)) (allCells vs) := rfl
theorem storeV_e0 (n : Option Nat) (v : AV) (h : Heap) {b off} : storeV n v h (.ptr b off) = storeC n b off v.cells h (h.get b) := rfl
theorem nilV_e0 (h : Heap) {b off} : nilV h (.ptr b off) = .ok (.ptr b off) h := rfl
theorem nilV_e1 (h : Heap) {f a b} : nilV h (.fn f a b) = .ok (.fn f a b) h := rfl
theorem nilV_e2 (h : Heap) {l} : nilV h (.yield l) = .ok (.yield l) h := rfl
theorem notV_e0 (h : Heap) {b} : notV h (.bool b) = .ok (.bool b.not) h := rfl
theorem negV_e0 (h : Heap) {k n} : negV h (.int k n) = .ok (.int k (wrapI k (0 - n))) h := rfl
theorem convV_e0 (k : IntKind) (h : Heap) {w7 n} : convV k h (.int w7 n) = .ok (.int k (wrapI k n)) h := rfl
theorem fieldAddrV_e0 (off : Nat) (h : Heap) {b o} : fieldAddrV off h (.ptr b o) = .ok (.ptr b (o + off)) h := rfl
theorem ptrIf_e0 (w : Nat) (b : Pos) (off : Nat) (h : Heap) : ptrIf w b off h true = .ok (.ptr b off) h := rfl
theorem indexArrV_e0 (n size : Nat) (h : Heap) {b o w8 i} : indexArrV n size h (.ptr b o) (.int w8 (.ofNat i)) = ptrIf 66 b (o + i * size) h (Nat.blt i n) := rfl
theorem indexSlV_e0 (size : Nat) (h : Heap) {w9 b o l w10 i} : indexSlV size h (.slice b o l w9) (.int w10 (.ofNat i)) = ptrIf 68 b (o + i * size) h (Nat.blt i l) := rfl
theorem extractV_e0 (i : Nat) (h : Heap) {vs} : extractV i h (.tup vs) = optVal' 80 h (nth vs i) := rfl
theorem intOr_e0 (w : Nat) (h : Heap) {n} : intOr w h (some n) = .ok (.int .i64 (.ofNat n)) h := rfl
theorem minV_e0 (h : Heap) {k a w11 b} : minV h (.int k a) (.int w11 b) = .ok (.int k (bif ltI b a then b else a)) h := rfl
theorem maxV_e0 (h : Heap) {k a w12 b} : maxV h (.int k a) (.int w12 b) = .ok (.int k (bif ltI a b then b else a)) h := rfl
theorem eqAV_e0 (neg : Bool) (h : Heap) {a b} : eqAV neg h (.agg a) (.agg b) = boolV (sameAll a b) neg h := rfl
theorem binV_e0 (h : Heap) {v} : binV h (some v) = .ok v h := rfl
theorem sl1_e0 (size : Nat) (b : Pos) (off l : Nat) (lo hi : Option AV) (h : Heap) {m} : sl1 size b off l lo hi h (some m) = sl2 size b off m lo h (bound hi l m) := rfl
theorem sl2_e0 (size : Nat) (b : Pos) (off m : Nat) (lo : Option AV) (h : Heap) {hi} : sl2 size b off m lo h (some hi) = sl3 size b off m hi h (bound lo 0 hi) := rfl
theorem sl3_e0 (size : Nat) (b : Pos) (off m hi : Nat) (h : Heap) {lo} : sl3 size b off m hi h (some lo) = .ok (.slice b (off + lo * size) (hi - lo) (.c (m - lo))) h := rfl
theorem so1_e0 (size esz : Nat) (b : Pos) (off l : Nat) (lo hi : Option AV) (mx : Bool) (h : Heap) {m} : so1 size esz b off l lo hi mx h (some m) = so2 size esz b off m lo mx h (bound hi l m) := rfl
theorem so2_e0 (size esz : Nat) (b : Pos) (off m : Nat) (lo : Option AV) (mx : Bool) (h : Heap) {hi} : so2 size esz b off m lo mx h (some hi) = so3 size esz b off m hi mx h (bound lo 0 hi) := rfl
theorem sn1_e0 (h : Heap) {w13 w14 w15} : sn1 h (some w13) (some w14) (some w15) = .ok .nilslice h := rfl
theorem sliceV_e0 (size : Nat) (lo hi mx : Option AV) (h : Heap) : sliceV size lo hi mx h .nilslice = sn1 h (bound mx 0 0) (bound hi 0 0) (bound lo 0 0) := rfl
theorem sliceV_e1 (size : Nat) (lo hi mx : Option AV) (h : Heap) {b off l c} : sliceV size lo hi mx h (.slice b off l (.c c)) = sl1 size b off l lo hi h (bound mx c c) := rfl
theorem sliceV_e2 (size : Nat) (lo hi mx : Option AV) (h : Heap) {b off l esz} : sliceV size lo hi mx h (.slice b off l (.o esz)) = so1 size esz b off l lo hi mx.isSome h (bound mx l l) := rfl
theorem appB_e0 (size : Nat) (x : AV) (n : Nat) (new : List AV) (h : Heap) : appB size x n new h true = appendA size x n new h := rfl
theorem appV_e0 (size : Nat) (x : AV) (h : Heap) {n new} : appV size x h (some n) (some new) = appB size x n new h (allCells new) := rfl
theorem cosK_e0 (off k : Nat) {w16 cs} : cosK off k (some (.cells cs w16)) = takeX (dropX cs off) k := rfl
theorem getV_e0 {v} : getV (some v) = v := rfl
theorem getV_e1 : getV none = .undef := rfl
theorem consO_e0 (x : AV) {r} : consO x (some r) = some (x :: r) := rfl
theorem rfCall_e0 (r : Rec) (y : AV) (h : Heap) {f first captured} : rfCall r y h (.fn f first captured) = r.call f (first ++ [y] ++ captured) h := rfl
theorem rfK_e0 (env1 : Env) (l : Pos) {w17 h2} : rfK env1 l (.ok w17 h2) = rfOut env1 l h2 (h2.get l) := rfl
theorem rfOut_e0 (env1 : Env) (l : Pos) (h : Heap) {w18 w19 w20 w21 w22 pending} : rfOut env1 l h (some (.loop .ready pending w18 w19 w20 w21 w22)) = .ok (pending, env1) (h.del l) := rfl
theorem rfOut_e1 (env1 : Env) (l : Pos) (h : Heap) {w23 w24 w25 w26 w27 pending} : rfOut env1 l h (some (.loop .done pending w23 w24 w25 w26 w27)) = .ok (pending, env1) (h.del l) := rfl
theorem rfOut_e2 (env1 : Env) (l : Pos) (h : Heap) {w28 w29 w30 w31 w32 pending} : rfOut env1 l h (some (.loop .exhausted pending w28 w29 w30 w31 w32)) = .ok (pending, env1) (h.del l) := rfl
theorem y1_e0 (r : Rec) (l : Pos) (args : List AV) (h : Heap) {w33 w34 tmps params assign body} : y1 r l args h (some (.loop .ready w33 tmps params assign body w34)) = y2 r l assign body h (setParams params args tmps) := rfl
theorem y2_e0 (r : Rec) (l : Pos) (assign body : ACode) (h : Heap) {tm} : y2 r l assign body h (some tm) = y3 r l body (evalCode r assign ⟨tm, [], some l⟩ h) := rfl
theorem y3_e0 (r : Rec) (l : Pos) (body : ACode) {env h1} : y3 r l body (.ok (.normal, env) h1) = y4 r l body env h1 (h1.get l) := rfl
theorem y4_e0 (r : Rec) (l : Pos) (body : ACode) (env : Env) (h1 : Heap) {q1 t1 p1 a1 b1 d1} : y4 r l body env h1 (some (.loop .ready q1 t1 p1 a1 b1 d1)) = y5 l (evalCode r body env (h1.upd l (.loop .busy q1 t1 p1 a1 b1 d1))) := rfl
theorem y5_e0 (l : Pos) {w35 ex h2} : y5 l (.ok (ex, w35) h2) = y6 l h2 ex (h2.get l) := rfl
theorem y6_e0 (l : Pos) (h2 : Heap) {w36 w37 t2 p2 a2 b2 d2} : y6 l h2 .normal (some (.loop w36 w37 t2 p2 a2 b2 d2)) = .ok (.bool true) (h2.upd l (.loop .ready .normal t2 p2 a2 b2 d2)) := rfl
theorem y6_e1 (l : Pos) (h2 : Heap) {i w38 w39 t2 p2 a2 b2 d2} : y6 l h2 (.exit i) (some (.loop w38 w39 t2 p2 a2 b2 d2)) = .ok (.bool false) (h2.upd l (.loop .done (.exit i) t2 p2 a2 b2 d2)) := rfl
theorem y6_e2 (l : Pos) (h2 : Heap) {w40 w41 t2 p2 a2 b2 d2} : y6 l h2 .ret (some (.loop w40 w41 t2 p2 a2 b2 d2)) = .ok (.bool false) (h2.upd l (.loop .done .ret t2 p2 a2 b2 d2)) := rfl
theorem defC_e0 (r : Rec) (b : Pos) (ds : List ADef) (h : Heap) : defC r b ds h (some .deferred) = evalDefers r ds (h.del b) := rfl
theorem deferK'_e0 (rs : List ARes) (env : PT AV) {w42 h} : deferK' rs env (.ok w42 h) = resOf h (evalResults env h rs) := rfl
theorem resV_e0 (h : Heap) (n : Option Nat) {b off} : resV h n (.ptr b off) = resC n off (h.get b) := rfl
theorem apo_e0 (k : Nat) (p : Pos) (off l e n : Nat) (new : List AV) (h : Heap) {w43 cs} : apo k p off l e n new h (some (.cells cs (some w43))) = apo2 k p off l n cs new h (Nat.beq (off + l * k) (len cs 0)) (Nat.beq e k) (Nat.ble (l + (n + 1)) growMost) := rfl
theorem apo2_e0 (k : Nat) (p : Pos) (off l n : Nat) (cs new : List AV) (h : Heap) : apo2 k p off l n cs new h true true true = .ok (.slice h.next 0 (l + (n + 1)) (.o k)) ((h.del p).new (.cells (dropX cs off ++ new) (some k))) := rfl
theorem apc_e0 (k : Nat) (p : Pos) (off l c n : Nat) (new : List AV) (h : Heap) {cs sp} : apc k p off l c n new h (some (.cells cs sp)) = apc2 k p off l n c cs sp new h (Nat.ble (l + n) c) := rfl
theorem apcW_e0 (p : Pos) (off l n c : Nat) (sp : Option Nat) (h : Heap) {cs'} : apcW p off l n c sp h (some cs') = .ok (.slice p off (l + n) (.c c)) (h.upd p (.cells cs' sp)) := rfl
theorem apc2_e0 (k : Nat) (p : Pos) (off l n c : Nat) (cs : List AV) (sp : Option Nat) (new : List AV) (h : Heap) : apc2 k p off l n c cs sp new h true = apcW p off l n c sp h (writeAt (off + l * k) new cs) := rfl
theorem apc2_e1 (k : Nat) (p : Pos) (off l n c : Nat) (cs : List AV) (sp : Option Nat) (new : List AV) (h : Heap) : apc2 k p off l n c cs sp new h false = apc3 k l n new h (takeX (dropX cs off) (l * k)) (Nat.ble (l + n) growMost) := rfl
theorem apc3_e0 (k l n : Nat) (new : List AV) (h : Heap) {old} : apc3 k l n new h (some old) true = .ok (.slice h.next 0 (l + n) (.o k)) (h.new (.cells (old ++ new) (some k))) := rfl
def ev0 := And.intro @callK_e0 (And.intro @callvV_e0 (And.intro @callvV_e1 (And.intro @set_HE (And.intro @set_H (And.intro @set_OE (And.intro @set_O (And.intro @set_IE (And.intro @set_I (And.intro @get_H (And.intro @get_O (And.intro @get_I (And.intro @PT.y_ge (And.intro @gsb (And.intro @Pos.beq_self (And.intro @c_seq (And.intro @c_region (And.intro @c_drawn (And.intro @c_cond (And.intro @c_ret (And.intro @c_skip (And.intro @c_block (And.intro @c_exit (And.intro @c_scope (And.intro @regY_e0 (And.intro @seqY_e0 (And.intro @condY_e0 (And.intro @condY_e1 (And.intro @drawnY_e0 (And.intro @blockY_e0 (And.intro @blockIf_e0 (And.intro @blockIf_e1 (And.intro @loopY_e0 (And.intro @ops_c (And.intro @ops_nil (And.intro @ops_g (And.intro @guardO_e0 (And.intro @guardO_e1 (And.intro @thenO_e0 (@wantO_e0)))))))))))))))))))))))))))))))))))))))
def ev1 := And.intro @wantO_e1 (And.intro @d_nil (And.intro @d_cons (And.intro @d_v (And.intro @d_a (And.intro @d_e (And.intro @d_r (And.intro @d_g (And.intro @thenD_e0 (And.intro @madeK_e0 (And.intro @wroteK_e0 (And.intro @readK_e0 (And.intro @readOk_e0 (And.intro @rc_0 (And.intro @rc_s (And.intro @recheckK'_e0 (And.intro @recheckK'_e1 (And.intro @op_move (And.intro @op_pick (And.intro @op_alloc (And.intro @op_box (And.intro @op_build (And.intro @op_buildSlice (And.intro @op_load (And.intro @op_store (And.intro @op_nilCheck (And.intro @op_bin (And.intro @op_not (And.intro @op_neg (And.intro @op_conv (And.intro @op_mkfn (And.intro @op_fieldAddr (And.intro @op_field (And.intro @op_indexArr (And.intro @op_indexSl (And.intro @op_extract (And.intro @op_call (And.intro @op_callv (And.intro @op_append (@op_lenSl)))))))))))))))))))))))))))))))))))))))
def ev2 := And.intro @op_lenC (And.intro @op_min (And.intro @op_max (And.intro @op_eqA (And.intro @op_sliceSl (And.intro @pickV_e0 (And.intro @pickV_e1 (And.intro @optAgg_e0 (And.intro @optVal'_e0 (And.intro @sliceOf_e0 (And.intro @loadC_e0 (And.intro @loadV_e0 (And.intro @storeW_e0 (And.intro @storeK_e0 (And.intro @storeC_e0 (And.intro @storeV_e0 (And.intro @nilV_e0 (And.intro @nilV_e1 (And.intro @nilV_e2 (And.intro @notV_e0 (And.intro @negV_e0 (And.intro @convV_e0 (And.intro @fieldAddrV_e0 (And.intro @ptrIf_e0 (And.intro @indexArrV_e0 (And.intro @indexSlV_e0 (And.intro @extractV_e0 (And.intro @intOr_e0 (And.intro @minV_e0 (And.intro @maxV_e0 (And.intro @eqAV_e0 (And.intro @binV_e0 (And.intro @sl1_e0 (And.intro @sl2_e0 (And.intro @sl3_e0 (And.intro @so1_e0 (And.intro @so2_e0 (And.intro @sn1_e0 (And.intro @sliceV_e0 (@sliceV_e1)))))))))))))))))))))))))))))))))))))))
def ev3 := And.intro @sliceV_e2 (And.intro @appB_e0 (And.intro @appV_e0 (And.intro @los_n (And.intro @los_s (And.intro @cos_n (And.intro @cos_s (And.intro @cosK_e0 (And.intro @val_t (And.intro @val_c (And.intro @getV_e0 (And.intro @getV_e1 (And.intro @putV_s (And.intro @putV_n (And.intro @len_n (And.intro @len_c (And.intro @wa_0 (And.intro @wa_s (And.intro @ov_n (And.intro @ov_c (And.intro @nth_0 (And.intro @nth_s (And.intro @take_0 (And.intro @take_s (And.intro @drop_0 (And.intro @drop_s (And.intro @consO_e0 (And.intro @fill_n (And.intro @fill_c (And.intro @bin_eq (And.intro @bin_ne (And.intro @same_ii (And.intro @boolV_some (And.intro @cond_t (And.intro @cond_f (And.intro @not_t (And.intro @not_f (And.intro @bin_add (And.intro @bin_sub (@bin_mul)))))))))))))))))))))))))))))))))))))))
def ev4 := And.intro @bin_rem (And.intro @bin_quo (And.intro @bin_lss (And.intro @bin_leq (And.intro @bin_gtr (And.intro @bin_geq (And.intro @binI_add (And.intro @binI_sub (And.intro @binI_mul (And.intro @binI_lss (And.intro @binI_leq (And.intro @binI_gtr (And.intro @binI_geq (And.intro @binI_rem (And.intro @binI_quo (And.intro @eqKind_self (And.intro @eqI_self (And.intro @eq_nn (And.intro @lt_nn (And.intro @beqN (And.intro @bleN (And.intro @bltN (And.intro @dlt (And.intro @dge (And.intro @dle (And.intro @dgt (And.intro @deq (And.intro @dne (And.intro @add_nn (And.intro @sub_nn (And.intro @mul_nn (And.intro @wrap64 (And.intro @wrap8 (And.intro @c_rangeFunc (And.intro @rfCall_e0 (And.intro @rfK_e0 (And.intro @rfOut_e0 (And.intro @rfOut_e1 (And.intro @rfOut_e2 (@yield_eq)))))))))))))))))))))))))))))))))))))))
def ev5 := And.intro @y1_e0 (And.intro @y2_e0 (And.intro @y3_e0 (And.intro @y4_e0 (And.intro @y5_e0 (And.intro @y6_e0 (And.intro @y6_e1 (And.intro @y6_e2 (And.intro @setP_n (And.intro @setP_c (And.intro @def_c (And.intro @def_n (And.intro @defC_e0 (And.intro @deferK'_e0 (And.intro @ress_cons (And.intro @ress_nil (And.intro @res_tmp (And.intro @res_cell (And.intro @resV_e0 (And.intro @get_upd_same (And.intro @get_upd (And.intro @get_new_same (And.intro @get_new (And.intro @get_del (And.intro @next_upd (And.intro @next_new (And.intro @next_del (And.intro @get_t (And.intro @app_nil (And.intro @app_nil0 (And.intro @app_sl_o (And.intro @app_sl_c (And.intro @apo_e0 (And.intro @apo2_e0 (And.intro @apc_e0 (And.intro @apcW_e0 (And.intro @apc2_e0 (And.intro @apc2_e1 (And.intro @apc3_e0 (@upd_upd)))))))))))))))))))))))))))))))))))))))
def ev6 := And.intro @new_upd (And.intro @new_upd_eq (And.intro @get_new_eq (And.intro @Nat.add_zero (And.intro @Nat.zero_add (And.intro @Nat.sub_zero (And.intro @Nat.add_sub_cancel (And.intro @Option.isSome_none.{0} (And.intro @Option.isSome_some.{0} (And.intro @decide_true (And.intro @decide_false (And.intro @Nat.mul_one (And.intro @Nat.one_mul (And.intro @List.cons_append.{0} (And.intro @List.nil_append.{0} (And.intro @List.append_nil.{0} (And.intro @Bool.not_true (And.intro @Bool.not_false (And.intro @stepW_t (And.intro @stepW_e (And.intro @stepW_v (And.intro @stepW_a (And.intro @stepW_i (And.intro @stepW_r (And.intro @so3_t (And.intro @so3_f (And.intro @fieldV_n (And.intro @fieldV_s (And.intro @loadN_n (And.intro @loadN_s (And.intro @aggO_s (And.intro @resC_n (And.intro @resC_s (And.intro @resL_s (And.intro @sa_n (And.intro @sa_c (And.intro @vals_n (And.intro @vals_c (And.intro @cl_agg (@cl_int)))))))))))))))))))))))))))))))))))))))
def ev7 := And.intro @cl_bool (And.intro @cl_str (And.intro @cl_ptr (And.intro @cl_nilptr (And.intro @cl_slice (And.intro @cl_nilslice (And.intro @cl_map (And.intro @cl_nilmap (And.intro @cl_fn (And.intro @cl_nilfn (And.intro @cl_yield (And.intro @cn_n (And.intro @cn_s (And.intro @ac_n (And.intro @acB_t (And.intro @ac_c (And.intro @ic_int (And.intro @ic_bool (And.intro @ic_str (And.intro @ic_ptr (And.intro @ic_nilptr (And.intro @ic_slice (And.intro @ic_nilslice (And.intro @ic_map (And.intro @ic_nilmap (And.intro @ic_fn (And.intro @ic_nilfn (And.intro @ic_yield (And.intro @bd_n (And.intro @bd_s (And.intro @ov_none (And.intro @ov_some (And.intro @sm_bool (And.intro @sm_ptr1 (And.intro @sm_ptr2 (And.intro @sm_ptr3 (And.intro @sm_sl1 (And.intro @sm_sl2 (And.intro @sm_fn1 (@sm_fn2)))))))))))))))))))))))))))))))))))))))
def ev8 := And.intro @sm_fn3 (And.intro @sm_map1 (And.intro @sm_map2 (And.intro @eb_tt (And.intro @eb_ff (And.intro @eb_tf (And.intro @eb_ft (And.intro @eb_self (And.intro @bq_int (And.intro @bq_bool (And.intro @bq_ptr (And.intro @bq_nilptr (And.intro @bq_nilslice (And.intro @bq_slo (And.intro @bq_slc (And.intro @bq_map (And.intro @bq_nilmap (And.intro @bqs_n (And.intro @bq_agg (And.intro @bqs_c (And.intro @seq_x (And.intro @seq_r (And.intro @blk_n (And.intro @blk_r (And.intro @lp_x (And.intro @lp_r (And.intro @fillC_s (And.intro @fillB_t (And.intro @fv_int (And.intro @fv_bool (And.intro @fv_str (And.intro @fv_ptr (And.intro @fv_nilptr (And.intro @fv_sl (And.intro @fv_nilsl (And.intro @fv_map (And.intro @fv_fn (And.intro @fv_agg (And.intro @bx_int (@bx_bool)))))))))))))))))))))))))))))))))))))))
def ev9 := And.intro @bx_str (And.intro @bx_ptr (And.intro @bx_nilptr (And.intro @bx_sl (And.intro @bx_nilsl (And.intro @bx_map (And.intro @bx_nilmap (And.intro @bx_fn (And.intro @bx_yield (And.intro @bx_agg (And.intro @bk_r (And.intro @bk_n (And.intro @ro_1 (And.intro @ro_0 (And.intro @ro_2 (And.intro @gm (And.intro @ps_H (And.intro @ps_O (And.intro @ps_I (And.intro @pb_HH (And.intro @pb_HO (And.intro @pb_HI (And.intro @pb_OH (And.intro @pb_IH (And.intro @pb_OI (And.intro @pb_IO (And.intro @pb_OO (@pb_II)))))))))))))))))))))))))))
def ev := And.intro ev0 (And.intro ev1 (And.intro ev2 (And.intro ev3 (And.intro ev4 (And.intro ev5 (And.intro ev6 (And.intro ev7 (And.intro ev8 (ev9)))))))))
end Go.Am

