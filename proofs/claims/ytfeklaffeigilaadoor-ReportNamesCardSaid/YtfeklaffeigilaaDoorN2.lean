/- Several texts in one. No condition. -/
import Derived.Test.YtfeklaffeigilaaDoorProg
import Derived.Test.YtfeklaffeigilaaDoorTU
import Derived.Shelf.Strings.OnBuilder
import Derived.Shelf.Strconv.Itoa3
import Derived.Test.YtfeklaffeigilaaDoorTy
import Derived.Test.YtfeklaffeigilaaDoorTV
import Derived.Test.YtfeklaffeigilaaDoorSo
namespace Go.Proofs.YtfeklaffeigilaaDoor
open Go.Shelf Go.RowKit
set_option linter.unusedVariables false
set_option linter.unusedSimpArgs false
def bu_r:Go.Shelf.Ren:=⟨fun | 156=>33 | 165=>57 | 166=>32 | 169=>34 | 240=>56 | 241=>72 | 276=>71 | 277=>91 | n=>n,fun | 31=>72 | 37=>69 | 70=>68 | 72=>71 | 75=>76 | 76=>77 | 80=>81 | 127=>111 | 164=>127 | n=>n,fun n=>n⟩
theorem bu_l:Lays.n156 Tryd.prog bu_r:={
 mixed:=by kernel_rfl,
 f156:=Tryd.func33.trans (congrArg some (by kernel_rfl)),
 f165:=Tryd.func57.trans (congrArg some (by kernel_rfl)),
 f166:=Tryd.func32.trans (congrArg some (by kernel_rfl)),
 f169:=Tryd.func34.trans (congrArg some (by kernel_rfl)),
 f240:=Tryd.func56.trans (congrArg some (by kernel_rfl)),
 f241:=Tryd.func72.trans (congrArg some (by kernel_rfl)),
 f276:=Tryd.func71.trans (congrArg some (by kernel_rfl)),
 f277:=Tryd.func91.trans (congrArg some (by kernel_rfl)),
 t0:=Tryd.underlying0,
 a0:=Tryd.isAgg0,
 z0:=Tryd.sizeOf0,
 v0:=Tryd.zeroValue0,
 t3:=Tryd.underlying3,
 a3:=Tryd.isAgg3,
 z3:=Tryd.sizeOf3,
 v3:=Tryd.zeroValue3,
 t4:=Tryd.underlying4,
 a4:=Tryd.isAgg4,
 z4:=Tryd.sizeOf4,
 v4:=Tryd.zeroValue4,
 t9:=Tryd.underlying9,
 a9:=Tryd.isAgg9,
 z9:=Tryd.sizeOf9,
 v9:=Tryd.zeroValue9,
 t20:=Tryd.underlying20,
 a20:=Tryd.isAgg20,
 z20:=Tryd.sizeOf20,
 v20:=Tryd.zeroValue20,
 t31:=Tryd.underlying72,
 a31:=Tryd.isAgg72,
 z31:=Tryd.sizeOf72,
 v31:=Tryd.zeroValue72,
 t37:=Tryd.underlying69,
 a37:=Tryd.isAgg69,
 z37:=Tryd.sizeOf69,
 v37:=Tryd.zeroValue69,
 t70:=Tryd.underlying68,
 a70:=Tryd.isAgg68,
 z70:=Tryd.sizeOf68,
 v70:=Tryd.zeroValue68,
 t72:=Tryd.underlying71,
 a72:=Tryd.isAgg71,
 z72:=Tryd.sizeOf71,
 v72:=Tryd.zeroValue71,
 t75:=Tryd.underlying76,
 a75:=Tryd.isAgg76,
 z75:=Tryd.sizeOf76,
 v75:=Tryd.zeroValue76,
 t76:=Tryd.underlying77,
 a76:=Tryd.isAgg77,
 z76:=Tryd.sizeOf77,
 v76:=Tryd.zeroValue77,
 t127:=Tryd.underlying111,
 a127:=Tryd.isAgg111,
 z127:=Tryd.sizeOf111,
 v127:=Tryd.zeroValue111,
 t164:=Tryd.underlying127,
 a164:=Tryd.isAgg127,
 z164:=Tryd.sizeOf127,
 v164:=Tryd.zeroValue127 }
def it_r:Go.Shelf.Ren:=⟨fun | 129=>103 | 171=>31 | 243=>55 | 246=>70 | 283=>87 | 284=>88 | 285=>89 | 286=>90 | 317=>107 | 318=>108 | 319=>109 | 320=>110 | 337=>116 | 338=>117 | n=>n,fun | 37=>69 | 46=>135 | 51=>160 | 53=>143 | 171=>142 | 173=>146 | 212=>162 | 213=>163 | 232=>173 | 233=>174 | n=>n,fun | 17=>0 | 18=>2 | 19=>3 | n=>n⟩
theorem it_l:LaysM.n171 Tryd.prog it_r:={
 mixed:=by kernel_rfl,
 f129:=Tryd.func103.trans (congrArg some (by kernel_rfl)),
 f171:=Tryd.func31.trans (congrArg some (by kernel_rfl)),
 f243:=Tryd.func55.trans (congrArg some (by kernel_rfl)),
 f246:=Tryd.func70.trans (congrArg some (by kernel_rfl)),
 f283:=Tryd.func87.trans (congrArg some (by kernel_rfl)),
 f284:=Tryd.func88.trans (congrArg some (by kernel_rfl)),
 f285:=Tryd.func89.trans (congrArg some (by kernel_rfl)),
 f286:=Tryd.func90.trans (congrArg some (by kernel_rfl)),
 f317:=Tryd.func107.trans (congrArg some (by kernel_rfl)),
 f318:=Tryd.func108.trans (congrArg some (by kernel_rfl)),
 f319:=Tryd.func109.trans (congrArg some (by kernel_rfl)),
 f320:=Tryd.func110.trans (congrArg some (by kernel_rfl)),
 f337:=Tryd.func116.trans (congrArg some (by kernel_rfl)),
 f338:=Tryd.func117.trans (congrArg some (by kernel_rfl)),
 t0:=Tryd.underlying0,
 a0:=Tryd.isAgg0,
 z0:=Tryd.sizeOf0,
 v0:=Tryd.zeroValue0,
 t2:=Tryd.underlying2,
 a2:=Tryd.isAgg2,
 z2:=Tryd.sizeOf2,
 v2:=Tryd.zeroValue2,
 t3:=Tryd.underlying3,
 a3:=Tryd.isAgg3,
 z3:=Tryd.sizeOf3,
 v3:=Tryd.zeroValue3,
 t4:=Tryd.underlying4,
 a4:=Tryd.isAgg4,
 z4:=Tryd.sizeOf4,
 v4:=Tryd.zeroValue4,
 t5:=Tryd.underlying5,
 a5:=Tryd.isAgg5,
 z5:=Tryd.sizeOf5,
 v5:=Tryd.zeroValue5,
 t9:=Tryd.underlying9,
 a9:=Tryd.isAgg9,
 z9:=Tryd.sizeOf9,
 v9:=Tryd.zeroValue9,
 t20:=Tryd.underlying20,
 a20:=Tryd.isAgg20,
 z20:=Tryd.sizeOf20,
 v20:=Tryd.zeroValue20,
 t37:=Tryd.underlying69,
 a37:=Tryd.isAgg69,
 z37:=Tryd.sizeOf69,
 v37:=Tryd.zeroValue69,
 t46:=Tryd.underlying135,
 a46:=Tryd.isAgg135,
 z46:=Tryd.sizeOf135,
 v46:=Tryd.zeroValue135,
 t51:=Tryd.underlying160,
 a51:=Tryd.isAgg160,
 z51:=Tryd.sizeOf160,
 v51:=Tryd.zeroValue160,
 t53:=Tryd.underlying143,
 a53:=Tryd.isAgg143,
 z53:=Tryd.sizeOf143,
 v53:=Tryd.zeroValue143,
 t171:=Tryd.underlying142,
 a171:=Tryd.isAgg142,
 z171:=Tryd.sizeOf142,
 v171:=Tryd.zeroValue142,
 t173:=Tryd.underlying146,
 a173:=Tryd.isAgg146,
 z173:=Tryd.sizeOf146,
 v173:=Tryd.zeroValue146,
 t212:=Tryd.underlying162,
 a212:=Tryd.isAgg162,
 z212:=Tryd.sizeOf162,
 v212:=Tryd.zeroValue162,
 t213:=Tryd.underlying163,
 a213:=Tryd.isAgg163,
 z213:=Tryd.sizeOf163,
 t232:=Tryd.underlying173,
 a232:=Tryd.isAgg173,
 z232:=Tryd.sizeOf173,
 v232:=Tryd.zeroValue173,
 t233:=Tryd.underlying174,
 a233:=Tryd.isAgg174,
 z233:=Tryd.sizeOf174,
 v233:=Tryd.zeroValue174,
 g17:=by kernel_rfl,
 g18:=by kernel_rfl,
 g19:=by kernel_rfl,
 i0:=by kernel_rfl,
 i2:=by kernel_rfl,
 i3:=by kernel_rfl,
 i4:=by kernel_rfl,
 i5:=by kernel_rfl,
 i9:=by kernel_rfl,
 i20:=by kernel_rfl,
 i37:=by kernel_rfl,
 i46:=by kernel_rfl,
 i51:=by kernel_rfl,
 i53:=by kernel_rfl,
 i171:=by kernel_rfl,
 i173:=by kernel_rfl,
 i212:=by kernel_rfl,
 i232:=by kernel_rfl,
 i233:=by kernel_rfl,
 m17:=by kernel_rfl,
 m18:=by kernel_rfl,
 m19:=by kernel_rfl }
theorem bu_x:Builder.Extra Tryd.prog bu_r:={
 sizeBuilder:=by kernel_rfl,
 liesBuilder:=by kernel_rfl,
 t5:=Tryd.underlying5,
 a5:=Tryd.isAgg5,
 z5:=Tryd.sizeOf5,
 v5:=Tryd.zeroValue5,
 infoByte:=by kernel_rfl,
 cellsByte:=by kernel_rfl,
 sizeByte:=by kernel_rfl,
 neB5:=by decide }
abbrev ptrB(b:Nat):Value:=.pointer (some ⟨b,0,none⟩)
section
variable {P:Program} {ρ:Go.Shelf.Ren} {w w':World}
theorem wpl_app{ops:Array Oper}{rest:List Oper}{o:Oper}{a:Act}{Q:Exit→Act→World→Prop}(hgd:o.guard=none)(sl x:Operand)(t u:TypeId)
  (ho:o.op = .call { callee:=.builtin .append,args:=#[sl,x],argTypes:=#[t,u] }) {v v':Value} {s:ByteArray} (hs:a.eval sl=v) (hx:a.eval x = .string s)
  (hr:(Builtin.append_ #[t,u] o.type #[v,.string s]).run P w = .ok v' w') (h:wpList P ops Q rest (a.put o.dst v') w'):wpList P ops Q (o::rest) a w:=by
 refine wpList_plain hgd fun K hK=>?_;unfold Oper.wp execOp;simp only [ho,resolve,invoke,builtin,Sem.run_bind,Sem.run_pure,Result.andThen_ok,List.map_toArray,List.map_cons,List.map_nil,hs,hx,hr];exact hK _ _ h
set_option maxHeartbeats 2000000 in
set_option maxRecDepth 100000 in
theorem ws_run(L:Lays.n166 P ρ)(X:Builder.Extra P ρ)(b:Nat)(s:ByteArray)(w w1 w2:World)(v:Value)(A:Option Addr)(n c:Nat)
  (hcc:Calls P (ρ.f 240) #[ptrB b] w fun e w'=>e = .returned (.tuple #[])∧w'=w1)
  (hb1:w1.heap[b]?=some (.cells #[ptrB b,v] (ρ.t 72) (0,0)))
  (hr:∀ty,(Builtin.append_ #[ρ.t 37,ρ.t 9] ty #[v,.string s]).run P w1 = .ok (.slice A n c) w2)
  (hb2:w2.heap[b]?=some (.cells #[ptrB b,v] (ρ.t 72) (0,0))) :
  Calls P (ρ.f 166) #[ptrB b,.string s] w fun e w'=>e = .returned (.tuple #[.int .i64 s.size,.nilIface])∧w'=w2.setCell ⟨b,1,none⟩ (.slice A n c):=by
 have mixed:=L.mixed;have t72:=L.t72; have a72:=L.a72; have z72:=L.z72; have v72:=L.v72; have u72:=run_underlying L.t72;have t70:=L.t70; have a70:=L.a70; have z70:=L.z70; have v70:=L.v70; have u70:=run_underlying L.t70;have t37:=L.t37; have a37:=L.a37; have z37:=L.z37; have v37:=L.v37; have u37:=run_underlying L.t37;have t3:=L.t3; have a3:=L.a3; have z3:=L.z3; have v3:=L.v3; have u3:=run_underlying L.t3;have t9:=L.t9; have a9:=L.a9; have z9:=L.z9; have v9:=L.v9; have u9:=run_underlying L.t9;have t4:=L.t4; have a4:=L.a4; have z4:=L.z4; have v4:=L.v4; have u4:=run_underlying L.t4;have t5:=X.t5; have a5:=X.a5; have z5:=X.z5; have v5:=X.v5; have u5:=run_underlying X.t5;have e240:∀args w,(callFunc (ρ.f 240) args).run P w = .ok (.enter (ρ.f 240) args) w:=Qca L.f240 (by kernel_rfl) rfl;have c0:w1.cell? ⟨b,0,none⟩=some (ptrB b):=by rw [Lib.cell_of_heap hb1]; rfl
 have c1:w1.cell? ⟨b,1,none⟩=some v:=by rw [Lib.cell_of_heap hb1]; rfl
 have d0:w2.cell? ⟨b,0,none⟩=some (ptrB b):=by rw [Lib.cell_of_heap hb2]; rfl
 have d1:w2.cell? ⟨b,1,none⟩=some v:=by rw [Lib.cell_of_heap hb2]; rfl
 have f1:w2.frozen? ⟨b,1,none⟩=false:=Lib.frozen_of_heap hb2 1;have HR:Hid (∀ty,(Builtin.append_ #[ρ.t 37,ρ.t 9] ty #[v,.string s]).run P w1 = .ok (.slice A n c) w2):=hr
 clear hr
 go_enter L.f166,Body.n166_ntmps ρ
 go_wp2_with (go_at_fn (ρ.f 240); refine hcc.mono ?_)
 rintro e w' ⟨rfl,rfl⟩
 go_wp2_with (at_builtin; refine wpl_app rfl _ _ (ρ.t 37) (ρ.t 9) rfl rfl rfl (HR.out _) ?_)
 go_wp2
 go_ret2
 exact ⟨rfl,rfl⟩
end
section
variable {P:Program} {ρ:Go.Shelf.Ren} {w w':World}
set_option maxHeartbeats 1000000 in
set_option maxRecDepth 100000 in
theorem str_run(L:Lays.n169 P ρ)(X:Builder.Extra P ρ)(b g cap:Nat)(p:Value)(cur:Array Value)(l:List UInt8)(w:World)(h0:l≠[])
  (hb:w.heap[b]?=some (.cells #[p,.slice (some ⟨g,0,none⟩) l.length cap] (ρ.t 72) (0,0))) (hg:w.heap[g]?=some (.cells cur (ρ.t 5) (0,0)))
  (hnc:l.length≤cap) (hcm:cap≤maxLen) (hcs:cur.size=cap) (htake:cur.toList.take l.length=Lib.byteCells l) :
  Calls P (ρ.f 169) #[ptrB b] w fun e w'=>e = .returned (.string ⟨l.toArray⟩)∧w'=w.drew.freeze ⟨g,0,none⟩ l.length:=by
 have hl0:l.length≠0:=by simpa using h0
 have c1:w.drew.cell? ⟨b,1,none⟩=some (.slice (some ⟨g,0,none⟩) l.length cap):=by
  have:w.drew.heap[b]?=some (.cells #[p,.slice (some ⟨g,0,none⟩) l.length cap] (ρ.t 72) (0,0)):=hb;rw [Lib.cell_of_heap this]; rfl
 have hSD:(Builtin.unsafeSliceData_ #[(ρ.t 37)] (ρ.t 127) #[.slice (some ⟨g,0,none⟩) l.length cap]).run P w.drew = .ok (.pointer (some ⟨g,0,none⟩)) w.drew :=
  Lib.run_unsafeSliceData_row _ _ _ _ _ _ (by omega)
 have hUS:(Builtin.unsafeString_ #[(ρ.t 127),(ρ.t 3)] (ρ.t 9) #[.pointer (some ⟨g,0,none⟩),.int .i64 l.length]).run P w.drew = .ok (.string ⟨l.toArray⟩) (w.drew.freeze ⟨g,0,none⟩ l.length):=by
  have hg':w.drew.heap[g]?=some (.cells cur (ρ.t 5) (0,0)):=hg;refine Lib.run_unsafeString_row w.drew (ρ.t 127) (ρ.t 3) (ρ.t 9) (ρ.t 5) L.t127 X.cellsByte g cur.size (by simp [World.shape?,hg']) l h0 (by omega) (by unfold maxLen at hcm; omega) ?_;intro j x hx;have e:(⟨g,0,none⟩:Addr).add j=⟨g,j,none⟩:=by unfold Addr.add; split<;>simp_all
  rw [e,Lib.cell_of_heap hg',←Array.getElem?_toList];have h1:(Lib.byteCells l)[j]?=some (.int .u8 x.toNat):=by simp [Lib.byteCells,hx]
  rw [←htake,List.getElem?_take] at h1
  split at h1
  ·exact h1
  ·cases h1
 have mixed:=L.mixed;have t72:=L.t72; have a72:=L.a72; have z72:=L.z72; have v72:=L.v72; have u72:=run_underlying L.t72;have t70:=L.t70; have a70:=L.a70; have z70:=L.z70; have v70:=L.v70; have u70:=run_underlying L.t70;have t37:=L.t37; have a37:=L.a37; have z37:=L.z37; have v37:=L.v37; have u37:=run_underlying L.t37;have t127:=L.t127; have a127:=L.a127; have z127:=L.z127; have v127:=L.v127; have u127:=run_underlying L.t127;have t3:=L.t3; have a3:=L.a3; have z3:=L.z3; have v3:=L.v3; have u3:=run_underlying L.t3;have t9:=L.t9; have a9:=L.a9; have z9:=L.z9; have v9:=L.v9; have u9:=run_underlying L.t9;have t5:=X.t5; have a5:=X.a5; have z5:=X.z5; have v5:=X.v5; have u5:=run_underlying X.t5
 go_enter L.f169,Body.n169_ntmps ρ
 go_wp2
 go_region_o
 all_goals (go_wp2; go_ret; exact ⟨rfl,rfl⟩)
set_option maxHeartbeats 2000000 in
set_option maxRecDepth 1000000 in
theorem grow_run(L:Lays.n241 P ρ)(X:Builder.Extra P ρ)(b n:Nat)(w:World) (hbk:w.heap[b]?=some (.cells #[ptrB b,.slice none 0 0] (ρ.t 72) (0,0))) (hn:n≤281474976710656) :
  Calls P (ρ.f 241) #[ptrB b,.int .i64 n] w fun e w'=>e = .returned (.tuple #[])∧∃(cs:Array Value) (k:Nat),n≤cs.size∧cs.size≤maxLen∧w'=((w.setCell ⟨b,1,none⟩ (.slice (some ⟨w.heap.size,0,none⟩) 0 cs.size)).alloc (.cells cs (ρ.t 5))).drewN k:=by
 obtain ⟨cs,hrun,hle,hmax⟩:=Lib.run_makeNoZero (P:=P) w.drew #[(ρ.t 3)] (ρ.t 37) (ρ.t 5) L.t37 n hn;have hw:IntKind.i64.wrap (IntKind.i64.wrap 0+(n:Int))=n:=by
  rw [IntKind.wrap_i64,IntKind.wrap_i64];omega
 have hcall:(callFunc (ρ.f 277) #[.int .i64 (IntKind.i64.wrap (IntKind.i64.wrap 0+(n:Int)))]).run P w.drew = .ok (.value (.slice (some ⟨w.drew.heap.size,0,none⟩) n cs.size)) (w.drew.drew.drew.alloc (.cells cs (ρ.t 5))):=by
  rw [hw,run_callFunc_extern L.f277 (by kernel_rfl) (by kernel_rfl) (by kernel_rfl) (e:=Extern.BytealgMakeNoZero.makeNoZero #[(ρ.t 3)] #[(ρ.t 37)]) (by kernel_rfl),hrun];rfl
 have hlt:b<w.heap.size:=(Array.getElem?_eq_some_iff.1 hbk).1;have c1:w.drew.cell? ⟨b,1,none⟩=some (.slice none 0 0):=by
  have:w.drew.heap[b]?=_:=hbk;rw [Lib.cell_of_heap this]; rfl
 have c2:(w.alloc (.cells cs (ρ.t 5))).cell? ⟨b,1,none⟩=some (.slice none 0 0):=by
  have:(w.alloc (.cells cs (ρ.t 5))).heap[b]?=_:=(Lib.alloc_old w _ b hlt).trans hbk;rw [Lib.cell_of_heap this]; rfl
 have f2:(w.alloc (.cells cs (ρ.t 5))).frozen? ⟨b,1,none⟩=false:=Lib.frozen_of_heap ((Lib.alloc_old w _ b hlt).trans hbk) 1;have hcopy:∀W:World,(Builtin.copy_ #[(ρ.t 37),(ρ.t 37)] (ρ.t 3) #[.slice (some ⟨w.heap.size,0,none⟩) 0 cs.size,.slice none 0 0]).run P W = .ok (goInt 0) W :=
  fun W=>run_copy_none W (ρ.t 37) (ρ.t 37) (ρ.t 3) (ρ.t 5) _ _ 0 cs.size 0 0 L.t37 X.sizeByte rfl
 clear hw
 have hsz:cs.size≤maxLen:=hmax (by unfold maxLen; omega);have mixed:=L.mixed;have t72:=L.t72; have a72:=L.a72; have z72:=L.z72; have v72:=L.v72; have u72:=run_underlying L.t72;have t70:=L.t70; have a70:=L.a70; have z70:=L.z70; have v70:=L.v70; have u70:=run_underlying L.t70;have t37:=L.t37; have a37:=L.a37; have z37:=L.z37; have v37:=L.v37; have u37:=run_underlying L.t37;have t3:=L.t3; have a3:=L.a3; have z3:=L.z3; have v3:=L.v3; have u3:=run_underlying L.t3;have t5:=X.t5; have a5:=X.a5; have z5:=X.z5; have v5:=X.v5; have u5:=run_underlying X.t5;have HF:Hid (n≤cs.size∧cs.size≤maxLen):=⟨hle,hsz⟩
 clear hle hsz hmax
 go_enter L.f241,Body.n241_ntmps ρ
 go_wp2
 go_region_o
 all_goals (go_wp2; go_end0; exact ⟨rfl,cs,3,HF.out.1,HF.out.2,rfl⟩)
set_option maxHeartbeats 2000000 in
set_option maxRecDepth 1000000 in
theorem Grow_run(L:Lays.n165 P ρ)(X:Builder.Extra P ρ)(b n:Nat)(w:World) (hbk:w.heap[b]?=some (.cells #[.pointer none,.slice none 0 0] (ρ.t 72) (0,0))) (h0:0<n) (hn:n≤281474976710656) :
  Calls P (ρ.f 165) #[ptrB b,.int .i64 n] w fun e w'=>e = .returned (.tuple #[])∧∃(cs:Array Value) (k:Nat),n≤cs.size∧cs.size≤maxLen∧w'=(((w.setCell ⟨b,0,none⟩ (ptrB b)).setCell ⟨b,1,none⟩ (.slice (some ⟨w.heap.size,0,none⟩) 0 cs.size)).alloc (.cells cs (ρ.t 5))).drewN k:=by
 have hbk1:(w.setCell ⟨b,0,none⟩ (ptrB b)).heap[b]?=some (.cells #[ptrB b,.slice none 0 0] (ρ.t 72) (0,0)):=by
  simp [World.setCell,Array.getElem?_modify,hbk]
 have c1:(w.setCell ⟨b,0,none⟩ (ptrB b)).cell? ⟨b,1,none⟩=some (.slice none 0 0):=by rw [Lib.cell_of_heap hbk1]; rfl
 have mixed:=L.mixed;have t72:=L.t72; have a72:=L.a72; have z72:=L.z72; have v72:=L.v72; have u72:=run_underlying L.t72;have t70:=L.t70; have a70:=L.a70; have z70:=L.z70; have v70:=L.v70; have u70:=run_underlying L.t70;have t37:=L.t37; have a37:=L.a37; have z37:=L.z37; have v37:=L.v37; have u37:=run_underlying L.t37;have t3:=L.t3; have a3:=L.a3; have z3:=L.z3; have v3:=L.v3; have u3:=run_underlying L.t3;have t9:=L.t9; have a9:=L.a9; have z9:=L.z9; have v9:=L.v9; have u9:=run_underlying L.t9;have t4:=L.t4; have a4:=L.a4; have z4:=L.z4; have v4:=L.v4; have u4:=run_underlying L.t4;have t5:=X.t5; have a5:=X.a5; have z5:=X.z5; have v5:=X.v5; have u5:=run_underlying X.t5;have e240:∀args w,(callFunc (ρ.f 240) args).run P w = .ok (.enter (ρ.f 240) args) w:=Qca L.f240 (by kernel_rfl) rfl
 have e241:∀args w,(callFunc (ρ.f 241) args).run P w = .ok (.enter (ρ.f 241) args) w:=Qca L.f241 (by kernel_rfl) rfl;have hg2:=grow_run (P:=P) { L with } X b n (w.setCell ⟨b,0,none⟩ (ptrB b)).drew hbk1 hn
 go_enter L.f165,Body.n165_ntmps ρ
 have c1':(w.setCell ⟨b,0,none⟩ (ptrB b)).drew.cell? ⟨b,1,none⟩=some (.slice none 0 0):=c1
 go_wp2_with (go_at_fn (ρ.f 240); refine (Any.Builder_copyCheck_fresh { L with } X.toX72 b w (by rw [Lib.cell_of_heap hbk]; rfl) (by simp [World.shape?,hbk]) (Lib.frozen_of_heap hbk 0)).mono ?_; rintro e w' ⟨rfl,rfl⟩)
 go_region_o
 all_goals go_wp2_with (go_at_fn (ρ.f 241); refine hg2.mono ?_; rintro e w' ⟨rfl,cs,k,h1,h2,rfl⟩)
 all_goals first
  | (go_end0; exact ⟨rfl,cs,1+k,h1,h2,rfl⟩)
  | (exfalso; omega)
end
end Go.Proofs.YtfeklaffeigilaaDoor
namespace Go.Proofs.YtfeklaffeigilaaDoor
open Go.Shelf Go.RowKit
set_option linter.unusedVariables false
set_option linter.unusedSimpArgs false
section
variable {X:Nat→Prop} {φ:Phi} {w:World}
abbrev bxN:Ob:=.box 71 [.pl .nilp,.pl (.sl .nil 0 [])]
abbrev bxU(o:Nat):Ob:=.box 71 [.bp 0 0,.own o]
theorem bu_open{H:Hp}{a p:AV}(hH:HR X φ H w)(h:hget H 0=some (.box 71 [p,a])):∃l b u0 u1,φ 0 = .at false l∧l.A=some (b,0)∧w.heap[b]?=some (.cells #[u0,u1] 71 (0,0))∧VR w (YOf X φ) φ p u0∧oneA p=true∧VR w (YOf X φ) φ a u1∧oneA a=true:=by
 obtain ⟨z,l,hl,hO⟩:=hH.ob 0 _ h;simp only [OR] at hO;obtain ⟨rfl,b,cs,hA,hg,hv⟩:=hO;simp only [VRL] at hv;obtain ⟨u0,_,rfl,h1,h2,u1,_,rfl,h3,h4,rfl⟩:=hv;exact ⟨l,b,u0,u1,hl,hA,hg,h2,h1,h4,h3⟩
theorem bu_ptr{l:Loc}{b:Nat}{v:Value}(hl:φ 0 = .at false l)(hA:l.A=some (b,0))(h:VR w (YOf X φ) φ (.bp 0 0) v):v=ptrB b:=by
 simp only [VR] at h;obtain ⟨b',hA',rfl⟩:=h.2.2 _ l hl;rw [hA] at hA'; cases hA'; rfl
theorem vr_ptr{w':World}{Y:Nat→Prop}{φ':Phi}{l:Loc}{b:Nat}(hl:φ' 0 = .at false l)(hA:l.A=some (b,0)):VR w' Y φ' (.bp 0 0) (ptrB b):=by
 simp only [VR];exact ⟨rfl,(by rw [hl]; intro h; cases h),fun z l' h'=>by rw [hl] at h'; cases h'; exact ⟨b,hA,rfl⟩⟩
theorem vr_own{w':World}{Y:Nat→Prop}{φ':Phi}{o:Nat}{l:Loc}(hl:φ' o = .at false l):VR w' Y φ' (.own o) (.slice (l.addr 0) l.n l.c):=by
 simp only [VR];exact ⟨rfl,(by rw [hl]; intro h; cases h),fun z l' h'=>by rw [hl] at h'; cases h'; rfl⟩
theorem set_heap{w:World}{b i:Nat}{v:Value}{cs:Array Value}{t:TypeId}{fz:Nat×Nat}(hg:w.heap[b]?=some (.cells cs t fz)):(w.setCell ⟨b,i,none⟩ v).heap[b]?=some (.cells (cs.setIfInBounds i v) t fz):=by
 simp [World.setCell,Array.getElem?_modify,hg]
theorem Qcn{w:World}{b k i:Nat}{v:Value}(h:k≠b):(w.setCell ⟨b,i,none⟩ v).heap[k]?=w.heap[k]?:=by
 simp [World.setCell,Array.getElem?_modify,Ne.symm h]
theorem set_size{w:World}{a:Addr}{v:Value} : (w.setCell a v).heap.size=w.heap.size:=by simp [World.setCell]
theorem bu_new{s:ByteArray}{arr:Array Value}{W:World}{l:Loc}{b:Nat}(hH:HR X φ [some bxN] w)(hl:φ 0 = .at false l)(hA:l.A=some (b,0))(hb:b<w.heap.size)
  (h1:s.size≤arr.size) (h2:arr.size≤maxLen) (h4:arr.toList.take s.size=s.data.toList.map fun b=>Value.int .u8 b.toNat)
  (w1:W.os=w.os) (w2:W.tape=w.tape) (w3:W.output=w.output) (w4:w.drawn≤W.drawn) (w5:w.heap.size<W.heap.size) (w6:∀k,k<w.heap.size→k≠b→W.heap[k]?=w.heap[k]?)
  (w7:W.heap[b]?=some (.cells #[ptrB b,.slice (some ⟨w.heap.size,0,none⟩) s.size arr.size] 71 (0,0))) (w8:W.heap[w.heap.size]?=some (.cells arr 5 (0,0))) :
  ∃φ',HR X φ' [some (bxU 1),some (.brow 5 s)] W∧Ev φ w φ' W∧∀k,k<1→φ k = .fresh→φ' k = .fresh:=by
 let l2:Loc:=⟨some (w.heap.size,0),s.size,arr.size,1⟩
 have hf:φ 1 = .fresh:=hH.fresh 1 (Nat.le_refl _);have p0:(φ.set 1 (.at false l2)) 0 = .at false l:=by rw [Phi.set_ne (by omega)]; exact hl
 have p1:(φ.set 1 (.at false l2)) 1 = .at false l2:=Phi.set_self;have blk:∀k,blkOf (φ.set 1 (.at false l2)) k→blkOf φ k∨k=w.heap.size:=fun k ⟨o,l',p,ho,hA'⟩=>by
  by_cases e:o=1
  ·subst e; rw [p1] at ho; cases ho; cases hA'; exact .inr rfl
  ·rw [Phi.set_ne e] at ho; exact .inl ⟨o,l',p,ho,hA'⟩
 have ev:Ev φ w (φ.set 1 (.at false l2)) W:=by
  refine ⟨w1,w2,⟨w3,w4⟩,Nat.le_of_lt w5,fun k hk hn=>w6 k hk fun e=>hn ⟨0,l,0,hl,by rw [e]; exact hA⟩,fun k hk hc=>?_,fun o ho=>.inl ?_⟩
  ·rcases blk k hc with h | h
   ·exact h
   ·omega
  ·refine Phi.set_ne fun e=>ho ?_;rw [e]; exact hf
 refine ⟨φ.set 1 (.at false l2),?_,ev,fun k hk e=>by rw [Phi.set_ne (by omega)]; exact e⟩;refine hH.next ev (fun o ho=>?_) (fun o z l' ho=>?_) (fun o y hy=>?_) (fun o l' b' p ho hA'=>?_)
 ·rw [Phi.set_ne (by simp at ho; omega)]; exact hH.fresh o (by simp at ho ⊢; omega)
 ·by_cases e:o=1
  ·exact ⟨.brow 5 s,by rw [e]; rfl⟩
  ·rw [Phi.set_ne e] at ho;have:=hH.lt ho;obtain rfl:o=0:=by simp at this; exact this
   exact ⟨bxU 1,rfl⟩
 ·match o,hy with
  | 0,hy =>
   obtain rfl:y=bxU 1:=by simpa [hget] using hy.symm
   refine .inr ⟨false,l,p0,?_⟩;simp only [OR];refine ⟨trivial,b,[ptrB b,.slice (some ⟨w.heap.size,0,none⟩) s.size arr.size],hA,w7,?_⟩;simp only [VRL];refine ⟨_,_,rfl,rfl,vr_ptr p0 hA,_,_,rfl,rfl,?_,rfl⟩;have:=vr_own (w':=W) (Y:=YOf X (φ.set 1 (.at false l2))) p1;simpa [Loc.addr,l2] using this
  | 1,hy =>
   obtain rfl:y = .brow 5 s:=by simpa [hget] using hy.symm
   refine .inr ⟨false,l2,p1,?_⟩;simp only [OR];exact ⟨trivial,rfl,w.heap.size,arr,rfl,w8,rfl,h1,h2,rfl,h4⟩
  | o+2,hy=>simp [hget] at hy
 ·by_cases e:o=1
  ·subst e; rw [p1] at ho; cases ho; cases hA';refine .inr ⟨fun hx=>by have:=hH.xlt _ hx; omega,w5,fun o' l2' p2 ho' hA2=>?_⟩
   by_cases e':o'=1
   ·exact e'
   ·rw [Phi.set_ne e'] at ho';have:=(hH.out o' l2' _ p2 ho' hA2).2; omega
  ·rw [Phi.set_ne e] at ho; exact .inl ho
theorem ret_mk{H H':Hp}{v:AV}{v':Value}{φ':Phi}{w':World}{e:Ending}(he:e = .returned v')(hv:VR w' (YOf X φ') φ' v v')(hH:HR X φ' H' w')(ev:Ev φ w φ' w')(hl:H.length≤H'.length)(hf:∀k,k<H.length→φ k = .fresh→φ' k = .fresh):Ret X φ H w [(v,H')] e w' :=
 ⟨_,List.mem_singleton.2 rfl,v',φ',he,hv,hH,ev,hl,hf⟩
end
theorem ws_new{s:ByteArray}(h0:0<s.size)(h1:s.size≤140737488355328):Ql Tryd.prog true 32 [.bp 0 0,.pl (.str s)] [some bxN] (.tup [.pl (.int .i64 (s.size:Int)),.pl .nili]) [some (bxU 1),some (.brow 5 s)]:=by
 refine ⟨Qca Tryd.func32 (by kernel_rfl) rfl,⟨(fun (h:true=false)=>by cases h),fun _ X φ w vs hH hvs=>?_⟩⟩;simp only [VRT] at hvs;obtain ⟨v0,_,rfl,hv0,v1,_,rfl,hv1,rfl⟩:=hvs;simp only [VR,PR] at hv1;subst hv1;obtain ⟨l,b,u0,u1,hl,hA,hg,hu0,_,hu1,_⟩:=bu_open hH rfl;obtain rfl:=bu_ptr hl hA hv0;simp only [VR,PR,flOk] at hu0 hu1;subst hu0;obtain ⟨A,c,rfl,_,_,⟨rfl,rfl⟩,_⟩:=hu1;have hlt:b<w.heap.size:=(Array.getElem?_eq_some_iff.1 hg).1;have g1:(w.setCell ⟨b,0,none⟩ (ptrB b)).heap[b]?=some (.cells #[ptrB b,.slice none 0 0] 71 (0,0)):=set_heap hg;obtain ⟨i0,hi,hz0,hz1,hz2⟩:=info_parts bu_x.infoByte;have hap:=fun ty=>run_append_nil_string (P:=Tryd.prog) (w.setCell ⟨b,0,none⟩ (ptrB b)) 69 9 ty 5 i0 (.int .u8 0) Tryd.underlying69 Tryd.underlying9 hi hz0 s h0 (by omega) (by rw [hz2]; omega)
 have hrun:=ws_run (P:=Tryd.prog) (ρ:=bu_r) { bu_l with } bu_x b s w (w.setCell ⟨b,0,none⟩ (ptrB b)) _ (.slice none 0 0) _ _ _
  (Any.Builder_copyCheck_fresh { bu_l with } bu_x.toX72 b w (by rw [Lib.cell_of_heap hg]; rfl) (by simp [World.shape?,hg]; rfl) (Lib.frozen_of_heap hg 0)) g1 hap (by
   show ((w.setCell ⟨b,0,none⟩ (ptrB b)).drew.alloc _).heap[b]?=_;rw [Lib.alloc_old _ _ _ (by show b<(w.setCell ⟨b,0,none⟩ (ptrB b)).heap.size; rw [set_size]; exact hlt)]; exact g1)
 refine hrun.mono fun e w' ⟨he,hw⟩=>?_;subst hw;have hge:=grownCap_ge (w.setCell ⟨b,0,none⟩ (ptrB b)) s.size 0 5;have hle:grownCap (w.setCell ⟨b,0,none⟩ (ptrB b)) s.size 0 5≤maxLen:=grownCap_le_maxLen _ s.size 0 5 (by unfold maxLen; omega);generalize grownCap (w.setCell ⟨b,0,none⟩ (ptrB b)) s.size 0 5=cap at hge hle ⊢;have hs1:(w.setCell ⟨b,0,none⟩ (ptrB b)).heap.size=w.heap.size:=set_size;obtain ⟨arr,harr⟩:∃arr:Array Value,arr=s.data.map (fun b=>Value.int .u8 b.toNat)++Builtin.zeroCells (Value.int .u8 0).cells (cap-s.size):=⟨_,rfl⟩;have has:arr.size=cap:=by
  have:(Value.int IntKind.u8 0).cells.size=1:=rfl;rw [harr,Array.size_append,size_zeroCells,this,Array.size_map];show s.size+_=_;omega
 have hat:arr.toList.take s.size=s.data.toList.map fun b=>Value.int .u8 b.toNat:=by
  rw [harr,Array.toList_append,Array.toList_map,List.take_left' (by rw [List.length_map]; rfl)]
 rw [←harr];obtain ⟨φ',k1,k2,k3⟩:=bu_new (W:=(((w.setCell ⟨b,0,none⟩ (ptrB b)).drew.alloc (.cells arr 5)).setCell ⟨b,1,none⟩ (.slice (some ⟨(w.setCell ⟨b,0,none⟩ (ptrB b)).heap.size,0,none⟩) s.size cap))) hH hl hA hlt (by rw [has]; exact hge) (by rw [has]; exact hle) hat rfl rfl rfl (Nat.le_succ _)
  (by rw [set_size]; show w.heap.size<((w.setCell ⟨b,0,none⟩ (ptrB b)).heap.push _).size; rw [Array.size_push,hs1]; omega)
  (fun k hk hne=>by
   rw [Qcn hne,Lib.alloc_old _ _ _ (by show k<(w.setCell ⟨b,0,none⟩ (ptrB b)).heap.size; rw [hs1]; exact hk)];exact Qcn hne)
  (by
   have:((w.setCell ⟨b,0,none⟩ (ptrB b)).drew.alloc (.cells arr 5)).heap[b]?=some (.cells #[ptrB b,.slice none 0 0] 71 (0,0)):=by
    rw [Lib.alloc_old _ _ _ (by show b<(w.setCell ⟨b,0,none⟩ (ptrB b)).heap.size; rw [hs1]; exact hlt)]; exact g1
   rw [set_heap this,hs1,has]; rfl)
  (by
   rw [Qcn (by omega),←hs1];exact heap_alloc_new _ _)
 exact ret_mk he (by simp only [VR,VRT,PR]; exact ⟨_,rfl,_,_,rfl,rfl,_,_,rfl,rfl,rfl⟩) k1 k2 (by simp) k3
end Go.Proofs.YtfeklaffeigilaaDoor
namespace Go.Proofs.YtfeklaffeigilaaDoor
open Go.Shelf Go.RowKit
set_option linter.unusedVariables false
set_option linter.unusedSimpArgs false
theorem ws_more{t s:ByteArray}(h1:t.size+s.size≤140737488355328):Ql Tryd.prog true 32 [.bp 0 0,.pl (.str s)] [some (bxU 1),some (.brow 5 t)] (.tup [.pl (.int .i64 (s.size:Int)),.pl .nili]) [some (bxU 2),none,some (.brow 5 (scat t s))]:=by
 refine ⟨Qca Tryd.func32 (by kernel_rfl) rfl,⟨(fun (h:true=false)=>by cases h),fun _ X φ w vs hH hvs=>?_⟩⟩;simp only [VRT] at hvs;obtain ⟨v0,_,rfl,hv0,v1,_,rfl,hv1,rfl⟩:=hvs;simp only [VR,PR] at hv1;subst hv1;obtain ⟨l,b,u0,u1,hl,hA,hg,hu0,_,hu1,_⟩:=bu_open hH rfl;obtain rfl:=bu_ptr hl hA hv0;obtain rfl:=bu_ptr hl hA hu0;obtain ⟨z,l1,hl1,hO⟩:=hH.ob 1 _ rfl;simp only [OR] at hO;obtain ⟨rfl,q1,g,cs,hA1,hg1,q2,q3,q4,q5,q6⟩:=hO;simp only [VR] at hu1;obtain rfl:=hu1.2.2 _ l1 hl1;have hbg:b≠g:=fun e=>by
  subst e;have:=hH.inj 0 1 l l1 b 0 0 hl hl1 hA hA1;cases this
 have ha:l1.addr 0=some ⟨g,0,none⟩:=by simp [Loc.addr,hA1]
 rw [ha,q2] at hg;have hlt:b<w.heap.size:=(Array.getElem?_eq_some_iff.1 hg).1;have hltg:g<w.heap.size:=(Array.getElem?_eq_some_iff.1 hg1).1;obtain ⟨i0,hi,hz0,hz1,hz2⟩:=info_parts bu_x.infoByte;have hsz:(scat t s).size=t.size+s.size:=by
  show ((t.data.toList++s.data.toList).toArray).size=_;rw [List.size_toArray,List.length_append]; rfl
 -- what the append gives
 obtain ⟨A,c,W,arr,g2,hap,hA2,hor,hW1,hW2,hW3,hW4,hW5,hW6,hW7,hc1,hc2,hc3,hc4⟩:∃(A:Option Addr) (c:Nat) (W:World) (arr:Array Value) (g2:Nat),(∀ty,(Builtin.append_ #[69,9] ty #[.slice (some ⟨g,0,none⟩) t.size l1.c,.string s]).run Tryd.prog w = .ok (.slice A (t.size+s.size) c) W)∧A=some ⟨g2,0,none⟩ ∧
   (g2=g∨(g2=w.heap.size∧w.heap.size<W.heap.size))∧W.os=w.os∧W.tape=w.tape∧W.output=w.output∧w.drawn≤W.drawn∧w.heap.size≤W.heap.size∧(∀k,k<w.heap.size→k≠g→W.heap[k]?=w.heap[k]?)∧W.heap[g2]?=some (.cells arr 5 (0,0)) ∧
   t.size+s.size≤c∧c≤maxLen∧arr.size=c∧arr.toList.take (t.size+s.size)=(scat t s).data.toList.map fun b=>Value.int .u8 b.toNat:=by
  have hcat:((scat t s).data.toList.map fun b=>Value.int .u8 b.toNat)=(t.data.toList.map fun b=>Value.int .u8 b.toNat)++Lib.strCells s:=by
   show ((t.data.toList++s.data.toList).map fun b=>Value.int .u8 b.toNat)=_;rw [List.map_append]; rfl
  by_cases hroom:t.size+s.size≤l1.c
  ·have hap:=fun ty=>Lib.run_append_room_string (P:=Tryd.prog) w 69 9 ty 5 i0 Tryd.underlying69 Tryd.underlying9 hi hz1 g t.size l1.c cs hg1 s hroom (by omega);refine ⟨_,_,_,_,g,hap,rfl,.inl rfl,rfl,rfl,rfl,Nat.le_refl _,by simp [World.setRow],fun k _ hk=>by simp [World.setRow,Array.getElem?_modify,Ne.symm hk],by simp [World.setRow,Array.getElem?_modify,hg1]; rfl,hroom,q4,?_,?_⟩
   ·rw [List.size_toArray,List.length_append,List.length_append,List.length_take,Lib.strCells_length,List.length_drop,Array.length_toList]; omega
   ·rw [hcat,←q6];show (cs.toList.take t.size++(Lib.strCells s++cs.toList.drop (t.size+s.size))).take (t.size+s.size)=_;rw [←List.append_assoc,List.take_left' (by rw [List.length_append,List.length_take,Lib.strCells_length,Array.length_toList]; omega)]
  ·have hap:=fun ty=>Lib.run_append_grow_string (P:=Tryd.prog) w 69 9 ty 5 i0 (.int .u8 0) Tryd.underlying69 Tryd.underlying9 hi hz0 ⟨g,0,none⟩ t.size l1.c (t.data.toList.map fun b=>Value.int .u8 b.toNat) (by rw [List.length_map,hz1,Nat.mul_one]; rfl) (fun j v hj=>by
    have e:(⟨g,0,none⟩:Addr).add j=⟨g,j,none⟩:=by unfold Addr.add; split<;>simp_all
    rw [e,Lib.cell_of_heap hg1,←Array.getElem?_toList];rw [←q6,List.getElem?_take] at hj
    split at hj
    ·exact hj
    ·cases hj) s (by omega) (by omega) (growslice_fits (by omega) (by rw [hz2]; omega))
   have hge:=grownCap_ge w (t.size+s.size) l1.c 5;have hle:grownCap w (t.size+s.size) l1.c 5≤maxLen:=grownCap_le_maxLen _ _ _ 5 (by unfold maxLen; omega);refine ⟨_,_,_,_,w.heap.size,hap,rfl,.inr ⟨rfl,by show w.heap.size<(w.heap.push _).size; rw [Array.size_push]; omega⟩,rfl,rfl,rfl,Nat.le_succ _,by show w.heap.size≤(w.heap.push _).size; rw [Array.size_push]; omega,fun k hk _=>Lib.alloc_old w.drew _ k hk,heap_alloc_new w.drew _,hge,hle,?_,?_⟩
   ·have:(Value.int IntKind.u8 0).cells.size=1:=rfl;simp only [Array.size_append,List.size_toArray,size_zeroCells,this,List.length_map,Lib.strCells_length];show t.size+s.size+_=_;omega
   ·rw [hcat,Array.toList_append,Array.toList_append,List.take_left' (by simp only [List.length_append,List.length_map,Lib.strCells_length]; rfl)]
 subst hA2;have hWb:W.heap[b]?=some (.cells #[ptrB b,.slice (some ⟨g,0,none⟩) t.size l1.c] 71 (0,0)):=by rw [hW6 b hlt hbg]; exact hg
 have hrun:=ws_run (P:=Tryd.prog) (ρ:=bu_r) { bu_l with } bu_x b s w w W (.slice (some ⟨g,0,none⟩) t.size l1.c) _ _ _
  (Any.Builder_copyCheck_used { bu_l with } bu_x.toX72 b w (by rw [Lib.cell_of_heap hg]; rfl)) hg hap hWb
 refine hrun.mono fun e w' ⟨he,hw⟩=>?_;subst hw;have hg2b:g2≠b:=by rcases hor with e | ⟨e,_⟩<;>rw [e]<;>omega
 let l2:Loc:=⟨some (g2,0),(scat t s).size,c,1⟩
 obtain ⟨m1,m2⟩:=hH.move (w':=W) hH.free hl1 l2 (.brow 5 (scat t s)) hW1 hW2 ⟨hW3,hW4⟩ hW5 (fun k hk hn=>hW6 k hk fun e=>hn 0 (by rw [e]; exact hA1)) (fun b' p' h=>by
  cases h;rcases hor with e | ⟨e,h⟩
  ·exact .inl ⟨0,by rw [e]; exact hA1⟩
  ·exact .inr ⟨by rw [e]; exact Nat.le_refl _,by rw [e]; exact h⟩) (fun _=>by
  simp only [OR];exact ⟨trivial,rfl,g2,arr,rfl,hW7,rfl,by show (scat t s).size≤c; rw [hsz]; exact hc1,hc2,hc3,by rw [hsz]; exact hc4⟩)
 have p0:((φ.set 1 .dead).set 2 (.at false l2)) 0 = .at false l:=by rw [Phi.set_ne (by omega),Phi.set_ne (by omega)]; exact hl
 have p2:((φ.set 1 .dead).set 2 (.at false l2)) 2 = .at false l2:=Phi.set_self;have m3:=m1.write (w':=W.setCell ⟨b,1,none⟩ (.slice (some ⟨g2,0,none⟩) (t.size+s.size) c)) (x:=bxU 2) p0 hA rfl rfl ⟨rfl,Nat.le_refl _⟩ set_size (fun k h=>Qcn h) (by
  simp only [OR];refine ⟨trivial,b,[ptrB b,.slice (some ⟨g2,0,none⟩) (t.size+s.size) c],hA,set_heap hWb,?_⟩;simp only [VRL];refine ⟨_,_,rfl,rfl,vr_ptr p0 hA,_,_,rfl,rfl,?_,rfl⟩;have:=vr_own (w':=W.setCell ⟨b,1,none⟩ (.slice (some ⟨g2,0,none⟩) (t.size+s.size) c)) (Y:=YOf X ((φ.set 1 .dead).set 2 (.at false l2))) p2;simpa [Loc.addr,l2,hsz] using this)
 have e3:=Ev.write (w:=W) (w':=W.setCell ⟨b,1,none⟩ (.slice (some ⟨g2,0,none⟩) (t.size+s.size) c)) p0 hA rfl rfl ⟨rfl,Nat.le_refl _⟩ set_size (fun k h=>Qcn h);exact ret_mk he (by simp only [VR,VRT,PR]; exact ⟨_,rfl,_,_,rfl,rfl,_,_,rfl,rfl,rfl⟩) m3 (m2.trans e3) (by simp) (fun k hk e=>by
  have hk:k<2:=hk;rw [Phi.set_ne (by omega),Phi.set_ne (fun e2=>by rw [e2,hl1] at e; cases e)]; exact e)
theorem ws_str{t:ByteArray}(h0:0<t.size):Ql Tryd.prog true 34 [.bp 0 0] [some (bxU 1),some (.brow 5 t)] (.pl (.str t)) [some (bxU 1),none]:=by
 refine ⟨Qca Tryd.func34 (by kernel_rfl) rfl,⟨(fun (h:true=false)=>by cases h),fun _ X φ w vs hH hvs=>?_⟩⟩;simp only [VRT] at hvs;obtain ⟨v0,_,rfl,hv0,rfl⟩:=hvs;obtain ⟨l,b,u0,u1,hl,hA,hg,hu0,_,hu1,_⟩:=bu_open hH rfl;obtain rfl:=bu_ptr hl hA hv0;obtain ⟨z,l1,hl1,hO⟩:=hH.ob 1 _ rfl;simp only [OR] at hO;obtain ⟨rfl,q1,g,cs,hA1,hg1,q2,q3,q4,q5,q6⟩:=hO;simp only [VR] at hu1;obtain rfl:=hu1.2.2 _ l1 hl1;have hbg:b≠g:=fun e=>by
  subst e;have:=hH.inj 0 1 l l1 b 0 0 hl hl1 hA hA1;cases this
 have ha:l1.addr 0=some ⟨g,0,none⟩:=by simp [Loc.addr,hA1]
 rw [ha,q2] at hg;have hlen:t.data.toList.length=t.size:=rfl;have hrun:=str_run (P:=Tryd.prog) (ρ:=bu_r) { bu_l with } bu_x b g l1.c u0 cs t.data.toList w (fun e=>by rw [e] at hlen; simp at hlen; omega) (by rw [hlen]; exact hg) hg1 (by rw [hlen,←q2]; exact q3) q4 q5 (by rw [hlen]; exact q6);refine hrun.mono fun e w' ⟨he,hw⟩=>?_;subst hw;have hfz:∀k,k≠g→(w.drew.freeze ⟨g,0,none⟩ t.data.toList.length).heap[k]?=w.heap[k]?:=fun k hk=>by
  unfold World.freeze
  split
  ·rfl
  ·show (w.heap.modify g _)[k]?=_;rw [Array.getElem?_modify,if_neg (Ne.symm hk)]
 have hfs:(w.drew.freeze ⟨g,0,none⟩ t.data.toList.length).heap.size=w.heap.size:=by
  unfold World.freeze
  split
  ·rfl
  ·show (w.heap.modify g _).size=_;rw [Array.size_modify]
 have hfo:(w.drew.freeze ⟨g,0,none⟩ t.data.toList.length).os=w.os∧(w.drew.freeze ⟨g,0,none⟩ t.data.toList.length).tape=w.tape∧(w.drew.freeze ⟨g,0,none⟩ t.data.toList.length).output=w.output∧w.drawn≤(w.drew.freeze ⟨g,0,none⟩ t.data.toList.length).drawn:=by
  unfold World.freeze
  split<;>exact ⟨rfl,rfl,rfl,Nat.le_succ _⟩
 have blk:∀k,blkOf (φ.set 1 .dead) k→blkOf φ k:=fun k ⟨o,l',p,ho,hA'⟩=>by
  by_cases e:o=1
  ·subst e; rw [Phi.set_self] at ho; cases ho
  ·rw [Phi.set_ne e] at ho; exact ⟨o,l',p,ho,hA'⟩
 have ev:Ev φ w (φ.set 1 .dead) (w.drew.freeze ⟨g,0,none⟩ t.data.toList.length):=by
  refine ⟨hfo.1,hfo.2.1,⟨hfo.2.2.1,hfo.2.2.2⟩,by rw [hfs]; exact Nat.le_refl _,fun k hk hn=>hfz k fun e=>hn ⟨1,l1,0,hl1,by rw [e]; exact hA1⟩,fun k _ hc=>blk k hc,fun o ho=>?_⟩
  by_cases e:o=1
  ·subst e; exact .inr (.inl Phi.set_self)
  ·exact .inl (Phi.set_ne e)
 refine ret_mk (v':=.string ⟨t.data.toList.toArray⟩) he (by simp only [VR,PR]) (hH.next ev (fun o ho=>?_) (fun o z l' ho=>?_) (fun o y hy=>?_) (fun o l' b' p ho hA'=>?_)) ev (by simp) (fun k hk e=>by
  rw [Phi.set_ne (fun e2=>by rw [e2,hl1] at e; cases e)]; exact e)
 ·have h2:2≤o:=ho;rw [Phi.set_ne (by omega)]; exact hH.fresh o ho
 ·by_cases e:o=1
  ·subst e; rw [Phi.set_self] at ho; cases ho
  ·rw [Phi.set_ne e] at ho;have:=hH.lt ho;obtain rfl:o=0:=by simp only [List.length_cons,List.length_nil] at this; omega
   exact ⟨bxU 1,rfl⟩
 ·match o,hy with
  | 0,hy =>
   obtain rfl:y=bxU 1:=by simpa [hget] using hy.symm
   refine .inl ⟨rfl,Phi.set_ne (by omega),fun l' b' p hl' hA'=>?_⟩;rw [hl] at hl'; cases hl';rw [hA] at hA'; cases hA';exact hfz b hbg
  | 1,hy=>simp [hget] at hy
  | o+2,hy=>simp [hget] at hy
 ·by_cases e:o=1
  ·subst e; rw [Phi.set_self] at ho; cases ho
  ·rw [Phi.set_ne e] at ho; exact .inl ho
theorem ws_grow{n:Int}(h0:0<n)(h1:n≤281474976710656):Ql Tryd.prog true 57 [.bp 0 0,.pl (.int .i64 n)] [some bxN] (.tup []) [some (bxU 1),some (.brow 5 ⟨#[]⟩)]:=by
 refine ⟨Qca Tryd.func57 (by kernel_rfl) rfl,⟨(fun (h:true=false)=>by cases h),fun _ X φ w vs hH hvs=>?_⟩⟩;simp only [VRT] at hvs;obtain ⟨v0,_,rfl,hv0,v1,_,rfl,hv1,rfl⟩:=hvs;simp only [VR,PR] at hv1;subst hv1;obtain ⟨l,b,u0,u1,hl,hA,hg,hu0,_,hu1,_⟩:=bu_open hH rfl;obtain rfl:=bu_ptr hl hA hv0;simp only [VR,PR,flOk] at hu0 hu1;subst hu0;obtain ⟨A,c,rfl,_,_,⟨rfl,rfl⟩,_⟩:=hu1;obtain ⟨m,rfl⟩:∃m:Nat,n=(m:Int):=⟨n.toNat,by omega⟩;have hlt:b<w.heap.size:=(Array.getElem?_eq_some_iff.1 hg).1;have hrun:=Grow_run (P:=Tryd.prog) (ρ:=bu_r) { bu_l with } bu_x b m w hg (by omega) (by omega);refine hrun.mono fun e w' ⟨he,arr,k,h2,h3,hw⟩=>?_;subst hw;have g1:(w.setCell ⟨b,0,none⟩ (ptrB b)).heap[b]?=some (.cells #[ptrB b,.slice none 0 0] 71 (0,0)):=set_heap hg
 have hs1:((w.setCell ⟨b,0,none⟩ (ptrB b)).setCell ⟨b,1,none⟩ (.slice (some ⟨w.heap.size,0,none⟩) 0 arr.size)).heap.size=w.heap.size:=by rw [set_size,set_size]
 obtain ⟨φ',k1,k2,k3⟩:=bu_new (s:=⟨#[]⟩) (W:=((((w.setCell ⟨b,0,none⟩ (ptrB b)).setCell ⟨b,1,none⟩ (.slice (some ⟨w.heap.size,0,none⟩) 0 arr.size)).alloc (.cells arr 5)).drewN k)) (arr:=arr) hH hl hA hlt (Nat.zero_le _) h3 rfl rfl rfl rfl (Nat.le_add_right _ _)
  (by show w.heap.size<(((w.setCell ⟨b,0,none⟩ (ptrB b)).setCell ⟨b,1,none⟩ (.slice (some ⟨w.heap.size,0,none⟩) 0 arr.size)).heap.push _).size; rw [Array.size_push,hs1]; omega)
  (fun j hj hne=>by
   show (((w.setCell ⟨b,0,none⟩ (ptrB b)).setCell ⟨b,1,none⟩ (.slice (some ⟨w.heap.size,0,none⟩) 0 arr.size)).alloc (.cells arr 5)).heap[j]?=_;rw [Lib.alloc_old _ _ _ (by rw [hs1]; exact hj),Qcn hne,Qcn hne])
  (by
   show (((w.setCell ⟨b,0,none⟩ (ptrB b)).setCell ⟨b,1,none⟩ (.slice (some ⟨w.heap.size,0,none⟩) 0 arr.size)).alloc (.cells arr 5)).heap[b]?=_;rw [Lib.alloc_old _ _ _ (by rw [hs1]; exact hlt),set_heap g1]; rfl)
  (by
   have:=heap_alloc_new ((w.setCell ⟨b,0,none⟩ (ptrB b)).setCell ⟨b,1,none⟩ (.slice (some ⟨w.heap.size,0,none⟩) 0 arr.size)) (.cells arr 5);rw [hs1] at this;exact this)
 exact ret_mk he (by simp only [VR,VRT]; exact ⟨_,rfl,rfl⟩) k1 k2 (by simp) k3
def itoaB(n:Int):ByteArray:=⟨(Lib.itoa n).toArray⟩
theorem itoa_call{n:Int}(h0:-9223372036854775808≤n)(h1:n≤9223372036854775807):Ql Tryd.prog false 31 [.pl (.int .i64 n)] [] (.pl (.str (itoaB n))) []:=by
 refine ⟨Qca Tryd.func31 (by kernel_rfl) rfl,fun _=>rfl,fun _ X φ w vs hH hvs=>?_⟩;simp only [VRT] at hvs;obtain ⟨v0,_,rfl,hv0,rfl⟩:=hvs;simp only [VR,PR] at hv0;subst hv0;have hφ:φ=Qco:=funext fun o=>hH.fresh o (Nat.zero_le _);subst hφ;obtain ⟨_,t,fr,htab⟩:=hH.xlt.tab _ (show _∈tabL from List.mem_singleton.2 rfl);refine (Any.strconv_Itoa it_l n h0 h1 w ?_).mono fun e w' ⟨he,k,os,hw⟩=>?_
 ·unfold Lib.TabIs World.var?;rw [it_l.m17];simp only [Option.bind_some];have:w.heap[it_r.g 17]?=_:=htab;rw [this]; rfl
 ·subst hw;have ev:Ev Qco w Qco (Sort.grow (w.drewN k) os):=⟨rfl,rfl,⟨rfl,Nat.le_add_right _ _⟩,by show w.heap.size≤(w.heap++os).size; rw [Array.size_append]; omega,fun j hj _=>by show (w.heap++os)[j]?=_; rw [Array.getElem?_append_left hj],fun b _ hc=>absurd hc (noBlk b),fun o ho=>absurd rfl ho⟩;exact ret_mk he (by simp only [VR,PR]; rfl) (hH.next ev hH.fresh hH.live (fun o x hx=>by simp [hget] at hx) (fun o l b p h=>by cases h)) ev (Nat.le_refl _) (fun _ _ h=>h)
end Go.Proofs.YtfeklaffeigilaaDoor
namespace Go.Proofs.YtfeklaffeigilaaDoor
set_option linter.unusedVariables false
set_option linter.unusedSimpArgs false
set_option maxRecDepth 100000
open Go.RowKit
structure Qc where
 Account:ByteArray
 Ccy:ByteArray
 Amount:Int
def Qc.cells(x:Qc):List PV:=[.str x.Account,.str x.Ccy,.int .i64 x.Amount]
theorem Qc.cells_eq(x y:Qc):(Qc.cells x=Qc.cells y)=(x=y):=propext ⟨fun h=>by
 cases x; cases y
 simp_all [Qc.cells],fun h=>by rw [h]⟩
theorem Qc.map_eq(x y:List Qc):(x.map Qc.cells=y.map Qc.cells)=(x=y):=map_eq_of fun a b h=>by rwa [Qc.cells_eq] at h
structure Qb where
 Day:Int
 Text:ByteArray
 Lines:List Qc
def Qb.cells(x:Qb):List PV:=[.int .i64 x.Day,.str x.Text,.sl .any 3 (x.Lines.map Qc.cells)]
theorem Qb.cells_eq(x y:Qb):(Qb.cells x=Qb.cells y)=(x=y):=propext ⟨fun h=>by
 cases x; cases y
 simp_all [Qb.cells,Qc.cells,Qc.cells_eq,Qc.map_eq],fun h=>by rw [h]⟩
theorem Qb.map_eq(x y:List Qb):(x.map Qb.cells=y.map Qb.cells)=(x=y):=map_eq_of fun a b h=>by rwa [Qb.cells_eq] at h
structure Qj where
 Records:List Qb
def Qj.cells(x:Qj):List PV:=[.sl .any 3 (x.Records.map Qb.cells)]
theorem Qj.cells_eq(x y:Qj):(Qj.cells x=Qj.cells y)=(x=y):=propext ⟨fun h=>by
 cases x; cases y
 simp_all [Qj.cells,Qb.cells,Qb.cells_eq,Qb.map_eq],fun h=>by rw [h]⟩
theorem Qj.map_eq(x y:List Qj):(x.map Qj.cells=y.map Qj.cells)=(x=y):=map_eq_of fun a b h=>by rwa [Qj.cells_eq] at h
structure Qd where
 name:ByteArray
 ccy:ByteArray
def Qd.cells(x:Qd):List PV:=[.str x.name,.str x.ccy]
theorem Qd.cells_eq(x y:Qd):(Qd.cells x=Qd.cells y)=(x=y):=propext ⟨fun h=>by
 cases x; cases y
 simp_all [Qd.cells],fun h=>by rw [h]⟩
theorem Qd.map_eq(x y:List Qd):(x.map Qd.cells=y.map Qd.cells)=(x=y):=map_eq_of fun a b h=>by rwa [Qd.cells_eq] at h
structure Qa where
 Account:ByteArray
 Ccy:ByteArray
 In:Int
 Out:Int
def Qa.cells(x:Qa):List PV:=[.str x.Account,.str x.Ccy,.int .i64 x.In,.int .i64 x.Out]
theorem Qa.cells_eq(x y:Qa):(Qa.cells x=Qa.cells y)=(x=y):=propext ⟨fun h=>by
 cases x; cases y
 simp_all [Qa.cells],fun h=>by rw [h]⟩
theorem Qa.map_eq(x y:List Qa):(x.map Qa.cells=y.map Qa.cells)=(x=y):=map_eq_of fun a b h=>by rwa [Qa.cells_eq] at h
structure Qh where
 From:Int
 To:Int
 Known:Int
 Rows:List Qa
def Qh.cells(x:Qh):List PV:=[.int .i64 x.From,.int .i64 x.To,.int .i64 x.Known,.sl .any 4 (x.Rows.map Qa.cells)]
theorem Qh.cells_eq(x y:Qh):(Qh.cells x=Qh.cells y)=(x=y):=propext ⟨fun h=>by
 cases x; cases y
 simp_all [Qh.cells,Qa.cells,Qa.cells_eq,Qa.map_eq],fun h=>by rw [h]⟩
theorem Qh.map_eq(x y:List Qh):(x.map Qh.cells=y.map Qh.cells)=(x=y):=map_eq_of fun a b h=>by rwa [Qh.cells_eq] at h
structure Key_ where
 account:ByteArray
 ccy:ByteArray
def Key_.cells(x:Key_):List PV:=[.str x.account,.str x.ccy]
theorem Key_.cells_eq(x y:Key_):(Key_.cells x=Key_.cells y)=(x=y):=propext ⟨fun h=>by
 cases x; cases y
 simp_all [Key_.cells],fun h=>by rw [h]⟩
theorem Key_.map_eq(x y:List Key_):(x.map Key_.cells=y.map Key_.cells)=(x=y):=map_eq_of fun a b h=>by rwa [Key_.cells_eq] at h
structure Qr where
 e0:Int
 e1:Int
 e2:Int
 e3:Int
 e4:Int
 e5:Int
 e6:Int
 e7:Int
 e8:Int
 e9:Int
 e10:Int
 e11:Int
 e12:Int
def Qr.cells(x:Qr):List PV:=[.int .i64 x.e0,.int .i64 x.e1,.int .i64 x.e2,.int .i64 x.e3,.int .i64 x.e4,.int .i64 x.e5,.int .i64 x.e6,.int .i64 x.e7,.int .i64 x.e8,.int .i64 x.e9,.int .i64 x.e10,.int .i64 x.e11,.int .i64 x.e12]
theorem Qr.cells_eq(x y:Qr):(Qr.cells x=Qr.cells y)=(x=y):=propext ⟨fun h=>by
 cases x; cases y
 simp_all [Qr.cells],fun h=>by rw [h]⟩
theorem Qr.map_eq(x y:List Qr):(x.map Qr.cells=y.map Qr.cells)=(x=y):=map_eq_of fun a b h=>by rwa [Qr.cells_eq] at h
def Qd.eqb(x y:Qd):Bool:=seq x.name y.name&&seq x.ccy y.ccy
theorem Qd.eqb_ok(x y:Qd):eqV cfg.ty 107 (.agg (Qd.cells x)) (.agg (Qd.cells y))=some (Qd.eqb x y):=by
 unfold Qd.eqb;have e:eqV cfg.ty 107 (.agg (Qd.cells x)) (.agg (Qd.cells y))=(match some (decide (x.name.data.toList=y.name.data.toList)) with | some true=>(match some (decide (x.ccy.data.toList=y.ccy.data.toList)) with | some true=>(some true) | some false=>some false | none=>none) | some false=>some false | none=>none):=by kernel_rfl
 rw [e]
 try simp only [seq]
 cases decide (x.name.data.toList=y.name.data.toList)<;>cases decide (x.ccy.data.toList=y.ccy.data.toList)<;>rfl
def Key_.eqb(x y:Key_):Bool:=seq x.account y.account&&seq x.ccy y.ccy
theorem Key_.eqb_ok(x y:Key_):eqV cfg.ty 115 (.agg (Key_.cells x)) (.agg (Key_.cells y))=some (Key_.eqb x y):=by
 unfold Key_.eqb;have e:eqV cfg.ty 115 (.agg (Key_.cells x)) (.agg (Key_.cells y))=(match some (decide (x.account.data.toList=y.account.data.toList)) with | some true=>(match some (decide (x.ccy.data.toList=y.ccy.data.toList)) with | some true=>(some true) | some false=>some false | none=>none) | some false=>some false | none=>none):=by kernel_rfl
 rw [e]
 try simp only [seq]
 cases decide (x.account.data.toList=y.account.data.toList)<;>cases decide (x.ccy.data.toList=y.ccy.data.toList)<;>rfl
def Qa.eqb(x y:Qa):Bool:=seq x.Account y.Account&&seq x.Ccy y.Ccy&&decide (x.In=y.In)&&decide (x.Out=y.Out)
theorem Qa.eqb_ok(x y:Qa):eqV cfg.ty 39 (.agg (Qa.cells x)) (.agg (Qa.cells y))=some (Qa.eqb x y):=by
 unfold Qa.eqb;have e:eqV cfg.ty 39 (.agg (Qa.cells x)) (.agg (Qa.cells y))=(match some (decide (x.Account.data.toList=y.Account.data.toList)) with | some true=>(match some (decide (x.Ccy.data.toList=y.Ccy.data.toList)) with | some true=>(match some (decide (x.In=y.In)) with | some true=>(match some (decide (x.Out=y.Out)) with | some true=>(some true) | some false=>some false | none=>none) | some false=>some false | none=>none) | some false=>some false | none=>none) | some false=>some false | none=>none):=by kernel_rfl
 rw [e]
 try simp only [seq]
 cases decide (x.Account.data.toList=y.Account.data.toList)<;>cases decide (x.Ccy.data.toList=y.Ccy.data.toList)<;>cases decide (x.In=y.In)<;>cases decide (x.Out=y.Out)<;>rfl
theorem key_9:KeyOK cfg 9 pStr seq:=key_str (fun _ _=>by kernel_rfl) (fun _=>by kernel_rfl)
theorem Qd.eqb_eq{x y:Qd}(h:Qd.eqb x y=true):x=y:=by
 cases x; cases y;simp only [Qd.eqb,Bool.and_eq_true,decide_eq_true_eq,beq_iff_eq] at h;simp only [Qd.mk.injEq];refine ⟨?_,?_⟩<;>first | exact seq_eq' (by simp_all) | simp_all
theorem key_107:KeyOK cfg 107 (pAgg Qd.cells) Qd.eqb:=⟨fun a b=>Qd.eqb_ok a b,fun _=>by kernel_rfl,fun a b h=>Qd.eqb_eq h,fun a=>by simp [pAgg,Qd.cells,eqC,eqCL,eqC1,kindEq]⟩
theorem Key_.eqb_eq{x y:Key_}(h:Key_.eqb x y=true):x=y:=by
 cases x; cases y;simp only [Key_.eqb,Bool.and_eq_true,decide_eq_true_eq,beq_iff_eq] at h;simp only [Key_.mk.injEq];refine ⟨?_,?_⟩<;>first | exact seq_eq' (by simp_all) | simp_all
theorem key_115:KeyOK cfg 115 (pAgg Key_.cells) Key_.eqb:=⟨fun a b=>Key_.eqb_ok a b,fun _=>by kernel_rfl,fun a b h=>Key_.eqb_eq h,fun a=>by simp [pAgg,Key_.cells,eqC,eqCL,eqC1,kindEq]⟩
def Qbk:ByteArray:=⟨#[114,101,112,111,114,116,32,48,32,48,32,48,10]⟩
def Qu:ByteArray:=⟨#[114,101,112,111,114,116,32,49,48,32,49,49,32,51,10,65,110,110,32,69,85,82,32,53,32,50,32,51,10,66,111,98,32,69,85,82,32,50,32,53,32,45,51,10]⟩
def str_F:ByteArray:=⟨#[70]⟩
def str_x0a:ByteArray:=⟨#[10]⟩
def str_x20:ByteArray:=⟨#[32]⟩
def str_report:ByteArray:=⟨#[114,101,112,111,114,116]⟩
def Qao:ByteArray:=⟨#[69]⟩
def Qaa:ByteArray:=⟨#[102,111,114,32,49,57,48,48,45,48,49,45,48,49]⟩
def Qx:ByteArray:=⟨#[70,111,114,32,49,57,48,48,45,48,49,45,49,49]⟩
def Qw:ByteArray:=⟨#[102,111,114,32,49,57,48,48,45,48,49,45,49]⟩
def Qs:ByteArray:=⟨#[102,111,114,32,49,57,48,48,45,48,50,45,51,48,32]⟩
def Qp:ByteArray:=⟨#[102,111,114,32,49,57,48,48,45,48,49,45,49,49,120]⟩
def Qo:ByteArray:=⟨#[102,111,114,32,49,57,48,48,45,48,49,45,49,49]⟩
def Qbf:ByteArray:=⟨#[102,111,114,32]⟩
def Qcp:ByteArray:=⟨#[98]⟩
def Qk:ByteArray:=⟨#[102,111,114,32,49,57,48,48,45,48,49,45,49,49,32,102,105,120]⟩
def Qay:ByteArray:=⟨#[97]⟩
def str_Bob:ByteArray:=⟨#[66,111,98]⟩
def Qaw:ByteArray:=⟨#[69,85,82]⟩
def str_Ann:ByteArray:=⟨#[65,110,110]⟩
def Qy:ByteArray:=⟨#[]⟩
def ti92:TI:=⟨.struct [(9,0),(9,1),(3,2)],3,40,[.str ByteArray.empty,.str ByteArray.empty,.int .i64 0]⟩
def ti46:TI:=⟨.struct [(3,0),(9,1),(44,2)],3,48,[.int .i64 0,.str ByteArray.empty,.sl .nil 0 []]⟩
def ti39:TI:=⟨.struct [(9,0),(9,1),(3,2),(3,3)],4,48,[.str ByteArray.empty,.str ByteArray.empty,.int .i64 0,.int .i64 0]⟩
def ti9:TI:=⟨.str,1,16,[.str ByteArray.empty]⟩
def Qc.ok(x:Qc):Prop:=(fun s:ByteArray=>s.size≤maxLen) x.Account∧(fun s:ByteArray=>s.size≤maxLen) x.Ccy∧(okInt .i64) x.Amount∧True
def Qb.ok(x:Qb):Prop:=(okInt .i64) x.Day∧(fun s:ByteArray=>s.size≤maxLen) x.Text∧(fun l:List Qc=>l.length≤maxLen∧∀x∈l,Qc.ok x) x.Lines∧True
def Qj.ok(x:Qj):Prop:=(fun l:List Qb=>l.length≤maxLen∧∀x∈l,Qb.ok x) x.Records∧True
def Qd.ok(x:Qd):Prop:=(fun s:ByteArray=>s.size≤maxLen) x.name∧(fun s:ByteArray=>s.size≤maxLen) x.ccy∧True
def Qa.ok(x:Qa):Prop:=(fun s:ByteArray=>s.size≤maxLen) x.Account∧(fun s:ByteArray=>s.size≤maxLen) x.Ccy∧(okInt .i64) x.In∧(okInt .i64) x.Out∧True
def Qh.ok(x:Qh):Prop:=(okInt .i64) x.From∧(okInt .i64) x.To∧(okInt .i64) x.Known∧(fun l:List Qa=>l.length≤maxLen∧∀x∈l,Qa.ok x) x.Rows∧True
def Key_.ok(x:Key_):Prop:=(fun s:ByteArray=>s.size≤maxLen) x.account∧(fun s:ByteArray=>s.size≤maxLen) x.ccy∧True
def Qr.ok(x:Qr):Prop:=(okInt .i64) x.e0∧(okInt .i64) x.e1∧(okInt .i64) x.e2∧(okInt .i64) x.e3∧(okInt .i64) x.e4∧(okInt .i64) x.e5∧(okInt .i64) x.e6∧(okInt .i64) x.e7∧(okInt .i64) x.e8∧(okInt .i64) x.e9∧(okInt .i64) x.e10∧(okInt .i64) x.e11∧(okInt .i64) x.e12∧True
end Go.Proofs.YtfeklaffeigilaaDoor
namespace Go.Proofs.YtfeklaffeigilaaDoor
set_option linter.unusedVariables false
set_option linter.unusedSimpArgs false
set_option maxRecDepth 100000
open Go.RowKit
noncomputable def c53:Code:=Tryd.f53.body.getD .skip
inductive f53n0O where
 | ret
def f53n0E:f53n0O→Ex×Tr×Hp
 | .ret=>(.ret,mkS [(0,(.bp 0 0))],[some (.box 43 [(.pl (.sl .nil 0 []))])])
def f53n0S:Tr×Hp:=(Qal [] 0 .leaf,[])
noncomputable def f53n0:Option f53n0O :=
 some .ret
theorem f53n0_ok{o:f53n0O}(h:f53n0=some o):T Tryd.prog Tryd.f53.ntmps 0 c53 f53n0S (·=f53n0E o):=by
 unfold f53n0 at h;obtain rfl:=Qf h;exact rE Qi [j3,j3] [] [] [0] [0] (.ret,(f53n0E .ret).2) an rfl
noncomputable def f53:Option Qj:=f53n0.bind fun o=>match o with
 | .ret=>some (Qj.mk [])
theorem f53_ok{r:Qj}(h:f53=some r):Ql Tryd.prog false 53 [] [] (jA Qj.cells r) []:=by
 unfold f53 at h;obtain ⟨o,ho,h⟩:=Qe h;cases o with
 | ret =>
  obtain rfl:=Qf h;exact Ql.plain Qi (f:=Tryd.f53) (c:=c53) (by kernel_rfl) (by kernel_rfl) (by kernel_rfl) (by kernel_rfl) ((f53n0_ok  ho).mono fun r e=>by subst e; exact ⟨.inl rfl,(.pl (.agg [(.sl .nil 0 [])])),(.pl (.agg [(.sl .nil 0 [])])),by kernel_rfl,by kernel_rfl,((Wk.pl (WkP.agg (wpc (WkP.nil (f:=.nil) (sz:=0) (sz':=3)) wpn))):Wk (.pl (.agg [(.sl .nil 0 [])])) (.pl (.agg (Qj.cells (Qj.mk [])))))⟩)

noncomputable def c54:Code:=Tryd.f54.body.getD .skip
inductive f54n0O where
 | ret
def f54n0E(a1:Int):f54n0O→Ex×Tr×Hp
 | .ret=>(.ret,mkS [(2,(.own 0))],[some (.row false 3 ([(Qc.mk str_Ann Qaw a1),(Qc.mk str_Bob Qaw (wr64 (0-a1)))].map Qc.cells))])
def f54n0S(a1:Int):Tr×Hp:=(Qal [(jI a1)] 0 .leaf,[])
noncomputable def f54n0(a1:Int):Option f54n0O :=
 some .ret
theorem f54n0_ok(a1:Int){o:f54n0O}(h:f54n0 a1=some o):T Tryd.prog Tryd.f54.ntmps 0 c54 (f54n0S a1) (·=f54n0E a1 o):=by
 unfold f54n0 at h;obtain rfl:=Qf h;exact rE Qi [j3,j3] [] [] [0] [2] (.ret,(f54n0E a1 .ret).2) an rfl
noncomputable def f54(a1:Int):Option (List Qc):=(f54n0 a1).bind fun o=>match o with
 | .ret=>some [(Qc.mk str_Ann Qaw a1),(Qc.mk str_Bob Qaw (wr64 (0-a1)))]
theorem f54_ok(a1:Int){r:List Qc}(h:f54 a1=some r):Ql Tryd.prog false 54 [(jI a1)] [] (jL 3 Qc.cells r) []:=by
 unfold f54 at h;obtain ⟨o,ho,h⟩:=Qe h;cases o with
 | ret =>
  obtain rfl:=Qf h;exact Ql.plain Qi (f:=Tryd.f54) (c:=c54) (by kernel_rfl) (by kernel_rfl) (by kernel_rfl) (by kernel_rfl) ((f54n0_ok a1 ho).mono fun r e=>by subst e; exact ⟨.inl rfl,(.own 0),(.pl (.sl .any 3 ([(Qc.mk str_Ann Qaw a1),(Qc.mk str_Bob Qaw (wr64 (0-a1)))].map Qc.cells))),by kernel_rfl,by kernel_rfl,((Wk.refl _):Wk (.pl (.sl .any 3 ([(Qc.mk str_Ann Qaw a1),(Qc.mk str_Bob Qaw (wr64 (0-a1)))].map Qc.cells))) (.pl (.sl .any 3 ([(Qc.mk str_Ann Qaw a1),(Qc.mk str_Bob Qaw (wr64 (0-a1)))].map Qc.cells))))⟩)

noncomputable def c44:Code:=Tryd.f44.body.getD .skip
inductive f44r1n0O where
 | ret (v5:List Qc)
def f44r1n0E(a1:List Qc):f44r1n0O→Ex×Tr×Hp
 | .ret v5=>(.ret,mkS [(2,(.own 0))],[jR 3 Qc.cells v5])
def f44r1n0S(a1:List Qc):Tr×Hp:=(Qal [(jL 3 Qc.cells a1)] 0 .leaf,[])
noncomputable def f44r1n0(a1:List Qc):Option f44r1n0O :=
 bif (a1.isEmpty) then
  some (.ret [])
 else
  req (fit a1.length 40) <|
  some (.ret a1)
theorem f44r1n0_ok(a1:List Qc){o:f44r1n0O}(h:f44r1n0 a1=some o):T Tryd.prog Tryd.f44.ntmps 0 c44 (f44r1n0S a1) (·=f44r1n0E a1 o):=by
 unfold f44r1n0 at h;refine rN Qi 1 [j3] [] [] [] [0] (mkS [(0,(jL 3 Qc.cells a1))],[]) an ?_;refine T.nest (by kernel_rfl) ?_;rcases Qg h with ⟨h2,h⟩|⟨h2,h⟩
 ·refine rN Qi 0 [] [] [] [] [0] (mkS [(0,(jL 3 Qc.cells a1))],[]) an ?_;refine T.oneNil Qi (x:=.tmp 0) (t:=44) (t3:=3) (t4:=4) (sz:=3) (es:=(a1.map Qc.cells)) (by kernel_rfl) (by kernel_rfl) (by kernel_rfl) (by kernel_rfl) (by kernel_rfl) (fun b hb=>?_);cases b
  ·refine rE Qi [] [none] [] [] [0] (.norm,(mkS [(0,(jL 3 Qc.cells a1))],[])) an (ThenQ.norm ?_);obtain rfl:=Qf h;exact rE Qi [([],[(2,.app false)],[])] [] [] [0] [2] (.ret,(f44r1n0E a1 (.ret [])).2) (ap (nil_map (c:=Qc.cells) h2) an) rfl
  ·obtain rfl:=Qf h;exact rE Qi [j3] [none] [.mat 2 3] [0] [2] (.ret,(f44r1n0E a1 (.ret [])).2) an (ThenQ.out rfl rfl)
 ·refine rN Qi 0 [] [] [] [] [0] (mkS [(0,(jL 3 Qc.cells a1))],[]) an ?_;refine T.oneNil Qi (x:=.tmp 0) (t:=44) (t3:=3) (t4:=4) (sz:=3) (es:=(a1.map Qc.cells)) (by kernel_rfl) (by kernel_rfl) (by kernel_rfl) (by kernel_rfl) (by kernel_rfl) (fun b hb=>?_);cases b
  ·refine rE Qi [] [none] [] [] [0] (.norm,(mkS [(0,(jL 3 Qc.cells a1))],[])) an (ThenQ.norm ?_);obtain ⟨h4,h⟩:=Qam h;obtain rfl:=Qf h;exact rE Qi [([],[(2,.app true)],[])] [] [] [1] [2] (.ret,(f44r1n0E a1 (.ret a1)).2) (ap (fit_map0z (te:=ti92) (xs:=a1) (c:=Qc.cells) h4 rfl) (ap (ne_map (c:=Qc.cells) h2) (ap (len_all (c:=Qc.cells) (xs:=a1) (n:=3) (fun _=>rfl)) an))) rfl
  ·exact absurd (hb rfl) (ne_map (c:=Qc.cells) h2)
noncomputable def f44r1(a1:List Qc):Option (List Qc):=(f44r1n0 a1).bind fun o=>match o with
 | .ret v5=>some v5
theorem f44r1_ok(a1:List Qc){r:List Qc}(h:f44r1 a1=some r):Ql Tryd.prog true 44 [(jL 3 Qc.cells a1)] [] (.own 0) [jR 3 Qc.cells r]:=by
 unfold f44r1 at h;obtain ⟨o,ho,h⟩:=Qe h;cases o with
 | ret v5 =>
  obtain rfl:=Qf h;exact Ql.shared Qi (f:=Tryd.f44) (c:=c44) (by kernel_rfl) (by kernel_rfl) (by kernel_rfl) ((f44r1n0_ok a1 ho).mono fun r e=>by subst e; exact ⟨.inl rfl,by kernel_rfl,by kernel_rfl⟩)

noncomputable def c60:Code:=Tryd.f60.body.getD .skip
inductive f60n0O where
 | ret (v10:Bool)
def f60n0E(a1:Int):f60n0O→Ex×Tr×Hp
 | .ret v10=>(.ret,mkS [(2,(jB v10))],[])
def f60n0S(a1:Int):Tr×Hp:=(Qal [(.pl (.int .u8 a1))] 0 .leaf,[])
noncomputable def f60n0(a1:Int):Option f60n0O :=
 bif decide (97≤a1) then
  bif decide (a1≤122) then
   some (.ret true)
  else
   bif decide (65≤a1) then
    some (.ret (decide (a1≤90)))
   else
    some (.ret false)
 else
  bif decide (65≤a1) then
   some (.ret (decide (a1≤90)))
  else
   some (.ret false)
theorem f60n0_ok(a1:Int){o:f60n0O}(h:f60n0 a1=some o):T Tryd.prog Tryd.f60.ntmps 0 c60 (f60n0S a1) (·=f60n0E a1 o):=by
 unfold f60n0 at h;rcases Qg h with ⟨h6,h⟩|⟨h6,h⟩
 ·rcases Qg h with ⟨h7,h⟩|⟨h7,h⟩
  ·obtain rfl:=Qf h;exact rE Qi [j3,(jT [3,4,7,8,9,12],[(5,.bool true),(13,.bool true)],[])] [] [] [] [2] (.ret,(f60n0E a1 (.ret true)).2) (ap3 h6 (ap h7 (ap4 h7 an))) rfl
  ·rcases Qg h with ⟨h8,h⟩|⟨h8,h⟩
   ·obtain rfl:=Qf h;exact rE Qi [j3,(jF [7,8,9,12]++jT [3,4,10,11],[(5,.bool true),(12,.bool true),(13,.bool false)],[])] [] [] [] [2] (.ret,(f60n0E a1 (.ret (decide (a1≤90)))).2) (ap3 h6 (ap3 h7 (ap2 h8 (ap h7 (ap h8 (ap h7 an)))))) rfl
   ·obtain rfl:=Qf h;exact rE Qi [j3,(jF [7,8,9,10,11,12]++jT [3,4],[(5,.bool true),(12,.bool false),(13,.bool false)],[])] [] [] [] [2] (.ret,(f60n0E a1 (.ret false)).2) (ap3 h6 (ap3 h7 (ap2 h8 (ap h7 (ap h8 (ap h7 an)))))) rfl
 ·rcases Qg h with ⟨h9,h⟩|⟨h9,h⟩
  ·obtain rfl:=Qf h;exact rE Qi [j3,(jF [3,4]++jT [10,11],[(5,.bool false),(12,.bool true)],[])] [] [] [] [2] (.ret,(f60n0E a1 (.ret (decide (a1≤90)))).2) (ap3 h6 (ap3 h9 an)) rfl
  ·obtain rfl:=Qf h;exact rE Qi [j3,(jF [3,4,10,11],[(5,.bool false),(12,.bool false)],[])] [] [] [] [2] (.ret,(f60n0E a1 (.ret false)).2) (ap3 h6 (ap3 h9 an)) rfl
noncomputable def f60(a1:Int):Option Bool:=(f60n0 a1).bind fun o=>match o with
 | .ret v10=>some v10
theorem f60_ok(a1:Int){r:Bool}(h:f60 a1=some r):Ql Tryd.prog false 60 [(.pl (.int .u8 a1))] [] (jB r) []:=by
 unfold f60 at h;obtain ⟨o,ho,h⟩:=Qe h;cases o with
 | ret v10 =>
  obtain rfl:=Qf h;exact Ql.plain Qi (f:=Tryd.f60) (c:=c60) (by kernel_rfl) (by kernel_rfl) (by kernel_rfl) (by kernel_rfl) ((f60n0_ok a1 ho).mono fun r e=>by subst e; exact ⟨.inl rfl,(jB v10),(jB v10),by kernel_rfl,by kernel_rfl,((Wk.refl _):Wk (jB v10) (jB v10))⟩)

noncomputable def c40:Code:=Tryd.f40.body.getD .skip
inductive f40n3O where
 | norm (v148:Bool)
def f40n3E(bd1:ByteArray)(be2:UInt8)(bf3:Int):f40n3O→Ex×Tr×Hp
 | .norm v148=>(.norm,mkS [(0,(jS bd1)),(20,(jI (bd1.size:Int))),(21,(jI bf3)),(45,(jB v148))],[])
def f40n3S(bd1:ByteArray)(be2:UInt8)(bf3:Int):Tr×Hp:=(mkS [(0,(jS bd1)),(4,(.pl (.int .u8 (be2.toNat:Int)))),(20,(jI (bd1.size:Int))),(21,(jI bf3))],[])
noncomputable def f40n3(bd1:ByteArray)(be2:UInt8)(bf3:Int):Option f40n3O :=
 (f60 (be2.toNat:Int)).bind fun x141 =>
 bif x141 then
  some (.norm false)
 else
  bif decide ((be2.toNat:Int)<48) then
   bif decide ((be2.toNat:Int)=95) then
    some (.norm false)
   else
    some (.norm (!(decide ((be2.toNat:Int)=45))))
  else
   bif decide (57<(be2.toNat:Int)) then
    bif decide ((be2.toNat:Int)=95) then
     some (.norm false)
    else
     some (.norm (!(decide ((be2.toNat:Int)=45))))
   else
    some (.norm false)
theorem f40n3_ok(bd1:ByteArray)(be2:UInt8)(bf3:Int){o:f40n3O}(h:f40n3 bd1 be2 bf3=some o):T Tryd.prog Tryd.f40.ntmps 0 (cL (Qt 2 (cL (cL (Qt 2 (cL (cL (Qt 1 (cL (Qt 2 c40)))))))))) (f40n3S bd1 be2 bf3) (·=f40n3E bd1 be2 bf3 o):=by
 unfold f40n3 at h;obtain ⟨x141,h142,h⟩:=Qe h;rcases Qg h with ⟨h143,h⟩|⟨h143,h⟩
 ·obtain rfl:=Qf h;exact rE Qi [(jF [4,5,6,9],[jH 1 (jB x141),(10,.bool false)],[])] [] [] [] [0,20,21,45] (.norm,(f40n3E bd1 be2 bf3 (.norm false)).2) (ap (Qq h143) (ap4 (Qq h143) (ap (f60_ok (be2.toNat:Int) h142) an))) rfl
 ·rcases Qg h with ⟨h144,h⟩|⟨h144,h⟩
  ·rcases Qg h with ⟨h145,h⟩|⟨h145,h⟩
   ·obtain rfl:=Qf h;exact rE Qi [(jF [16,17]++jT [4,5,6,7,8,9],[jH 1 (jB x141),(9,.bool true),(10,.bool true),(18,.bool false)],[])] [] [] [] [0,20,21,45] (.norm,(f40n3E bd1 be2 bf3 (.norm false)).2) (ap3 (Qaf h143) (ap2 h144 (ap (Qaf h143) (ap h144 (ap (Qaf h143) (ap3 (Qq h145) (ap (f60_ok (be2.toNat:Int) h142) an))))))) rfl
   ·obtain rfl:=Qf h;exact rE Qi [(jT [4,5,6,7,8,9,16,17],[jH 1 (jB x141),(9,.bool true),(10,.bool true),(18,.bool true)],[])] [] [] [] [0,20,21,45] (.norm,(f40n3E bd1 be2 bf3 (.norm (!(decide ((be2.toNat:Int)=45))))).2) (ap3 (Qaf h143) (ap2 h144 (ap (Qaf h143) (ap h144 (ap (Qaf h143) (ap3 (Qaf h145) (ap (f60_ok (be2.toNat:Int) h142) an))))))) rfl
  ·rcases Qg h with ⟨h146,h⟩|⟨h146,h⟩
   ·rcases Qg h with ⟨h147,h⟩|⟨h147,h⟩
    ·obtain rfl:=Qf h;exact rE Qi [(jF [7,8,16,17]++jT [4,5,6,9,12,13],[jH 1 (jB x141),(9,.bool false),(10,.bool true),(14,.bool true),(18,.bool false)],[])] [] [] [] [0,20,21,45] (.norm,(f40n3E bd1 be2 bf3 (.norm false)).2) (ap3 (Qaf h143) (ap2 h144 (ap (Qaf h143) (ap h144 (ap (Qaf h143) (ap3 h146 (ap3 (Qq h147) (ap (f60_ok (be2.toNat:Int) h142) an)))))))) rfl
    ·obtain rfl:=Qf h;exact rE Qi [(jF [7,8]++jT [4,5,6,9,12,13,16,17],[jH 1 (jB x141),(9,.bool false),(10,.bool true),(14,.bool true),(18,.bool true)],[])] [] [] [] [0,20,21,45] (.norm,(f40n3E bd1 be2 bf3 (.norm (!(decide ((be2.toNat:Int)=45))))).2) (ap3 (Qaf h143) (ap2 h144 (ap (Qaf h143) (ap h144 (ap (Qaf h143) (ap3 h146 (ap3 (Qaf h147) (ap (f60_ok (be2.toNat:Int) h142) an)))))))) rfl
   ·obtain rfl:=Qf h;exact rE Qi [(jF [7,8,12,13]++jT [4,5,6,9],[jH 1 (jB x141),(9,.bool false),(10,.bool true),(14,.bool false)],[])] [] [] [] [0,20,21,45] (.norm,(f40n3E bd1 be2 bf3 (.norm false)).2) (ap3 (Qaf h143) (ap2 h144 (ap (Qaf h143) (ap h144 (ap (Qaf h143) (ap3 h146 (ap (f60_ok (be2.toNat:Int) h142) an))))))) rfl
inductive f40n2O where
 | norm
 | ret
def f40n2E(bd1:ByteArray)(bf2:Int):f40n2O→Ex×Tr×Hp
 | .norm=>(.norm,mkS [(0,(jS bd1)),(20,(jI (bd1.size:Int))),(21,(jI bf2))],[])
 | .ret=>(.ret,mkS [(2,(jB false))],[])
def f40n2S(bd1:ByteArray)(bf2:Int):Tr×Hp:=(mkS [(0,(jS bd1)),(20,(jI (bd1.size:Int))),(21,(jI bf2))],[])
noncomputable def f40n2(bd1:ByteArray)(bf2:Int):Option f40n2O :=
 (at? bd1.data.toList bf2).bind fun x125 =>
 (f40n3 bd1 x125 bf2).bind fun o149=>match o149 with
 | .norm v151=>bif v151 then
   some .ret
  else
   some .norm
theorem f40n2_ok(bd1:ByteArray)(bf2:Int){o:f40n2O}(h:f40n2 bd1 bf2=some o):T Tryd.prog Tryd.f40.ntmps 0 (cL (Qt 2 (cL (cL (Qt 1 (cL (Qt 2 c40))))))) (f40n2S bd1 bf2) (·=f40n2E bd1 bf2 o):=by
 unfold f40n2 at h;refine T.block' (i:=1) (by kernel_rfl) ?_;obtain ⟨x125,h126,h⟩:=Qe h;refine rN Qi 2 [j3,([],[(2,.byte (Int.toNat bf2) x125)],[])] [] [] [] [0,4,20,21] (f40n3S bd1 x125 bf2) (ap (Qm h126).1 (ap (Qm h126).2 an)) ?_;obtain ⟨o149,h150,h⟩:=Qe h;cases o149 with
 | norm v151 =>
  refine T.oneN (by kernel_rfl) (f40n3_ok bd1 x125 bf2 h150) (st2:=(f40n3E bd1 x125 bf2 (.norm v151)).2) rfl ?_;rcases Qg h with ⟨h153,h⟩|⟨h153,h⟩
  ·obtain rfl:=Qf h;exact rE Qi [j3] [some true] [] [] [2] (.ret,(f40n2E bd1 bf2 .ret).2) (ap h153 an) rfl
  ·obtain rfl:=Qf h;exact rE Qi [] [some false] [] [] [0,20,21] (.norm,(f40n2E bd1 bf2 .norm).2) (ap h153 an) rfl
inductive f40n4O where
 | exit0
 | ret
def f40n4E(bd1:ByteArray):f40n4O→Ex×Tr×Hp
 | .exit0=>((.exit 0),mkS [],[])
 | .ret=>(.ret,mkS [(2,(jB false))],[])
def f40n4S(bd1:ByteArray)(v109:Int):Tr×Hp:=(mkS [(0,(jS bd1)),(20,(jI (bd1.size:Int))),(21,(jI v109))],[])
noncomputable def f40n4:Nat→ByteArray→Int→Option f40n4O
 | 0,_,_=>none
 | f+1,bd1,v109 =>
  bif decide (v109<(bd1.size:Int)) then
   (f40n2 bd1 v109).bind fun o154=>match o154 with
   | .norm=>(f40n4 f bd1 (wr64 (v109+1)))
   | .ret=>some .ret
  else
   some .exit0
theorem f40n4_ok:∀(f:Nat)(bd1:ByteArray)(v109:Int){o:f40n4O},f40n4 f bd1 v109=some o→TL Tryd.prog Tryd.f40.ntmps 0 f (cL (cL (Qt 1 (cL (Qt 2 c40))))) (f40n4S bd1 v109) (·=f40n4E bd1 o)
 | 0,_,_,o,h=>by rw [f40n4] at h; cases h
 | f+1,bd1,v109,o,h=>by
  rw [f40n4] at h;refine TL.body (K:=fun s=>∃v109:Int,s=(f40n4S bd1 v109)∧f40n4 f bd1 v109=some o) ?_ (by rintro _ ⟨v109,rfl,hk⟩; exact f40n4_ok f _ _ hk);rcases Qg h with ⟨h111,h⟩|⟨h111,h⟩
  ·refine rN Qi 2 [j3] [some true] [] [] [0,20,21] (f40n2S bd1 v109) (ap h111 an) ?_;obtain ⟨o154,h155,h⟩:=Qe h;cases o154 with
   | norm =>
    refine T.oneN (by kernel_rfl) (f40n2_ok bd1 v109 h155) (st2:=(f40n2E bd1 v109 .norm).2) rfl ?_;exact rE Qi [j3] [] [] [] [0,20,21] (.norm,(f40n4S bd1 (wr64 (v109+1)))) an (Qad.norm ⟨(wr64 (v109+1)),rfl,h⟩)
   | ret =>
    obtain rfl:=Qf h;exact T.oneX' (by kernel_rfl) (f40n2_ok bd1 v109 h155) (tds:=[]) (m:=[]) (keep:=[2]) (st2:=(f40n4E bd1 .ret).2) (by kernel_rfl) an rfl (Qad.out rfl rfl)
  ·obtain rfl:=Qf h;exact rK Qi 2 [j3] [some false] [] [] [] (.exit 0) ((f40n4E bd1 .exit0).2) (ap h111 an) (Qad.out rfl rfl)
inductive f40n1O where
 | norm
 | ret
def f40n1E(bd1:ByteArray):f40n1O→Ex×Tr×Hp
 | .norm=>(.norm,mkS [],[])
 | .ret=>(.ret,mkS [(2,(jB false))],[])
def f40n1S(bd1:ByteArray):Tr×Hp:=(mkS [(0,(jS bd1))],[])
noncomputable def f40n1(bd1:ByteArray):Option f40n1O :=
 (f40n4 FUEL bd1 0).bind fun o156=>match o156 with
 | .exit0=>some .norm
 | .ret=>some .ret
theorem f40n1_ok(bd1:ByteArray){o:f40n1O}(h:f40n1 bd1=some o):T Tryd.prog Tryd.f40.ntmps 0 (cL (Qt 2 c40)) (f40n1S bd1) (·=f40n1E bd1 o):=by
 unfold f40n1 at h;refine rN Qi 1 [j3] [] [] [] [0,20,21] (f40n4S bd1 0) an ?_;obtain ⟨o156,h157,h⟩:=Qe h;cases o156 with
 | exit0 =>
  obtain rfl:=Qf h;exact T.last' (T.bl (i:=0) (by kernel_rfl) (by kernel_rfl) (f40n4_ok FUEL bd1 0 h157)) (tds:=[]) (m:=[]) (keep:=[]) (st2:=(f40n1E bd1 .norm).2) (by kernel_rfl) an rfl
 | ret =>
  obtain rfl:=Qf h;exact T.last' (T.bl (i:=0) (by kernel_rfl) (by kernel_rfl) (f40n4_ok FUEL bd1 0 h157)) (tds:=[]) (m:=[]) (keep:=[2]) (st2:=(f40n1E bd1 .ret).2) (by kernel_rfl) an rfl
inductive f40n0O where
 | ret (v160:Bool)
def f40n0E(a1:ByteArray):f40n0O→Ex×Tr×Hp
 | .ret v160=>(.ret,mkS [(2,(jB v160))],[])
def f40n0S(a1:ByteArray):Tr×Hp:=(Qal [(jS a1)] 0 .leaf,[])
noncomputable def f40n0(a1:ByteArray):Option f40n0O :=
 bif decide ((a1.size:Int)<1) then
  some (.ret false)
 else
  bif decide (40<(a1.size:Int)) then
   some (.ret false)
  else
   (at? a1.data.toList 0).bind fun x11 =>
   (f60 (x11.toNat:Int)).bind fun x13 =>
   bif x13 then
    (f40n1 a1).bind fun o158=>match o158 with
    | .norm=>some (.ret true)
    | .ret=>some (.ret false)
   else
    some (.ret false)
theorem f40n0_ok(a1:ByteArray){o:f40n0O}(h:f40n0 a1=some o):T Tryd.prog Tryd.f40.ntmps 0 c40 (f40n0S a1) (·=f40n0E a1 o):=by
 unfold f40n0 at h;rcases Qg h with ⟨h9,h⟩|⟨h9,h⟩
 ·obtain rfl:=Qf h;exact rK Qi 2 [j3,(jT [4,5,6],[(7,.bool true)],[]),j3] [none] [] [] [2] .ret ((f40n0E a1 (.ret false)).2) (ap4 h9 an) rfl
 ·rcases Qg h with ⟨h10,h⟩|⟨h10,h⟩
  ·obtain rfl:=Qf h;exact rK Qi 2 [j3,(jF [4,5,6]++jT [9,10,11,12],[(7,.bool false),(13,.bool true)],[]),j3] [none] [] [] [2] .ret ((f40n0E a1 (.ret false)).2) (ap4 h9 (ap h10 (ap4 h10 an))) rfl
  ·obtain ⟨x11,h12,h⟩:=Qe h;obtain ⟨x13,h14,h⟩:=Qe h;rcases Qg h with ⟨h15,h⟩|⟨h15,h⟩
   ·refine rN Qi 2 [j3,(jF [4,5,6,9,10,11,12],[(7,.bool false),(10,.byte (Int.toNat 0) x11),jH 11 (jB x13),(13,.bool false)],[])] [some false] [] [] [0] (f40n1S a1) (ap4 h9 (ap2 h10 (ap (Qm h12).1 (ap (Qm h12).2 (ap3 h10 (ap (f60_ok (x11.toNat:Int) h14) (ap (Qq h15) an))))))) ?_;obtain ⟨o158,h159,h⟩:=Qe h;cases o158 with
    | norm =>
     refine T.oneN (by kernel_rfl) (f40n1_ok a1 h159) (st2:=(f40n1E a1 .norm).2) rfl ?_;obtain rfl:=Qf h;exact rE Qi [j3] [] [] [] [2] (.ret,(f40n0E a1 (.ret true)).2) an rfl
    | ret =>
     obtain rfl:=Qf h;exact T.oneX' (by kernel_rfl) (f40n1_ok a1 h159) (tds:=[]) (m:=[]) (keep:=[2]) (st2:=(f40n0E a1 (.ret false)).2) (by kernel_rfl) an rfl rfl
   ·obtain rfl:=Qf h;exact rK Qi 2 [j3,(jF [4,5,6,9,10,11,12],[(7,.bool false),(10,.byte (Int.toNat 0) x11),jH 11 (jB x13),(13,.bool false)],[]),j3] [some true] [] [] [2] .ret ((f40n0E a1 (.ret false)).2) (ap4 h9 (ap2 h10 (ap (Qm h12).1 (ap (Qm h12).2 (ap3 h10 (ap (f60_ok (x11.toNat:Int) h14) (ap (Qaf h15) an))))))) rfl
noncomputable def f40(a1:ByteArray):Option Bool:=(f40n0 a1).bind fun o=>match o with
 | .ret v160=>some v160
theorem Qaq(a1:ByteArray){r:Bool}(h:f40 a1=some r):Ql Tryd.prog false 40 [(jS a1)] [] (jB r) []:=by
 unfold f40 at h;obtain ⟨o,ho,h⟩:=Qe h;cases o with
 | ret v160 =>
  obtain rfl:=Qf h;exact Ql.plain Qi (f:=Tryd.f40) (c:=c40) (by kernel_rfl) (by kernel_rfl) (by kernel_rfl) (by kernel_rfl) ((f40n0_ok a1 ho).mono fun r e=>by subst e; exact ⟨.inl rfl,(jB v160),(jB v160),by kernel_rfl,by kernel_rfl,((Wk.refl _):Wk (jB v160) (jB v160))⟩)

noncomputable def c64:Code:=Tryd.f64.body.getD .skip
inductive f64n0O where
 | ret (v4:Bool)
def f64n0E(a1:Int):f64n0O→Ex×Tr×Hp
 | .ret v4=>(.ret,mkS [(2,(jB v4))],[])
def f64n0S(a1:Int):Tr×Hp:=(Qal [(jI a1)] 0 .leaf,[])
noncomputable def f64n0(a1:Int):Option f64n0O :=
 bif decide ((-1125899906842624)≤a1) then
  some (.ret (decide (a1≤1125899906842624)))
 else
  some (.ret false)
theorem f64n0_ok(a1:Int){o:f64n0O}(h:f64n0 a1=some o):T Tryd.prog Tryd.f64.ntmps 0 c64 (f64n0S a1) (·=f64n0E a1 o):=by
 unfold f64n0 at h;rcases Qg h with ⟨h3,h⟩|⟨h3,h⟩
 ·obtain rfl:=Qf h;exact rE Qi [j3,([(3,true),(4,true)],[(5,.bool true)],[])] [] [] [] [2] (.ret,(f64n0E a1 (.ret (decide (a1≤1125899906842624)))).2) (ap3 h3 an) rfl
 ·obtain rfl:=Qf h;exact rE Qi [j3,([(3,false),(4,false)],[(5,.bool false)],[])] [] [] [] [2] (.ret,(f64n0E a1 (.ret false)).2) (ap3 h3 an) rfl
noncomputable def f64(a1:Int):Option Bool:=(f64n0 a1).bind fun o=>match o with
 | .ret v4=>some v4
theorem f64_ok(a1:Int){r:Bool}(h:f64 a1=some r):Ql Tryd.prog false 64 [(jI a1)] [] (jB r) []:=by
 unfold f64 at h;obtain ⟨o,ho,h⟩:=Qe h;cases o with
 | ret v4 =>
  obtain rfl:=Qf h;exact Ql.plain Qi (f:=Tryd.f64) (c:=c64) (by kernel_rfl) (by kernel_rfl) (by kernel_rfl) (by kernel_rfl) ((f64n0_ok a1 ho).mono fun r e=>by subst e; exact ⟨.inl rfl,(jB v4),(jB v4),by kernel_rfl,by kernel_rfl,((Wk.refl _):Wk (jB v4) (jB v4))⟩)

noncomputable def c63:Code:=Tryd.f63.body.getD .skip
inductive f63n0O where
 | ret (v20:Bool)
def f63n0E(a1:Qc):f63n0O→Ex×Tr×Hp
 | .ret v20=>(.ret,mkS [(2,(jB v20))],[])
def f63n0S(a1:Qc):Tr×Hp:=(Qal [(jA Qc.cells a1)] 0 .leaf,[])
noncomputable def f63n0(a1:Qc):Option f63n0O :=
 (f40 a1.Account).bind fun x11 =>
 bif x11 then
  (f40 a1.Ccy).bind fun x14 =>
  bif x14 then
   bif decide (a1.Amount=0) then
    some (.ret true)
   else
    (f64 a1.Amount).bind fun x18 =>
    some (.ret (!x18))
  else
   some (.ret true)
 else
  some (.ret true)
theorem f63n0_ok(a1:Qc){o:f63n0O}(h:f63n0 a1=some o):T Tryd.prog Tryd.f63.ntmps 0 c63 (f63n0S a1) (·=f63n0E a1 o):=by
 unfold f63n0 at h;obtain ⟨x11,h12,h⟩:=Qe h;rcases Qg h with ⟨h13,h⟩|⟨h13,h⟩
 ·obtain ⟨x14,h15,h⟩:=Qe h;rcases Qg h with ⟨h16,h⟩|⟨h16,h⟩
  ·rcases Qg h with ⟨h17,h⟩|⟨h17,h⟩
   ·obtain rfl:=Qf h;exact rE Qi [j3,(jF [5,6,7,8,11,12,13]++jT [16,17,18,19],[jH 2 (jB x11),jH 7 (jB x14),(9,.bool false),(14,.bool false),(20,.bool true)],[])] [] [] [] [2] (.ret,(f63n0E a1 (.ret true)).2) (ap (Qq h13) (ap4 (Qq h13) (ap4 (Qq h16) (ap h17 (ap4 h17 (ap (Qaq a1.Account h12) (ap (Qaq a1.Ccy h15) an))))))) rfl
   ·obtain ⟨x18,h19,h⟩:=Qe h;obtain rfl:=Qf h;exact rE Qi [j3,(jF [5,6,7,8,11,12,13,16,17,18,19],[jH 2 (jB x11),jH 7 (jB x14),(9,.bool false),(14,.bool false),jH 18 (jB x18),(20,.bool false)],[])] [] [] [] [2] (.ret,(f63n0E a1 (.ret (!x18))).2) (ap (Qq h13) (ap4 (Qq h13) (ap4 (Qq h16) (ap h17 (ap4 h17 (ap (Qaq a1.Account h12) (ap (Qaq a1.Ccy h15) (ap (f64_ok a1.Amount h19) an)))))))) rfl
  ·obtain rfl:=Qf h;exact rE Qi [j3,(jF [5,6,7,8]++jT [11,12,13],[jH 2 (jB x11),jH 7 (jB x14),(9,.bool false),(14,.bool true)],[])] [] [] [] [2] (.ret,(f63n0E a1 (.ret true)).2) (ap (Qq h13) (ap4 (Qq h13) (ap4 (Qaf h16) (ap (Qaq a1.Account h12) (ap (Qaq a1.Ccy h15) an))))) rfl
 ·obtain rfl:=Qf h;exact rE Qi [j3,(jT [5,6,7,8],[jH 2 (jB x11),(9,.bool true)],[])] [] [] [] [2] (.ret,(f63n0E a1 (.ret true)).2) (ap (Qaf h13) (ap4 (Qaf h13) (ap (Qaq a1.Account h12) an))) rfl
noncomputable def f63(a1:Qc):Option Bool:=(f63n0 a1).bind fun o=>match o with
 | .ret v20=>some v20
theorem f63_ok(a1:Qc){r:Bool}(h:f63 a1=some r):Ql Tryd.prog false 63 [(jA Qc.cells a1)] [] (jB r) []:=by
 unfold f63 at h;obtain ⟨o,ho,h⟩:=Qe h;cases o with
 | ret v20 =>
  obtain rfl:=Qf h;exact Ql.plain Qi (f:=Tryd.f63) (c:=c63) (by kernel_rfl) (by kernel_rfl) (by kernel_rfl) (by kernel_rfl) ((f63n0_ok a1 ho).mono fun r e=>by subst e; exact ⟨.inl rfl,(jB v20),(jB v20),by kernel_rfl,by kernel_rfl,((Wk.refl _):Wk (jB v20) (jB v20))⟩)

noncomputable def c81:Code:=Tryd.f81.body.getD .skip
inductive f81_63n2O where
 | exit0
 | ret (v40:Int)
def f81_63n2E(bc1:List Qc):f81_63n2O→Ex×Tr×Hp
 | .exit0=>((.exit 0),mkS [],[])
 | .ret v40=>(.ret,mkS [(4,(jI v40))],[])
def f81_63n2S(bc1:List Qc)(v27:Int):Tr×Hp:=(mkS [(0,(jL 3 Qc.cells bc1)),(1,(.pl (.fn 63))),(7,(jI (bc1.length:Int))),(8,(jI v27))],[])
noncomputable def f81_63n2:Nat→List Qc→Int→Option f81_63n2O
 | 0,_,_=>none
 | f+1,bc1,v27 =>
  bif decide (v27<(bc1.length:Int)) then
   (at? bc1 v27).bind fun x35 =>
   (f63 x35).bind fun x37 =>
   bif x37 then
    some (.ret v27)
   else
    (f81_63n2 f bc1 (wr64 (v27+1)))
  else
   some .exit0
theorem f81_63n2_ok:∀(f:Nat)(bc1:List Qc)(v27:Int){o:f81_63n2O},f81_63n2 f bc1 v27=some o→TL Tryd.prog Tryd.f81.ntmps 0 f (cL (cL (Qt 1 (cL (Qt 1 c81))))) (f81_63n2S bc1 v27) (·=f81_63n2E bc1 o)
 | 0,_,_,o,h=>by rw [f81_63n2] at h; cases h
 | f+1,bc1,v27,o,h=>by
  rw [f81_63n2] at h;refine TL.body (K:=fun s=>∃v27:Int,s=(f81_63n2S bc1 v27)∧f81_63n2 f bc1 v27=some o) ?_ (by rintro _ ⟨v27,rfl,hk⟩; exact f81_63n2_ok f _ _ hk);rcases Qg h with ⟨h29,h⟩|⟨h29,h⟩
  ·obtain ⟨x35,h36,h⟩:=Qe h;obtain ⟨x37,h38,h⟩:=Qe h;rcases Qg h with ⟨h39,h⟩|⟨h39,h⟩
   ·obtain rfl:=Qf h;exact rK Qi 3 [j3,j3,([],[(3,.idx (Int.toNat v27) (Qc.cells x35)),jH 5 (jB x37)],[]),j3] [some true,some true] [] [] [4] .ret ((f81_63n2E bc1 (.ret v27)).2) (ap h29 (ap (Qm h36).1 (ap (Qag Qc.cells (Qm h36).2) (ap (f63_ok x35 h38) (ap h39 an))))) (Qad.out rfl rfl)
   ·exact rE Qi [j3,j3,([],[(3,.idx (Int.toNat v27) (Qc.cells x35)),jH 5 (jB x37)],[]),j3] [some true,some false] [] [] [0,1,7,8] (.norm,(f81_63n2S bc1 (wr64 (v27+1)))) (ap h29 (ap (Qm h36).1 (ap (Qag Qc.cells (Qm h36).2) (ap (f63_ok x35 h38) (ap h39 an))))) (Qad.norm ⟨(wr64 (v27+1)),rfl,h⟩)
  ·obtain rfl:=Qf h;exact rK Qi 2 [j3] [some false] [] [] [] (.exit 0) ((f81_63n2E bc1 .exit0).2) (ap h29 an) (Qad.out rfl rfl)
noncomputable def f81_63n2L(bc1:List Qc):List Qc→Int→Option f81_63n2O
 | [],v27 =>
  some .exit0
 | x0::rest,v27 =>
  (f63 x0).bind fun x37 =>
  bif x37 then
   some (.ret v27)
  else
   (f81_63n2L bc1 rest (v27+1))
theorem f81_63n2L_eq(bc1:List Qc):∀(rest:List Qc)(f k:Nat),bc1.drop k=rest→bc1.length≤maxLen→rest.length<f→f81_63n2 f bc1 (k:Int)=f81_63n2L bc1 rest (k:Int)
 | _,0,_,_,_,hf=>absurd hf (Nat.not_lt_zero _)
 | [],f+1,k,hd,hm,hf=>by
  have hk:¬((k:Int)<(bc1.length:Int)):=by have:=Qbj hd; omega
  rw [f81_63n2,f81_63n2L];simp only [decide_eq_false hk,cond_false]
 | x0::rest,f+1,k,hd,hm,hf=>by
  obtain ⟨hx,hlt,hd'⟩:=Qbn hd;have hk:(k:Int)<(bc1.length:Int):=by omega
  have hw:wr64 ((k:Int)+1)=(k:Int)+1:=wr64_of (by omega) (by unfold maxLen at hm; omega);have ih:f81_63n2 f bc1 ((k:Int)+1)=f81_63n2L bc1 rest ((k:Int)+1):=f81_63n2L_eq bc1 rest f (k+1) hd' hm (by simpa using hf);rw [f81_63n2,f81_63n2L];simp only [decide_eq_true hk,cond_true,at_nat,hx,Option.bind_some,hw,ih]
theorem f81_63n2_run(bc1:List Qc)(hm:bc1.length≤maxLen):f81_63n2 FUEL bc1 0=f81_63n2L bc1 bc1 0:=f81_63n2L_eq bc1 bc1 FUEL 0 List.drop_zero hm (lt_FUEL hm)
inductive f81_63n1O where
 | norm
 | ret (v44:Int)
def f81_63n1E(bc1:List Qc):f81_63n1O→Ex×Tr×Hp
 | .norm=>(.norm,mkS [],[])
 | .ret v44=>(.ret,mkS [(4,(jI v44))],[])
def f81_63n1S(bc1:List Qc):Tr×Hp:=(mkS [(0,(jL 3 Qc.cells bc1)),(1,(.pl (.fn 63)))],[])
noncomputable def f81_63n1(bc1:List Qc):Option f81_63n1O :=
 (f81_63n2 FUEL bc1 0).bind fun o41=>match o41 with
 | .exit0=>some .norm
 | .ret v43=>some (.ret v43)
theorem f81_63n1_ok(bc1:List Qc){o:f81_63n1O}(h:f81_63n1 bc1=some o):T Tryd.prog Tryd.f81.ntmps 0 (cL (Qt 1 c81)) (f81_63n1S bc1) (·=f81_63n1E bc1 o):=by
 unfold f81_63n1 at h;refine rN Qi 1 [([],[],[(1,.val (jI (bc1.length:Int)))])] [] [] [] [0,1,7,8] (f81_63n2S bc1 0) (ap (Qan (xs:=bc1) (c:=Qc.cells)) an) ?_;obtain ⟨o41,h42,h⟩:=Qe h;cases o41 with
 | exit0 =>
  obtain rfl:=Qf h;exact T.last' (T.bl (i:=0) (by kernel_rfl) (by kernel_rfl) (f81_63n2_ok FUEL bc1 0 h42)) (tds:=[]) (m:=[]) (keep:=[]) (st2:=(f81_63n1E bc1 .norm).2) (by kernel_rfl) an rfl
 | ret v43 =>
  obtain rfl:=Qf h;exact T.last' (T.bl (i:=0) (by kernel_rfl) (by kernel_rfl) (f81_63n2_ok FUEL bc1 0 h42)) (tds:=[]) (m:=[]) (keep:=[4]) (st2:=(f81_63n1E bc1 (.ret v43)).2) (by kernel_rfl) an rfl
inductive f81_63n0O where
 | ret (v48:Int)
def f81_63n0E(a1:List Qc):f81_63n0O→Ex×Tr×Hp
 | .ret v48=>(.ret,mkS [(4,(jI v48))],[])
def f81_63n0S(a1:List Qc):Tr×Hp:=(Qal [(jL 3 Qc.cells a1),(.pl (.fn 63))] 0 .leaf,[])
noncomputable def f81_63n0(a1:List Qc):Option f81_63n0O :=
 (f81_63n1 a1).bind fun o45=>match o45 with
 | .norm=>some (.ret (-1))
 | .ret v47=>some (.ret v47)
theorem f81_63n0_ok(a1:List Qc){o:f81_63n0O}(h:f81_63n0 a1=some o):T Tryd.prog Tryd.f81.ntmps 0 c81 (f81_63n0S a1) (·=f81_63n0E a1 o):=by
 unfold f81_63n0 at h;refine rN Qi 1 [j3] [] [] [] [0,1] (f81_63n1S a1) an ?_;obtain ⟨o45,h46,h⟩:=Qe h;cases o45 with
 | norm =>
  refine T.oneN (by kernel_rfl) (f81_63n1_ok a1 h46) (st2:=(f81_63n1E a1 .norm).2) rfl ?_;obtain rfl:=Qf h;exact rE Qi [j3] [] [] [] [4] (.ret,(f81_63n0E a1 (.ret (-1))).2) an rfl
 | ret v47 =>
  obtain rfl:=Qf h;exact T.oneX' (by kernel_rfl) (f81_63n1_ok a1 h46) (tds:=[]) (m:=[]) (keep:=[4]) (st2:=(f81_63n0E a1 (.ret v47)).2) (by kernel_rfl) an rfl rfl
noncomputable def f81_63(a1:List Qc):Option Int:=(f81_63n0 a1).bind fun o=>match o with
 | .ret v48=>some v48
theorem f81_63_ok(a1:List Qc){r:Int}(h:f81_63 a1=some r):Ql Tryd.prog false 81 [(jL 3 Qc.cells a1),(.pl (.fn 63))] [] (jI r) []:=by
 unfold f81_63 at h;obtain ⟨o,ho,h⟩:=Qe h;cases o with
 | ret v48 =>
  obtain rfl:=Qf h;exact Ql.plain Qi (f:=Tryd.f81) (c:=c81) (by kernel_rfl) (by kernel_rfl) (by kernel_rfl) (by kernel_rfl) ((f81_63n0_ok a1 ho).mono fun r e=>by subst e; exact ⟨.inl rfl,(jI v48),(jI v48),by kernel_rfl,by kernel_rfl,((Wk.refl _):Wk (jI v48) (jI v48))⟩)

noncomputable def c65:Code:=Tryd.f65.body.getD .skip
inductive f65_63n0O where
 | ret (v6:Bool)
def f65_63n0E(a1:List Qc):f65_63n0O→Ex×Tr×Hp
 | .ret v6=>(.ret,mkS [(4,(jB v6))],[])
def f65_63n0S(a1:List Qc):Tr×Hp:=(Qal [(jL 3 Qc.cells a1),(.pl (.fn 63))] 0 .leaf,[])
noncomputable def f65_63n0(a1:List Qc):Option f65_63n0O :=
 (f81_63 a1).bind fun x4 =>
 some (.ret (decide (0≤x4)))
theorem f65_63n0_ok(a1:List Qc){o:f65_63n0O}(h:f65_63n0 a1=some o):T Tryd.prog Tryd.f65.ntmps 0 c65 (f65_63n0S a1) (·=f65_63n0E a1 o):=by
 unfold f65_63n0 at h;obtain ⟨x4,h5,h⟩:=Qe h;obtain rfl:=Qf h;exact rE Qi [j3,([],[jH 2 (jI x4)],[])] [] [] [] [4] (.ret,(f65_63n0E a1 (.ret (decide (0≤x4)))).2) (ap (f81_63_ok a1 h5) an) rfl
noncomputable def f65_63(a1:List Qc):Option Bool:=(f65_63n0 a1).bind fun o=>match o with
 | .ret v6=>some v6
theorem f65_63_ok(a1:List Qc){r:Bool}(h:f65_63 a1=some r):Ql Tryd.prog false 65 [(jL 3 Qc.cells a1),(.pl (.fn 63))] [] (jB r) []:=by
 unfold f65_63 at h;obtain ⟨o,ho,h⟩:=Qe h;cases o with
 | ret v6 =>
  obtain rfl:=Qf h;exact Ql.plain Qi (f:=Tryd.f65) (c:=c65) (by kernel_rfl) (by kernel_rfl) (by kernel_rfl) (by kernel_rfl) ((f65_63n0_ok a1 ho).mono fun r e=>by subst e; exact ⟨.inl rfl,(jB v6),(jB v6),by kernel_rfl,by kernel_rfl,((Wk.refl _):Wk (jB v6) (jB v6))⟩)

noncomputable def c46:Code:=Tryd.f46.body.getD .skip
inductive f46n2O where
 | exit0
 | ret
def f46n2E(bb1:Qb):f46n2O→Ex×Tr×Hp
 | .exit0=>((.exit 0),mkS [(1,(.bp 0 0))],[some (.box 46 ((Qb.cells bb1).map .pl))])
 | .ret=>(.ret,mkS [(2,(jB false))],[])
def f46n2S(bb1:Qb)(v25:Int):Tr×Hp:=(mkS [(1,(.bp 0 0)),(9,(.pl (.sl .any 1 ((ofB bb1.Text).map (cInt .u8))))),(10,(jI ((ofB bb1.Text).length:Int))),(11,(jI v25))],[some (.box 46 ((Qb.cells bb1).map .pl))])
noncomputable def f46n2:Nat→Qb→Int→Option f46n2O
 | 0,_,_=>none
 | f+1,bb1,v25 =>
  bif (decide (v25<((ofB bb1.Text).length:Int))) then
   (at? (ofB bb1.Text) v25).bind fun x32 =>
   bif decide (x32<32) then
    some .ret
   else
    bif decide (126<x32) then
     some .ret
    else
     (f46n2 f bb1 (wr64 (v25+1)))
  else
   some .exit0
theorem f46n2_ok:∀(f:Nat)(bb1:Qb)(v25:Int){o:f46n2O},f46n2 f bb1 v25=some o→TL Tryd.prog Tryd.f46.ntmps 0 f (cL (cL (Qt 1 (cL (Qt 1 c46))))) (f46n2S bb1 v25) (·=f46n2E bb1 o)
 | 0,_,_,o,h=>by rw [f46n2] at h; cases h
 | f+1,bb1,v25,o,h=>by
  rw [f46n2] at h;refine TL.body (K:=fun s=>∃v25:Int,s=(f46n2S bb1 v25)∧f46n2 f bb1 v25=some o) ?_ (by rintro _ ⟨v25,rfl,hk⟩; exact f46n2_ok f _ _ hk);rcases Qg h with ⟨h27,h⟩|⟨h27,h⟩
  ·obtain ⟨x32,h33,h⟩:=Qe h;rcases Qg h with ⟨h34,h⟩|⟨h34,h⟩
   ·obtain rfl:=Qf h;exact rK Qi 3 [j3,([],[(0,.idx (Int.toNat v25) ((cInt .u8) x32))],[]),([(3,true),(4,true)],[(5,.bool true)],[]),j3] [some true,none] [] [] [2] .ret ((f46n2E bb1 .ret).2) (ap h27 (ap (Qm h33).1 (ap (Qag (cInt .u8) (Qm h33).2) (ap3 h34 an)))) (Qad.out rfl rfl)
   ·rcases Qg h with ⟨h35,h⟩|⟨h35,h⟩
    ·obtain rfl:=Qf h;exact rK Qi 3 [j3,([],[(0,.idx (Int.toNat v25) ((cInt .u8) x32))],[]),([(3,false),(4,false)],[(5,.bool false)],[]),j3] [some true,some true] [] [] [2] .ret ((f46n2E bb1 .ret).2) (ap h27 (ap (Qm h33).1 (ap (Qag (cInt .u8) (Qm h33).2) (ap3 h34 (ap h35 an))))) (Qad.out rfl rfl)
    ·exact rE Qi [j3,([],[(0,.idx (Int.toNat v25) ((cInt .u8) x32))],[]),([(3,false),(4,false)],[(5,.bool false)],[]),j3] [some true,some false] [] [0] [1,9,10,11] (.norm,(f46n2S bb1 (wr64 (v25+1)))) (ap h27 (ap (Qm h33).1 (ap (Qag (cInt .u8) (Qm h33).2) (ap3 h34 (ap h35 an))))) (Qad.norm ⟨(wr64 (v25+1)),rfl,h⟩)
  ·obtain rfl:=Qf h;exact rK Qi 2 [j3] [some false] [] [0] [1] (.exit 0) ((f46n2E bb1 .exit0).2) (ap h27 an) (Qad.out rfl rfl)
noncomputable def f46n2L(bb1:Qb):List Int→Int→Option f46n2O
 | [],v25 =>
  some .exit0
 | x0::rest,v25 =>
  bif decide (x0<32) then
   some .ret
  else
   bif decide (126<x0) then
    some .ret
   else
    (f46n2L bb1 rest (v25+1))
theorem f46n2L_eq(bb1:Qb):∀(rest:List Int)(f k:Nat),(ofB bb1.Text).drop k=rest→(ofB bb1.Text).length≤maxLen→rest.length<f→f46n2 f bb1 (k:Int)=f46n2L bb1 rest (k:Int)
 | _,0,_,_,_,hf=>absurd hf (Nat.not_lt_zero _)
 | [],f+1,k,hd,hm,hf=>by
  have hk:¬((k:Int)<((ofB bb1.Text).length:Int)):=by have:=Qbj hd; omega
  rw [f46n2,f46n2L];simp only [decide_eq_false hk,cond_false]
 | x0::rest,f+1,k,hd,hm,hf=>by
  obtain ⟨hx,hlt,hd'⟩:=Qbn hd;have hk:(k:Int)<((ofB bb1.Text).length:Int):=by omega
  have hw:wr64 ((k:Int)+1)=(k:Int)+1:=wr64_of (by omega) (by unfold maxLen at hm; omega);have ih:f46n2 f bb1 ((k:Int)+1)=f46n2L bb1 rest ((k:Int)+1):=f46n2L_eq bb1 rest f (k+1) hd' hm (by simpa using hf);rw [f46n2,f46n2L];simp only [decide_eq_true hk,cond_true,at_nat,hx,Option.bind_some,hw,ih]
theorem f46n2_run(bb1:Qb)(hm:(ofB bb1.Text).length≤maxLen):f46n2 FUEL bb1 0=f46n2L bb1 (ofB bb1.Text) 0:=f46n2L_eq bb1 (ofB bb1.Text) FUEL 0 List.drop_zero hm (lt_FUEL hm)
inductive f46n1O where
 | norm
 | ret
def f46n1E(bb1:Qb):f46n1O→Ex×Tr×Hp
 | .norm=>(.norm,mkS [(1,(.bp 0 0))],[some (.box 46 ((Qb.cells bb1).map .pl))])
 | .ret=>(.ret,mkS [(2,(jB false))],[])
def f46n1S(bb1:Qb):Tr×Hp:=(mkS [(1,(.bp 0 0))],[some (.box 46 ((Qb.cells bb1).map .pl))])
noncomputable def f46n1(bb1:Qb):Option f46n1O :=
 req (decide (bb1.Text.size≤9223372036854775807)) <|
 (f46n2 FUEL bb1 0).bind fun o36=>match o36 with
 | .exit0=>some .norm
 | .ret=>some .ret
theorem f46n1_ok(bb1:Qb){o:f46n1O}(h:f46n1 bb1=some o):T Tryd.prog Tryd.f46.ntmps 0 (cL (Qt 1 c46)) (f46n1S bb1) (·=f46n1E bb1 o):=by
 unfold f46n1 at h;obtain ⟨h3,h⟩:=Qam h;refine rN Qi 1 [([],[(2,.fits)],[(2,.val (.pl (.sl .any 1 ((ofB bb1.Text).map (cInt .u8))))),(3,.val (jI ((ofB bb1.Text).length:Int)))])] [] [] [0] [1,9,10,11] (f46n2S bb1 0) (ap (of_decide_eq_true h3) (ap (congrArg (fun l=>AV.pl (.sl .any 1 l)) (ofB_cv (s:=bb1.Text))) (ap (Qan (xs:=(ofB bb1.Text)) (c:=(cInt .u8))) an))) ?_;obtain ⟨o36,h37,h⟩:=Qe h;cases o36 with
 | exit0 =>
  obtain rfl:=Qf h;exact T.last' (T.bl (i:=0) (by kernel_rfl) (by kernel_rfl) (f46n2_ok FUEL bb1 0 h37)) (tds:=[]) (m:=[0]) (keep:=[1]) (st2:=(f46n1E bb1 .norm).2) (by kernel_rfl) an rfl
 | ret =>
  obtain rfl:=Qf h;exact T.last' (T.bl (i:=0) (by kernel_rfl) (by kernel_rfl) (f46n2_ok FUEL bb1 0 h37)) (tds:=[]) (m:=[]) (keep:=[2]) (st2:=(f46n1E bb1 .ret).2) (by kernel_rfl) an rfl
inductive f46n0O where
 | ret (v54:Bool)
def f46n0E(a1:Qb):f46n0O→Ex×Tr×Hp
 | .ret v54=>(.ret,mkS [(2,(jB v54))],[])
def f46n0S(a1:Qb):Tr×Hp:=(Qal [(jA Qb.cells a1)] 0 .leaf,[])
noncomputable def f46n0(a1:Qb):Option f46n0O :=
 (f46n1 a1).bind fun o38=>match o38 with
 | .norm=>bif decide (0≤a1.Day) then
   bif decide (a1.Day≤99999) then
    bif decide ((a1.Text.size:Int)≤100) then
     bif decide (2≤(a1.Lines.length:Int)) then
      bif decide ((a1.Lines.length:Int)≤20) then
       (f65_63 a1.Lines).bind fun x52 =>
       some (.ret (!x52))
      else
       some (.ret false)
     else
      some (.ret false)
    else
     some (.ret false)
   else
    some (.ret false)
  else
   some (.ret false)
 | .ret=>some (.ret false)
theorem f46n0_ok(a1:Qb){o:f46n0O}(h:f46n0 a1=some o):T Tryd.prog Tryd.f46.ntmps 0 c46 (f46n0S a1) (·=f46n0E a1 o):=by
 unfold f46n0 at h;refine rN Qi 1 [j3] [] [] [0] [1] (f46n1S a1) an ?_;obtain ⟨o38,h39,h⟩:=Qe h;cases o38 with
 | norm =>
  refine T.oneN (by kernel_rfl) (f46n1_ok a1 h39) (st2:=(f46n1E a1 .norm).2) rfl ?_;rcases Qg h with ⟨h47,h⟩|⟨h47,h⟩
  ·rcases Qg h with ⟨h48,h⟩|⟨h48,h⟩
   ·rcases Qg h with ⟨h49,h⟩|⟨h49,h⟩
    ·rcases Qg h with ⟨h50,h⟩|⟨h50,h⟩
     ·rcases Qg h with ⟨h51,h⟩|⟨h51,h⟩
      ·obtain ⟨x52,h53,h⟩:=Qe h;obtain rfl:=Qf h;exact rE Qi [j3,([],[],[(2,.val (jI (a1.Lines.length:Int)))]),(jT [4,5,6,9,10,11,12,15,16,19,20,23,24,25,26,27],[(7,.bool true),(13,.bool true),(17,.bool true),(21,.bool true),jH 26 (jB x52),(28,.bool true)],[])] [] [] [] [2] (.ret,(f46n0E a1 (.ret (!x52))).2) (ap (Qan (xs:=a1.Lines) (c:=Qc.cells)) (ap4 h47 (ap h48 (ap4 h48 (ap3 h49 (ap3 h50 (ap2 h51 (ap4 h51 (ap (f65_63_ok a1.Lines h53) an))))))))) rfl
      ·obtain rfl:=Qf h;exact rE Qi [j3,([],[],[(2,.val (jI (a1.Lines.length:Int)))]),(jF [23,24,25,26,27]++jT [4,5,6,9,10,11,12,15,16,19,20],[(7,.bool true),(13,.bool true),(17,.bool true),(21,.bool true),(28,.bool false)],[])] [] [] [] [2] (.ret,(f46n0E a1 (.ret false)).2) (ap (Qan (xs:=a1.Lines) (c:=Qc.cells)) (ap4 h47 (ap h48 (ap4 h48 (ap3 h49 (ap3 h50 (ap2 h51 (ap4 h51 an)))))))) rfl
     ·obtain rfl:=Qf h;exact rE Qi [j3,([],[],[(2,.val (jI (a1.Lines.length:Int)))]),(jF [19,20]++jT [4,5,6,9,10,11,12,15,16],[(7,.bool true),(13,.bool true),(17,.bool true),(21,.bool false)],[])] [] [] [] [2] (.ret,(f46n0E a1 (.ret false)).2) (ap (Qan (xs:=a1.Lines) (c:=Qc.cells)) (ap4 h47 (ap h48 (ap4 h48 (ap3 h49 (ap3 h50 an)))))) rfl
    ·obtain rfl:=Qf h;exact rE Qi [j3,([],[],[(2,.val (jI (a1.Lines.length:Int)))]),(jF [15,16]++jT [4,5,6,9,10,11,12],[(7,.bool true),(13,.bool true),(17,.bool false)],[])] [] [] [] [2] (.ret,(f46n0E a1 (.ret false)).2) (ap (Qan (xs:=a1.Lines) (c:=Qc.cells)) (ap4 h47 (ap h48 (ap4 h48 (ap3 h49 an))))) rfl
   ·obtain rfl:=Qf h;exact rE Qi [j3,([],[],[(2,.val (jI (a1.Lines.length:Int)))]),(jF [9,10,11,12]++jT [4,5,6],[(7,.bool true),(13,.bool false)],[])] [] [] [] [2] (.ret,(f46n0E a1 (.ret false)).2) (ap (Qan (xs:=a1.Lines) (c:=Qc.cells)) (ap4 h47 (ap h48 (ap4 h48 an)))) rfl
  ·obtain rfl:=Qf h;exact rE Qi [j3,([],[],[(2,.val (jI (a1.Lines.length:Int)))]),(jF [4,5,6],[(7,.bool false)],[])] [] [] [] [2] (.ret,(f46n0E a1 (.ret false)).2) (ap (Qan (xs:=a1.Lines) (c:=Qc.cells)) (ap4 h47 an)) rfl
 | ret =>
  obtain rfl:=Qf h;exact T.oneX' (by kernel_rfl) (f46n1_ok a1 h39) (tds:=[]) (m:=[]) (keep:=[2]) (st2:=(f46n0E a1 (.ret false)).2) (by kernel_rfl) an rfl rfl
noncomputable def f46(a1:Qb):Option Bool:=(f46n0 a1).bind fun o=>match o with
 | .ret v54=>some v54
theorem f46_ok(a1:Qb){r:Bool}(h:f46 a1=some r):Ql Tryd.prog false 46 [(jA Qb.cells a1)] [] (jB r) []:=by
 unfold f46 at h;obtain ⟨o,ho,h⟩:=Qe h;cases o with
 | ret v54 =>
  obtain rfl:=Qf h;exact Ql.plain Qi (f:=Tryd.f46) (c:=c46) (by kernel_rfl) (by kernel_rfl) (by kernel_rfl) (by kernel_rfl) ((f46n0_ok a1 ho).mono fun r e=>by subst e; exact ⟨.inl rfl,(jB v54),(jB v54),by kernel_rfl,by kernel_rfl,((Wk.refl _):Wk (jB v54) (jB v54))⟩)

noncomputable def c47:Code:=Tryd.f47.body.getD .skip
inductive f47n2O where
 | exit0 (v24:List (ByteArray×Int))
def f47n2E(bb1:Qb):f47n2O→Ex×Tr×Hp
 | .exit0 v24=>((.exit 0),mkS [(3,(.mp 0))],[some (.map (v24.map (mkv pStr (pInt .i64))))])
def f47n2S(bb1:Qb)(v16:Int)(v17:List (ByteArray×Int)):Tr×Hp:=(mkS [(3,(.mp 0)),(10,(jL 3 Qc.cells bb1.Lines)),(11,(jI (bb1.Lines.length:Int))),(12,(jI v16))],[some (.map (v17.map (mkv pStr (pInt .i64))))])
noncomputable def f47n2:Nat→Qb→Int→List (ByteArray×Int)→Option f47n2O
 | 0,_,_,_=>none
 | f+1,bb1,v16,v17 =>
  bif decide (v16<(bb1.Lines.length:Int)) then
   (at? bb1.Lines v16).bind fun x22 =>
   (f47n2 f bb1 (wr64 (v16+1)) (mPut seq x22.Ccy (wr64 ((mGet seq 0 x22.Ccy v17)+x22.Amount)) v17))
  else
   some (.exit0 v17)
theorem f47n2_ok:∀(f:Nat)(bb1:Qb)(v16:Int)(v17:List (ByteArray×Int)){o:f47n2O},f47n2 f bb1 v16 v17=some o→TL Tryd.prog Tryd.f47.ntmps 0 f (cL (cL (Qt 1 (cL (Qt 2 c47))))) (f47n2S bb1 v16 v17) (·=f47n2E bb1 o)
 | 0,_,_,_,o,h=>by rw [f47n2] at h; cases h
 | f+1,bb1,v16,v17,o,h=>by
  rw [f47n2] at h;refine TL.body (K:=fun s=>∃v16:Int,∃v17:List (ByteArray×Int),s=(f47n2S bb1 v16 v17)∧f47n2 f bb1 v16 v17=some o) ?_ (by rintro _ ⟨v16,v17,rfl,hk⟩; exact f47n2_ok f _ _ _ hk);rcases Qg h with ⟨h19,h⟩|⟨h19,h⟩
  ·obtain ⟨x22,h23,h⟩:=Qe h;exact rE Qi [j3,([],[(0,.idx (Int.toNat v16) (Qc.cells x22))],[]),([],[(3,.look ((pInt .i64) (mGet seq 0 x22.Ccy v17)) (mHas seq x22.Ccy v17)),(7,.mset ((mPut seq x22.Ccy (wr64 ((mGet seq 0 x22.Ccy v17)+x22.Amount)) v17).map (mkv pStr (pInt .i64))))],[]),j3] [some true] [] [0] [3,10,11,12] (.norm,(f47n2S bb1 (wr64 (v16+1)) (mPut seq x22.Ccy (wr64 ((mGet seq 0 x22.Ccy v17)+x22.Amount)) v17))) (ap h19 (ap (Qm h23).1 (ap (Qag Qc.cells (Qm h23).2) (ap (look_map (vp:=(pInt .i64)) (e:=3) key_9 0 (by kernel_rfl) x22.Ccy v17) (ap (mset_map (vp:=(pInt .i64)) key_9 x22.Ccy (wr64 ((mGet seq 0 x22.Ccy v17)+x22.Amount)) v17) an))))) (Qad.norm ⟨(wr64 (v16+1)),(mPut seq x22.Ccy (wr64 ((mGet seq 0 x22.Ccy v17)+x22.Amount)) v17),rfl,h⟩)
  ·obtain rfl:=Qf h;exact rK Qi 2 [j3] [some false] [] [0] [3] (.exit 0) ((f47n2E bb1 (.exit0 v17)).2) (ap h19 an) (Qad.out rfl rfl)
noncomputable def f47n2L(bb1:Qb):List Qc→Int→(List (ByteArray×Int))→Option f47n2O
 | [],v16,v17 =>
  some (.exit0 v17)
 | x0::rest,v16,v17 =>
  (f47n2L bb1 rest (v16+1) (mPut seq x0.Ccy (wr64 ((mGet seq 0 x0.Ccy v17)+x0.Amount)) v17))
theorem f47n2L_eq(bb1:Qb):∀(rest:List Qc)(f k:Nat)(v17:List (ByteArray×Int)),bb1.Lines.drop k=rest→bb1.Lines.length≤maxLen→rest.length<f→f47n2 f bb1 (k:Int) v17=f47n2L bb1 rest (k:Int) v17
 | _,0,_,_,_,_,hf=>absurd hf (Nat.not_lt_zero _)
 | [],f+1,k,v17,hd,hm,hf=>by
  have hk:¬((k:Int)<(bb1.Lines.length:Int)):=by have:=Qbj hd; omega
  rw [f47n2,f47n2L];simp only [decide_eq_false hk,cond_false]
 | x0::rest,f+1,k,v17,hd,hm,hf=>by
  obtain ⟨hx,hlt,hd'⟩:=Qbn hd;have hk:(k:Int)<(bb1.Lines.length:Int):=by omega
  have hw:wr64 ((k:Int)+1)=(k:Int)+1:=wr64_of (by omega) (by unfold maxLen at hm; omega);have ih:∀(v17:List (ByteArray×Int)),f47n2 f bb1 ((k:Int)+1) v17=f47n2L bb1 rest ((k:Int)+1) v17:=fun v17=>f47n2L_eq bb1 rest f (k+1) v17 hd' hm (by simpa using hf);rw [f47n2,f47n2L];simp only [decide_eq_true hk,cond_true,at_nat,hx,Option.bind_some,hw,ih]
theorem f47n2_run(bb1:Qb)(v17:List (ByteArray×Int))(hm:bb1.Lines.length≤maxLen):f47n2 FUEL bb1 0 v17=f47n2L bb1 bb1.Lines 0 v17:=f47n2L_eq bb1 bb1.Lines FUEL 0 v17 List.drop_zero hm (lt_FUEL hm)
inductive f47n1O where
 | norm (v28:List (ByteArray×Int))
def f47n1E(bb1:Qb):f47n1O→Ex×Tr×Hp
 | .norm v28=>(.norm,mkS [(3,(.mp 0))],[some (.map (v28.map (mkv pStr (pInt .i64))))])
def f47n1S(bb1:Qb):Tr×Hp:=(mkS [(1,(.bp 0 0)),(3,(.mp 1))],[some (.box 46 ((Qb.cells bb1).map .pl)),some (.map ([].map (mkv pStr (pInt .i64))))])
noncomputable def f47n1(bb1:Qb):Option f47n1O :=
 (f47n2 FUEL bb1 0 []).bind fun o25=>match o25 with
 | .exit0 v27=>some (.norm v27)
theorem f47n1_ok(bb1:Qb){o:f47n1O}(h:f47n1 bb1=some o):T Tryd.prog Tryd.f47.ntmps 0 (cL (Qt 2 c47)) (f47n1S bb1) (·=f47n1E bb1 o):=by
 unfold f47n1 at h;refine rN Qi 1 [([],[],[(2,.val (jI (bb1.Lines.length:Int)))])] [] [] [1] [3,10,11,12] (f47n2S bb1 0 []) (ap (Qan (xs:=bb1.Lines) (c:=Qc.cells)) an) ?_;obtain ⟨o25,h26,h⟩:=Qe h;cases o25 with
 | exit0 v27 =>
  obtain rfl:=Qf h;exact T.last' (T.bl (i:=0) (by kernel_rfl) (by kernel_rfl) (f47n2_ok FUEL bb1 0 [] h26)) (tds:=[]) (m:=[0]) (keep:=[3]) (st2:=(f47n1E bb1 (.norm v27)).2) (by kernel_rfl) an rfl
inductive f47n4O where
 | exit2
 | ret
def f47n4E(bg1:List (ByteArray×Int)):f47n4O→Ex×Tr×Hp
 | .exit2=>((.exit 2),mkS [],[])
 | .ret=>(.ret,mkS [(2,(jB false))],[])
def f47n4S(bg1:List (ByteArray×Int))(sn0:List Nat):Tr×Hp:=(mkS [(25,(.it 0))],[some (.iter 1 (bg1.map (mkv pStr (pInt .i64))).length sn0),some (.map (bg1.map (mkv pStr (pInt .i64))))])
noncomputable def f47n4(bg1:List (ByteArray×Int)):List (ByteArray×Int)→Option f47n4O
 | [] =>
  some .exit2
 | x38::rest =>
  bif decide (x38.2=0) then
   (f47n4 bg1 rest)
  else
   some .ret
theorem f47n4_ok(bg1:List (ByteArray×Int)):∀(f:Nat)(sn0 rem:List Nat){o:f47n4O},Rem bg1.length sn0 rem→rem.length<f→(∀p,p.Perm rem→f47n4 bg1 (ords bg1 p)=some o)→TL Tryd.prog Tryd.f47.ntmps 0 f (cL (cL (Qt 1 (cL (Qt 0 (Qt 1 (Qt 2 c47))))))) (f47n4S bg1 sn0) (·=f47n4E bg1 o)
 | 0,_,_,_,_,hf,_=>absurd hf (Nat.not_lt_zero _)
 | f+1,sn0,rem,o,hR,hf,H=>by
  refine TL.body (K:=fun s=>∃(sn0 rem:List Nat),s=f47n4S bg1 sn0∧Rem bg1.length sn0 rem∧rem.length<f∧(∀p,p.Perm rem→f47n4 bg1 (ords bg1 p)=some o)) ?_ (by rintro _ ⟨sn0,rem,rfl,h1,h2,h3⟩; exact f47n4_ok bg1 f sn0 rem h1 h2 h3);refine T.oneNext Qi (x:=.tmp 25) (t:=26) (tb:=27) (i:=0) (o:=1) (m:=(bg1.map (mkv pStr (pInt .i64))).length) (seen:=sn0) (kvs:=(bg1.map (mkv pStr (pInt .i64)))) (by kernel_rfl) (by kernel_rfl) (by kernel_rfl) (by kernel_rfl) (by kernel_rfl) (by kernel_rfl) rfl (fun hs=>?_) (fun j37 k v hj hs hx=>?_)
  ·obtain rfl:=hR.none (by simpa using hs);have h:f47n4 bg1 []=some o:=H [] (List.Perm.refl _);rw [f47n4] at h;obtain rfl:=Qf h;exact rK Qi 1 [] [none] [] [] [] (.exit 2) ((f47n4E bg1 .exit2).2) an (Qad.out rfl rfl)
  ·obtain ⟨x38,h39,rfl,rfl⟩:=mkv_at hx;obtain ⟨hR2,hlen,hP⟩:=hR.step (j:=j37) (by simpa using hj) hs;have H2:∀p,p.Perm (rem.erase j37)→f47n4 bg1 (x38::ords bg1 p)=some o:=fun p hp=>by have h:=H _ (hP p hp); rwa [ords_cons h39] at h
   have h:=H2 _ (List.Perm.refl _);rw [f47n4] at h;rcases Qg h with ⟨h41,h⟩|⟨h41,h⟩
   ·exact rE Qi [([],[(0,.entr j37 (pStr x38.1) ((pInt .i64) x38.2))],[]),j3] [none,some false] [] [0,1] [25] (.norm,(f47n4S bg1 (sn0++[j37]))) (ap (last_app (seen:=sn0) (j:=j37)) (ap (rfl:(bg1.map (mkv pStr (pInt .i64))).length=(bg1.map (mkv pStr (pInt .i64))).length) (ap (at_mkv (kp:=pStr) (vp:=(pInt .i64)) h39) (ap (Qq h41) an)))) (Qad.norm ⟨sn0++[j37],rem.erase j37,rfl,hR2,by omega,fun p hp=>by have h:=H2 p hp; rw [f47n4] at h; simp only [h41,cond_true,cond_false,Option.bind_some,req] at h; exact h⟩)
   ·obtain rfl:=Qf h;exact rE Qi [([],[(0,.entr j37 (pStr x38.1) ((pInt .i64) x38.2))],[]),j3,j3] [none,some true] [] [] [2] (.ret,(f47n4E bg1 .ret).2) (ap (last_app (seen:=sn0) (j:=j37)) (ap (rfl:(bg1.map (mkv pStr (pInt .i64))).length=(bg1.map (mkv pStr (pInt .i64))).length) (ap (at_mkv (kp:=pStr) (vp:=(pInt .i64)) h39) (ap (Qaf h41) an)))) (Qad.out rfl rfl)
inductive f47n3O where
 | norm
 | ret
def f47n3E(bg1:List (ByteArray×Int)):f47n3O→Ex×Tr×Hp
 | .norm=>(.norm,mkS [],[])
 | .ret=>(.ret,mkS [(2,(jB false))],[])
def f47n3S(bg1:List (ByteArray×Int)):Tr×Hp:=(mkS [(3,(.mp 0))],[some (.map (bg1.map (mkv pStr (pInt .i64))))])
noncomputable def f47n3(bg1:List (ByteArray×Int)):Option f47n3O :=
 (anyOrder bg1 fun p=>(f47n4 bg1 p)).bind fun o42=>match o42 with
 | .exit2=>some .norm
 | .ret=>some .ret
theorem f47n3_ok(bg1:List (ByteArray×Int)){o:f47n3O}(h:f47n3 bg1=some o):T Tryd.prog Tryd.f47.ntmps 0 (cL (Qt 0 (Qt 1 (Qt 2 c47)))) (f47n3S bg1) (·=f47n3E bg1 o):=by
 unfold f47n3 at h;refine rN Qi 1 [j3] [] [] [1,0] [25] (f47n4S bg1 []) an ?_;obtain ⟨o42,h43,h⟩:=Qe h;cases o42 with
 | exit2 =>
  obtain rfl:=Qf h;exact T.last' (T.bl (i:=2) (by kernel_rfl) (by kernel_rfl) (f47n4_ok bg1 _ [] (List.range bg1.length) (Rem.start _) (Nat.lt_succ_self _) (fun p hp=>anyOrder_at h43 _ (ords_perm hp)))) (tds:=[]) (m:=[]) (keep:=[]) (st2:=(f47n3E bg1 .norm).2) (by kernel_rfl) an rfl
 | ret =>
  obtain rfl:=Qf h;exact T.last' (T.bl (i:=2) (by kernel_rfl) (by kernel_rfl) (f47n4_ok bg1 _ [] (List.range bg1.length) (Rem.start _) (Nat.lt_succ_self _) (fun p hp=>anyOrder_at h43 _ (ords_perm hp)))) (tds:=[]) (m:=[]) (keep:=[2]) (st2:=(f47n3E bg1 .ret).2) (by kernel_rfl) an rfl
inductive f47n0O where
 | ret (v46:Bool)
def f47n0E(a1:Qb):f47n0O→Ex×Tr×Hp
 | .ret v46=>(.ret,mkS [(2,(jB v46))],[])
def f47n0S(a1:Qb):Tr×Hp:=(Qal [(jA Qb.cells a1)] 0 .leaf,[])
noncomputable def f47n0(a1:Qb):Option f47n0O :=
 (f47n1 a1).bind fun o29=>match o29 with
 | .norm v31=>(f47n3 v31).bind fun o44=>match o44 with
  | .norm=>some (.ret true)
  | .ret=>some (.ret false)
theorem f47n0_ok(a1:Qb){o:f47n0O}(h:f47n0 a1=some o):T Tryd.prog Tryd.f47.ntmps 0 c47 (f47n0S a1) (·=f47n0E a1 o):=by
 unfold f47n0 at h;refine rN Qi 2 [j3,j3] [] [] [0,1] [1,3] (f47n1S a1) an ?_;obtain ⟨o29,h30,h⟩:=Qe h;cases o29 with
 | norm v31 =>
  refine T.oneN (by kernel_rfl) (f47n1_ok a1 h30) (st2:=(f47n1E a1 (.norm v31)).2) rfl ?_;refine rN Qi 0 [] [] [] [0] [3] (f47n3S v31) an ?_;obtain ⟨o44,h45,h⟩:=Qe h;cases o44 with
  | norm =>
   refine T.oneN (by kernel_rfl) (f47n3_ok v31 h45) (st2:=(f47n3E v31 .norm).2) rfl ?_;obtain rfl:=Qf h;exact rE Qi [j3] [] [] [] [2] (.ret,(f47n0E a1 (.ret true)).2) an rfl
  | ret =>
   obtain rfl:=Qf h;exact T.oneX' (by kernel_rfl) (f47n3_ok v31 h45) (tds:=[]) (m:=[]) (keep:=[2]) (st2:=(f47n0E a1 (.ret false)).2) (by kernel_rfl) an rfl rfl
noncomputable def f47(a1:Qb):Option Bool:=(f47n0 a1).bind fun o=>match o with
 | .ret v46=>some v46
theorem f47_ok(a1:Qb){r:Bool}(h:f47 a1=some r):Ql Tryd.prog false 47 [(jA Qb.cells a1)] [] (jB r) []:=by
 unfold f47 at h;obtain ⟨o,ho,h⟩:=Qe h;cases o with
 | ret v46 =>
  obtain rfl:=Qf h;exact Ql.plain Qi (f:=Tryd.f47) (c:=c47) (by kernel_rfl) (by kernel_rfl) (by kernel_rfl) (by kernel_rfl) ((f47n0_ok a1 ho).mono fun r e=>by subst e; exact ⟨.inl rfl,(jB v46),(jB v46),by kernel_rfl,by kernel_rfl,((Wk.refl _):Wk (jB v46) (jB v46))⟩)

noncomputable def c82:Code:=Tryd.f82.body.getD .skip
inductive f82r1n0O where
 | ret (v9:Bool)
def f82r1n0E(a1:Qc)(a2 a3:Int)(a4:List (Qd×Int)):f82r1n0O→Ex×Tr×Hp
 | .ret v9=>(.ret,mkS [(3,(jB v9))],[some (.box 94 [(.bp 1 0)]),some (.box 100 [(.mp 2),(jI a2),(jI a3)]),some (.map (a4.map (mkv (pAgg Qd.cells) (pInt .i64))))])
def f82r1n0S(a1:Qc)(a2 a3:Int)(a4:List (Qd×Int)):Tr×Hp:=(Qal [(jA Qc.cells a1),(.bp 0 0)] 0 .leaf,[some (.box 94 [(.bp 1 0)]),some (.box 100 [(.mp 2),(jI a2),(jI a3)]),some (.map (a4.map (mkv (pAgg Qd.cells) (pInt .i64))))])
noncomputable def f82r1n0(a1:Qc)(a2 a3:Int)(a4:List (Qd×Int)):Option f82r1n0O :=
 (f64 (mGet Qd.eqb 0 (Qd.mk a1.Account a1.Ccy) a4)).bind fun x7 =>
 some (.ret (!x7))
theorem f82r1n0_ok(a1:Qc)(a2 a3:Int)(a4:List (Qd×Int)){o:f82r1n0O}(h:f82r1n0 a1 a2 a3 a4=some o):T Tryd.prog Tryd.f82.ntmps 3 c82 (f82r1n0S a1 a2 a3 a4) (·=f82r1n0E a1 a2 a3 a4 o):=by
 unfold f82r1n0 at h;obtain ⟨x7,h8,h⟩:=Qe h;obtain rfl:=Qf h;exact rE Qi [j3,([],[(9,.look ((pInt .i64) (mGet Qd.eqb 0 (Qd.mk a1.Account a1.Ccy) a4)) (mHas Qd.eqb (Qd.mk a1.Account a1.Ccy) a4)),jH 10 (jB x7)],[])] [] [] [] [3] (.ret,(f82r1n0E a1 a2 a3 a4 (.ret (!x7))).2) (ap (look_map (vp:=(pInt .i64)) (e:=3) key_107 0 (by kernel_rfl) (Qd.mk a1.Account a1.Ccy) a4) (ap (f64_ok (mGet Qd.eqb 0 (Qd.mk a1.Account a1.Ccy) a4) h8) an)) rfl
noncomputable def f82r1(a1:Qc)(a2 a3:Int)(a4:List (Qd×Int)):Option Bool:=(f82r1n0 a1 a2 a3 a4).bind fun o=>match o with
 | .ret v9=>some v9
theorem f82r1_ok(a1:Qc)(a2 a3:Int)(a4:List (Qd×Int)){r:Bool}(h:f82r1 a1 a2 a3 a4=some r):Ql Tryd.prog true 82 [(jA Qc.cells a1),(.bp 0 0)] [some (.box 94 [(.bp 1 0)]),some (.box 100 [(.mp 2),(jI a2),(jI a3)]),some (.map (a4.map (mkv (pAgg Qd.cells) (pInt .i64))))] (jB r) [some (.box 94 [(.bp 1 0)]),some (.box 100 [(.mp 2),(jI a2),(jI a3)]),some (.map (a4.map (mkv (pAgg Qd.cells) (pInt .i64))))]:=by
 unfold f82r1 at h;obtain ⟨o,ho,h⟩:=Qe h;cases o with
 | ret v9 =>
  obtain rfl:=Qf h;exact Ql.shared Qi (f:=Tryd.f82) (c:=c82) (by kernel_rfl) (by kernel_rfl) (by kernel_rfl) ((f82r1n0_ok a1 a2 a3 a4 ho).mono fun r e=>by subst e; exact ⟨.inl rfl,by kernel_rfl,by kernel_rfl⟩)

inductive f81r1n2O where
 | exit0
 | ret (v43:Int)
def f81r1n2E(bc1:List Qc)(bf2 bf3:Int)(bh4:List (Qd×Int)):f81r1n2O→Ex×Tr×Hp
 | .exit0=>((.exit 0),mkS [],[some (.box 94 [(.bp 1 0)]),some (.box 100 [(.mp 2),(jI bf2),(jI bf3)]),some (.map (bh4.map (mkv (pAgg Qd.cells) (pInt .i64))))])
 | .ret v43=>(.ret,mkS [(4,(jI v43))],[some (.box 94 [(.bp 1 0)]),some (.box 100 [(.mp 2),(jI bf2),(jI bf3)]),some (.map (bh4.map (mkv (pAgg Qd.cells) (pInt .i64))))])
def f81r1n2S(bc1:List Qc)(bf2 bf3:Int)(bh4:List (Qd×Int))(v30:Int):Tr×Hp:=(mkS [(0,(jL 3 Qc.cells bc1)),(1,(.clo 82 [(.bp 0 0)])),(7,(jI (bc1.length:Int))),(8,(jI v30))],[some (.box 94 [(.bp 1 0)]),some (.box 100 [(.mp 2),(jI bf2),(jI bf3)]),some (.map (bh4.map (mkv (pAgg Qd.cells) (pInt .i64))))])
noncomputable def f81r1n2:Nat→List Qc→Int→Int→List (Qd×Int)→Int→Option f81r1n2O
 | 0,_,_,_,_,_=>none
 | f+1,bc1,bf2,bf3,bh4,v30 =>
  bif decide (v30<(bc1.length:Int)) then
   (at? bc1 v30).bind fun x38 =>
   (f82r1 x38 bf2 bf3 bh4).bind fun x40 =>
   bif x40 then
    some (.ret v30)
   else
    (f81r1n2 f bc1 bf2 bf3 bh4 (wr64 (v30+1)))
  else
   some .exit0
theorem f81r1n2_ok:∀(f:Nat)(bc1:List Qc)(bf2 bf3:Int)(bh4:List (Qd×Int))(v30:Int){o:f81r1n2O},f81r1n2 f bc1 bf2 bf3 bh4 v30=some o→TL Tryd.prog Tryd.f81.ntmps 3 f (cL (cL (Qt 1 (cL (Qt 1 c81))))) (f81r1n2S bc1 bf2 bf3 bh4 v30) (·=f81r1n2E bc1 bf2 bf3 bh4 o)
 | 0,_,_,_,_,_,o,h=>by rw [f81r1n2] at h; cases h
 | f+1,bc1,bf2,bf3,bh4,v30,o,h=>by
  rw [f81r1n2] at h;refine TL.body (K:=fun s=>∃v30:Int,s=(f81r1n2S bc1 bf2 bf3 bh4 v30)∧f81r1n2 f bc1 bf2 bf3 bh4 v30=some o) ?_ (by rintro _ ⟨v30,rfl,hk⟩; exact f81r1n2_ok f _ _ _ _ _ hk);rcases Qg h with ⟨h32,h⟩|⟨h32,h⟩
  ·obtain ⟨x38,h39,h⟩:=Qe h;obtain ⟨x40,h41,h⟩:=Qe h;rcases Qg h with ⟨h42,h⟩|⟨h42,h⟩
   ·obtain rfl:=Qf h;exact rK Qi 3 [j3,j3,([],[(3,.idx (Int.toNat v30) (Qc.cells x38)),(5,.call (jB x40) [some (.box 94 [(.bp 1 0)]),some (.box 100 [(.mp 2),(jI bf2),(jI bf3)]),some (.map (bh4.map (mkv (pAgg Qd.cells) (pInt .i64))))])],[]),j3] [some true,some true] [] [] [4] .ret ((f81r1n2E bc1 bf2 bf3 bh4 (.ret v30)).2) (ap h32 (ap (Qm h39).1 (ap (Qag Qc.cells (Qm h39).2) (ap (f82r1_ok x38 bf2 bf3 bh4 h41) (ap h42 an))))) (Qad.out rfl rfl)
   ·exact rE Qi [j3,j3,([],[(3,.idx (Int.toNat v30) (Qc.cells x38)),(5,.call (jB x40) [some (.box 94 [(.bp 1 0)]),some (.box 100 [(.mp 2),(jI bf2),(jI bf3)]),some (.map (bh4.map (mkv (pAgg Qd.cells) (pInt .i64))))])],[]),j3] [some true,some false] [] [] [0,1,7,8] (.norm,(f81r1n2S bc1 bf2 bf3 bh4 (wr64 (v30+1)))) (ap h32 (ap (Qm h39).1 (ap (Qag Qc.cells (Qm h39).2) (ap (f82r1_ok x38 bf2 bf3 bh4 h41) (ap h42 an))))) (Qad.norm ⟨(wr64 (v30+1)),rfl,h⟩)
  ·obtain rfl:=Qf h;exact rK Qi 2 [j3] [some false] [] [] [] (.exit 0) ((f81r1n2E bc1 bf2 bf3 bh4 .exit0).2) (ap h32 an) (Qad.out rfl rfl)
noncomputable def f81r1n2L(bc1:List Qc)(bf2 bf3:Int)(bh4:List (Qd×Int)):List Qc→Int→Option f81r1n2O
 | [],v30 =>
  some .exit0
 | x0::rest,v30 =>
  (f82r1 x0 bf2 bf3 bh4).bind fun x40 =>
  bif x40 then
   some (.ret v30)
  else
   (f81r1n2L bc1 bf2 bf3 bh4 rest (v30+1))
theorem f81r1n2L_eq(bc1:List Qc)(bf2 bf3:Int)(bh4:List (Qd×Int)):∀(rest:List Qc)(f k:Nat),bc1.drop k=rest→bc1.length≤maxLen→rest.length<f→f81r1n2 f bc1 bf2 bf3 bh4 (k:Int)=f81r1n2L bc1 bf2 bf3 bh4 rest (k:Int)
 | _,0,_,_,_,hf=>absurd hf (Nat.not_lt_zero _)
 | [],f+1,k,hd,hm,hf=>by
  have hk:¬((k:Int)<(bc1.length:Int)):=by have:=Qbj hd; omega
  rw [f81r1n2,f81r1n2L];simp only [decide_eq_false hk,cond_false]
 | x0::rest,f+1,k,hd,hm,hf=>by
  obtain ⟨hx,hlt,hd'⟩:=Qbn hd;have hk:(k:Int)<(bc1.length:Int):=by omega
  have hw:wr64 ((k:Int)+1)=(k:Int)+1:=wr64_of (by omega) (by unfold maxLen at hm; omega);have ih:f81r1n2 f bc1 bf2 bf3 bh4 ((k:Int)+1)=f81r1n2L bc1 bf2 bf3 bh4 rest ((k:Int)+1):=f81r1n2L_eq bc1 bf2 bf3 bh4 rest f (k+1) hd' hm (by simpa using hf);rw [f81r1n2,f81r1n2L];simp only [decide_eq_true hk,cond_true,at_nat,hx,Option.bind_some,hw,ih]
theorem f81r1n2_run(bc1:List Qc)(bf2 bf3:Int)(bh4:List (Qd×Int))(hm:bc1.length≤maxLen):f81r1n2 FUEL bc1 bf2 bf3 bh4 0=f81r1n2L bc1 bf2 bf3 bh4 bc1 0:=f81r1n2L_eq bc1 bf2 bf3 bh4 bc1 FUEL 0 List.drop_zero hm (lt_FUEL hm)
inductive f81r1n1O where
 | norm
 | ret (v47:Int)
def f81r1n1E(bc1:List Qc)(bf2 bf3:Int)(bh4:List (Qd×Int)):f81r1n1O→Ex×Tr×Hp
 | .norm=>(.norm,mkS [],[some (.box 94 [(.bp 1 0)]),some (.box 100 [(.mp 2),(jI bf2),(jI bf3)]),some (.map (bh4.map (mkv (pAgg Qd.cells) (pInt .i64))))])
 | .ret v47=>(.ret,mkS [(4,(jI v47))],[some (.box 94 [(.bp 1 0)]),some (.box 100 [(.mp 2),(jI bf2),(jI bf3)]),some (.map (bh4.map (mkv (pAgg Qd.cells) (pInt .i64))))])
def f81r1n1S(bc1:List Qc)(bf2 bf3:Int)(bh4:List (Qd×Int)):Tr×Hp:=(mkS [(0,(jL 3 Qc.cells bc1)),(1,(.clo 82 [(.bp 0 0)]))],[some (.box 94 [(.bp 1 0)]),some (.box 100 [(.mp 2),(jI bf2),(jI bf3)]),some (.map (bh4.map (mkv (pAgg Qd.cells) (pInt .i64))))])
noncomputable def f81r1n1(bc1:List Qc)(bf2 bf3:Int)(bh4:List (Qd×Int)):Option f81r1n1O :=
 (f81r1n2 FUEL bc1 bf2 bf3 bh4 0).bind fun o44=>match o44 with
 | .exit0=>some .norm
 | .ret v46=>some (.ret v46)
theorem f81r1n1_ok(bc1:List Qc)(bf2 bf3:Int)(bh4:List (Qd×Int)){o:f81r1n1O}(h:f81r1n1 bc1 bf2 bf3 bh4=some o):T Tryd.prog Tryd.f81.ntmps 3 (cL (Qt 1 c81)) (f81r1n1S bc1 bf2 bf3 bh4) (·=f81r1n1E bc1 bf2 bf3 bh4 o):=by
 unfold f81r1n1 at h;refine rN Qi 1 [([],[],[(1,.val (jI (bc1.length:Int)))])] [] [] [] [0,1,7,8] (f81r1n2S bc1 bf2 bf3 bh4 0) (ap (Qan (xs:=bc1) (c:=Qc.cells)) an) ?_;obtain ⟨o44,h45,h⟩:=Qe h;cases o44 with
 | exit0 =>
  obtain rfl:=Qf h;exact T.last' (T.bl (i:=0) (by kernel_rfl) (by kernel_rfl) (f81r1n2_ok FUEL bc1 bf2 bf3 bh4 0 h45)) (tds:=[]) (m:=[]) (keep:=[]) (st2:=(f81r1n1E bc1 bf2 bf3 bh4 .norm).2) (by kernel_rfl) an rfl
 | ret v46 =>
  obtain rfl:=Qf h;exact T.last' (T.bl (i:=0) (by kernel_rfl) (by kernel_rfl) (f81r1n2_ok FUEL bc1 bf2 bf3 bh4 0 h45)) (tds:=[]) (m:=[]) (keep:=[4]) (st2:=(f81r1n1E bc1 bf2 bf3 bh4 (.ret v46)).2) (by kernel_rfl) an rfl
inductive f81r1n0O where
 | ret (v51:Int)
def f81r1n0E(a1:List Qc)(a2 a3:Int)(a4:List (Qd×Int)):f81r1n0O→Ex×Tr×Hp
 | .ret v51=>(.ret,mkS [(4,(jI v51))],[some (.box 94 [(.bp 1 0)]),some (.box 100 [(.mp 2),(jI a2),(jI a3)]),some (.map (a4.map (mkv (pAgg Qd.cells) (pInt .i64))))])
def f81r1n0S(a1:List Qc)(a2 a3:Int)(a4:List (Qd×Int)):Tr×Hp:=(Qal [(jL 3 Qc.cells a1),(.clo 82 [(.bp 0 0)])] 0 .leaf,[some (.box 94 [(.bp 1 0)]),some (.box 100 [(.mp 2),(jI a2),(jI a3)]),some (.map (a4.map (mkv (pAgg Qd.cells) (pInt .i64))))])
noncomputable def f81r1n0(a1:List Qc)(a2 a3:Int)(a4:List (Qd×Int)):Option f81r1n0O :=
 (f81r1n1 a1 a2 a3 a4).bind fun o48=>match o48 with
 | .norm=>some (.ret (-1))
 | .ret v50=>some (.ret v50)
theorem f81r1n0_ok(a1:List Qc)(a2 a3:Int)(a4:List (Qd×Int)){o:f81r1n0O}(h:f81r1n0 a1 a2 a3 a4=some o):T Tryd.prog Tryd.f81.ntmps 3 c81 (f81r1n0S a1 a2 a3 a4) (·=f81r1n0E a1 a2 a3 a4 o):=by
 unfold f81r1n0 at h;refine rN Qi 1 [j3] [] [] [] [0,1] (f81r1n1S a1 a2 a3 a4) an ?_;obtain ⟨o48,h49,h⟩:=Qe h;cases o48 with
 | norm =>
  refine T.oneN (by kernel_rfl) (f81r1n1_ok a1 a2 a3 a4 h49) (st2:=(f81r1n1E a1 a2 a3 a4 .norm).2) rfl ?_;obtain rfl:=Qf h;exact rE Qi [j3] [] [] [] [4] (.ret,(f81r1n0E a1 a2 a3 a4 (.ret (-1))).2) an rfl
 | ret v50 =>
  obtain rfl:=Qf h;exact T.oneX' (by kernel_rfl) (f81r1n1_ok a1 a2 a3 a4 h49) (tds:=[]) (m:=[]) (keep:=[4]) (st2:=(f81r1n0E a1 a2 a3 a4 (.ret v50)).2) (by kernel_rfl) an rfl rfl
noncomputable def f81r1(a1:List Qc)(a2 a3:Int)(a4:List (Qd×Int)):Option Int:=(f81r1n0 a1 a2 a3 a4).bind fun o=>match o with
 | .ret v51=>some v51
theorem f81r1_ok(a1:List Qc)(a2 a3:Int)(a4:List (Qd×Int)){r:Int}(h:f81r1 a1 a2 a3 a4=some r):Ql Tryd.prog true 81 [(jL 3 Qc.cells a1),(.clo 82 [(.bp 0 0)])] [some (.box 94 [(.bp 1 0)]),some (.box 100 [(.mp 2),(jI a2),(jI a3)]),some (.map (a4.map (mkv (pAgg Qd.cells) (pInt .i64))))] (jI r) [some (.box 94 [(.bp 1 0)]),some (.box 100 [(.mp 2),(jI a2),(jI a3)]),some (.map (a4.map (mkv (pAgg Qd.cells) (pInt .i64))))]:=by
 unfold f81r1 at h;obtain ⟨o,ho,h⟩:=Qe h;cases o with
 | ret v51 =>
  obtain rfl:=Qf h;exact Ql.shared Qi (f:=Tryd.f81) (c:=c81) (by kernel_rfl) (by kernel_rfl) (by kernel_rfl) ((f81r1n0_ok a1 a2 a3 a4 ho).mono fun r e=>by subst e; exact ⟨.inl rfl,by kernel_rfl,by kernel_rfl⟩)

inductive f65r1n0O where
 | ret (v9:Bool)
def f65r1n0E(a1:List Qc)(a2 a3:Int)(a4:List (Qd×Int)):f65r1n0O→Ex×Tr×Hp
 | .ret v9=>(.ret,mkS [(4,(jB v9))],[some (.box 94 [(.bp 1 0)]),some (.box 100 [(.mp 2),(jI a2),(jI a3)]),some (.map (a4.map (mkv (pAgg Qd.cells) (pInt .i64))))])
def f65r1n0S(a1:List Qc)(a2 a3:Int)(a4:List (Qd×Int)):Tr×Hp:=(Qal [(jL 3 Qc.cells a1),(.clo 82 [(.bp 0 0)])] 0 .leaf,[some (.box 94 [(.bp 1 0)]),some (.box 100 [(.mp 2),(jI a2),(jI a3)]),some (.map (a4.map (mkv (pAgg Qd.cells) (pInt .i64))))])
noncomputable def f65r1n0(a1:List Qc)(a2 a3:Int)(a4:List (Qd×Int)):Option f65r1n0O :=
 (f81r1 a1 a2 a3 a4).bind fun x7 =>
 some (.ret (decide (0≤x7)))
theorem f65r1n0_ok(a1:List Qc)(a2 a3:Int)(a4:List (Qd×Int)){o:f65r1n0O}(h:f65r1n0 a1 a2 a3 a4=some o):T Tryd.prog Tryd.f65.ntmps 3 c65 (f65r1n0S a1 a2 a3 a4) (·=f65r1n0E a1 a2 a3 a4 o):=by
 unfold f65r1n0 at h;obtain ⟨x7,h8,h⟩:=Qe h;obtain rfl:=Qf h;exact rE Qi [j3,([],[(2,.call (jI x7) [some (.box 94 [(.bp 1 0)]),some (.box 100 [(.mp 2),(jI a2),(jI a3)]),some (.map (a4.map (mkv (pAgg Qd.cells) (pInt .i64))))])],[])] [] [] [] [4] (.ret,(f65r1n0E a1 a2 a3 a4 (.ret (decide (0≤x7)))).2) (ap (f81r1_ok a1 a2 a3 a4 h8) an) rfl
noncomputable def f65r1(a1:List Qc)(a2 a3:Int)(a4:List (Qd×Int)):Option Bool:=(f65r1n0 a1 a2 a3 a4).bind fun o=>match o with
 | .ret v9=>some v9
theorem f65r1_ok(a1:List Qc)(a2 a3:Int)(a4:List (Qd×Int)){r:Bool}(h:f65r1 a1 a2 a3 a4=some r):Ql Tryd.prog true 65 [(jL 3 Qc.cells a1),(.clo 82 [(.bp 0 0)])] [some (.box 94 [(.bp 1 0)]),some (.box 100 [(.mp 2),(jI a2),(jI a3)]),some (.map (a4.map (mkv (pAgg Qd.cells) (pInt .i64))))] (jB r) [some (.box 94 [(.bp 1 0)]),some (.box 100 [(.mp 2),(jI a2),(jI a3)]),some (.map (a4.map (mkv (pAgg Qd.cells) (pInt .i64))))]:=by
 unfold f65r1 at h;obtain ⟨o,ho,h⟩:=Qe h;cases o with
 | ret v9 =>
  obtain rfl:=Qf h;exact Ql.shared Qi (f:=Tryd.f65) (c:=c65) (by kernel_rfl) (by kernel_rfl) (by kernel_rfl) ((f65r1n0_ok a1 a2 a3 a4 ho).mono fun r e=>by subst e; exact ⟨.inl rfl,by kernel_rfl,by kernel_rfl⟩)

noncomputable def c66:Code:=Tryd.f66.body.getD .skip
inductive f66r1n0O where
 | ret (v9:Bool)
def f66r1n0E(a1:Qb)(a2 a3:Int)(a4:List (Qd×Int)):f66r1n0O→Ex×Tr×Hp
 | .ret v9=>(.ret,mkS [(4,(jB v9))],[some (.box 100 [(.mp 1),(jI a2),(jI a3)]),some (.map (a4.map (mkv (pAgg Qd.cells) (pInt .i64))))])
def f66r1n0S(a1:Qb)(a2 a3:Int)(a4:List (Qd×Int)):Tr×Hp:=(Qal [(.bp 0 0),(jA Qb.cells a1)] 0 .leaf,[some (.box 100 [(.mp 1),(jI a2),(jI a3)]),some (.map (a4.map (mkv (pAgg Qd.cells) (pInt .i64))))])
noncomputable def f66r1n0(a1:Qb)(a2 a3:Int)(a4:List (Qd×Int)):Option f66r1n0O :=
 (f65r1 a1.Lines a2 a3 a4).bind fun x7 =>
 some (.ret (!x7))
theorem f66r1n0_ok(a1:Qb)(a2 a3:Int)(a4:List (Qd×Int)){o:f66r1n0O}(h:f66r1n0 a1 a2 a3 a4=some o):T Tryd.prog Tryd.f66.ntmps 2 c66 (f66r1n0S a1 a2 a3 a4) (·=f66r1n0E a1 a2 a3 a4 o):=by
 unfold f66r1n0 at h;obtain ⟨x7,h8,h⟩:=Qe h;obtain rfl:=Qf h;exact rE Qi [j3,([],[(3,.call (jB x7) [some (.box 100 [(.mp 1),(jI a2),(jI a3)]),some (.map (a4.map (mkv (pAgg Qd.cells) (pInt .i64)))),some (.box 94 [(.bp 0 0)]),none])],[])] [] [] [] [4] (.ret,(f66r1n0E a1 a2 a3 a4 (.ret (!x7))).2) (ap (Ql.rn 4 [2,0,1] (f65r1_ok a1.Lines a2 a3 a4 h8)) an) rfl
noncomputable def f66r1(a1:Qb)(a2 a3:Int)(a4:List (Qd×Int)):Option Bool:=(f66r1n0 a1 a2 a3 a4).bind fun o=>match o with
 | .ret v9=>some v9
theorem f66r1_ok(a1:Qb)(a2 a3:Int)(a4:List (Qd×Int)){r:Bool}(h:f66r1 a1 a2 a3 a4=some r):Ql Tryd.prog true 66 [(.bp 0 0),(jA Qb.cells a1)] [some (.box 100 [(.mp 1),(jI a2),(jI a3)]),some (.map (a4.map (mkv (pAgg Qd.cells) (pInt .i64))))] (jB r) [some (.box 100 [(.mp 1),(jI a2),(jI a3)]),some (.map (a4.map (mkv (pAgg Qd.cells) (pInt .i64))))]:=by
 unfold f66r1 at h;obtain ⟨o,ho,h⟩:=Qe h;cases o with
 | ret v9 =>
  obtain rfl:=Qf h;exact Ql.shared Qi (f:=Tryd.f66) (c:=c66) (by kernel_rfl) (by kernel_rfl) (by kernel_rfl) ((f66r1n0_ok a1 a2 a3 a4 ho).mono fun r e=>by subst e; exact ⟨.inl rfl,by kernel_rfl,by kernel_rfl⟩)

noncomputable def c48:Code:=Tryd.f48.body.getD .skip

inductive f48r2n2O where
 | exit0 (v43:List (Qd×Int))
def f48r2n2E(bb4:Qb)(bf1 bf2:Int):f48r2n2O→Ex×Tr×Hp
 | .exit0 v43=>((.exit 0),mkS [(0,(.bp 0 0)),(3,(.bp 2 0))],[some (.box 100 [(.mp 1),(jI bf1),(jI bf2)]),some (.map (v43.map (mkv (pAgg Qd.cells) (pInt .i64)))),some (.box 46 ((Qb.cells bb4).map .pl))])
def f48r2n2S(bb4:Qb)(bf1 bf2 v35:Int)(v36:List (Qd×Int)):Tr×Hp:=(mkS [(0,(.bp 0 0)),(3,(.bp 2 0)),(32,(jL 3 Qc.cells bb4.Lines)),(33,(jI (bb4.Lines.length:Int))),(34,(jI v35))],[some (.box 100 [(.mp 1),(jI bf1),(jI bf2)]),some (.map (v36.map (mkv (pAgg Qd.cells) (pInt .i64)))),some (.box 46 ((Qb.cells bb4).map .pl))])
noncomputable def f48r2n2:Nat→Qb→Int→Int→Int→List (Qd×Int)→Option f48r2n2O
 | 0,_,_,_,_,_=>none
 | f+1,bb4,bf1,bf2,v35,v36 =>
  bif decide (v35<(bb4.Lines.length:Int)) then
   (at? bb4.Lines v35).bind fun x41 =>
   (f48r2n2 f bb4 bf1 bf2 (wr64 (v35+1)) (mPut Qd.eqb (Qd.mk x41.Account x41.Ccy) (wr64 ((mGet Qd.eqb 0 (Qd.mk x41.Account x41.Ccy) v36)+x41.Amount)) v36))
  else
   some (.exit0 v36)
theorem f48r2n2_ok:∀(f:Nat)(bb4:Qb)(bf1 bf2 v35:Int)(v36:List (Qd×Int)){o:f48r2n2O},f48r2n2 f bb4 bf1 bf2 v35 v36=some o→TL Tryd.prog Tryd.f48.ntmps 2 f (cL (cL (Qt 1 (cL (Qt 2 c48))))) (f48r2n2S bb4 bf1 bf2 v35 v36) (·=f48r2n2E bb4 bf1 bf2 o)
 | 0,_,_,_,_,_,o,h=>by rw [f48r2n2] at h; cases h
 | f+1,bb4,bf1,bf2,v35,v36,o,h=>by
  rw [f48r2n2] at h;refine TL.body (K:=fun s=>∃v35:Int,∃v36:List (Qd×Int),s=(f48r2n2S bb4 bf1 bf2 v35 v36)∧f48r2n2 f bb4 bf1 bf2 v35 v36=some o) ?_ (by rintro _ ⟨v35,v36,rfl,hk⟩; exact f48r2n2_ok f _ _ _ _ _ hk);rcases Qg h with ⟨h38,h⟩|⟨h38,h⟩
  ·obtain ⟨x41,h42,h⟩:=Qe h
   exact rE Qi [j3,([],[(0,.idx (Int.toNat v35) (Qc.cells x41))],[]),([],[(9,.look ((pInt .i64) (mGet Qd.eqb 0 (Qd.mk x41.Account x41.Ccy) v36)) (mHas Qd.eqb (Qd.mk x41.Account x41.Ccy) v36)),(13,.ment ((pInt .i64) (mGet Qd.eqb 0 (Qd.mk x41.Account x41.Ccy) v36)) (mIdx Qd.eqb (Qd.mk x41.Account x41.Ccy) v36) ((mEns Qd.eqb 0 (Qd.mk x41.Account x41.Ccy) v36).map (mkv (pAgg Qd.cells) (pInt .i64)))),(15,.mst (mIdx Qd.eqb (Qd.mk x41.Account x41.Ccy) v36) ((pAgg Qd.cells) (Qd.mk x41.Account x41.Ccy)) ((pInt .i64) (mGet Qd.eqb 0 (Qd.mk x41.Account x41.Ccy) v36)))],[(15,.map 1 ((mPut Qd.eqb (Qd.mk x41.Account x41.Ccy) (wr64 ((mGet Qd.eqb 0 (Qd.mk x41.Account x41.Ccy) v36)+x41.Amount)) v36).map (mkv (pAgg Qd.cells) (pInt .i64))))]),j3] [some true] [] [2] [0,3,32,33,34] (.norm,(f48r2n2S bb4 bf1 bf2 (wr64 (v35+1)) (mPut Qd.eqb (Qd.mk x41.Account x41.Ccy) (wr64 ((mGet Qd.eqb 0 (Qd.mk x41.Account x41.Ccy) v36)+x41.Amount)) v36))) (ap h38 (ap (Qm h42).1 (ap (Qag Qc.cells (Qm h42).2) (ap (look_map (vp:=(pInt .i64)) (e:=3) key_107 0 (by kernel_rfl) (Qd.mk x41.Account x41.Ccy) v36) (ap (ment_map (vp:=(pInt .i64)) (e:=3) key_107 0 (by kernel_rfl) (Qd.mk x41.Account x41.Ccy) v36) (ap (rfl:((mIdx Qd.eqb (Qd.mk x41.Account x41.Ccy) v36):Int)=(((mIdx Qd.eqb (Qd.mk x41.Account x41.Ccy) v36):Nat):Int)) (ap (mst_at (vp:=(pInt .i64)) key_107 0 (Qd.mk x41.Account x41.Ccy) v36) (ap (mst_put (vp:=(pInt .i64)) key_107 0 (wr64 ((mGet Qd.eqb 0 (Qd.mk x41.Account x41.Ccy) v36)+x41.Amount)) (Qd.mk x41.Account x41.Ccy) v36) an)))))))) (Qad.norm ⟨(wr64 (v35+1)),(mPut Qd.eqb (Qd.mk x41.Account x41.Ccy) (wr64 ((mGet Qd.eqb 0 (Qd.mk x41.Account x41.Ccy) v36)+x41.Amount)) v36),rfl,h⟩)
  ·obtain rfl:=Qf h;exact rK Qi 2 [j3] [some false] [] [2] [0,3] (.exit 0) ((f48r2n2E bb4 bf1 bf2 (.exit0 v36)).2) (ap h38 an) (Qad.out rfl rfl)
noncomputable def f48r2n2L(bb4:Qb)(bf1 bf2:Int):List Qc→Int→(List (Qd×Int))→Option f48r2n2O
 | [],v35,v36 =>
  some (.exit0 v36)
 | x0::rest,v35,v36 =>
  (f48r2n2L bb4 bf1 bf2 rest (v35+1) (mPut Qd.eqb (Qd.mk x0.Account x0.Ccy) (wr64 ((mGet Qd.eqb 0 (Qd.mk x0.Account x0.Ccy) v36)+x0.Amount)) v36))
theorem f48r2n2L_eq(bb4:Qb)(bf1 bf2:Int):∀(rest:List Qc)(f k:Nat)(v36:List (Qd×Int)),bb4.Lines.drop k=rest→bb4.Lines.length≤maxLen→rest.length<f→f48r2n2 f bb4 bf1 bf2 (k:Int) v36=f48r2n2L bb4 bf1 bf2 rest (k:Int) v36
 | _,0,_,_,_,_,hf=>absurd hf (Nat.not_lt_zero _)
 | [],f+1,k,v36,hd,hm,hf=>by
  have hk:¬((k:Int)<(bb4.Lines.length:Int)):=by have:=Qbj hd; omega
  rw [f48r2n2,f48r2n2L];simp only [decide_eq_false hk,cond_false]
 | x0::rest,f+1,k,v36,hd,hm,hf=>by
  obtain ⟨hx,hlt,hd'⟩:=Qbn hd;have hk:(k:Int)<(bb4.Lines.length:Int):=by omega
  have hw:wr64 ((k:Int)+1)=(k:Int)+1:=wr64_of (by omega) (by unfold maxLen at hm; omega);have ih:∀(v36:List (Qd×Int)),f48r2n2 f bb4 bf1 bf2 ((k:Int)+1) v36=f48r2n2L bb4 bf1 bf2 rest ((k:Int)+1) v36:=fun v36=>f48r2n2L_eq bb4 bf1 bf2 rest f (k+1) v36 hd' hm (by simpa using hf);rw [f48r2n2,f48r2n2L];simp only [decide_eq_true hk,cond_true,at_nat,hx,Option.bind_some,hw,ih]
theorem f48r2n2_run(bb4:Qb)(bf1 bf2:Int)(v36:List (Qd×Int))(hm:bb4.Lines.length≤maxLen):f48r2n2 FUEL bb4 bf1 bf2 0 v36=f48r2n2L bb4 bf1 bf2 bb4.Lines 0 v36:=f48r2n2L_eq bb4 bf1 bf2 bb4.Lines FUEL 0 v36 List.drop_zero hm (lt_FUEL hm)
inductive f48r2n1O where
 | norm (v47:List (Qd×Int))
def f48r2n1E(bf1 bf2:Int)(bh3:List (Qd×Int))(bb4:Qb):f48r2n1O→Ex×Tr×Hp
 | .norm v47=>(.norm,mkS [(0,(.bp 0 0)),(3,(.bp 2 0))],[some (.box 100 [(.mp 1),(jI bf1),(jI bf2)]),some (.map (v47.map (mkv (pAgg Qd.cells) (pInt .i64)))),some (.box 46 ((Qb.cells bb4).map .pl))])
def f48r2n1S(bf1 bf2:Int)(bh3:List (Qd×Int))(bb4:Qb):Tr×Hp:=(mkS [(0,(.bp 0 0)),(3,(.bp 2 0))],[some (.box 100 [(.mp 1),(jI bf1),(jI bf2)]),some (.map (bh3.map (mkv (pAgg Qd.cells) (pInt .i64)))),some (.box 46 ((Qb.cells bb4).map .pl))])
noncomputable def f48r2n1(bf1 bf2:Int)(bh3:List (Qd×Int))(bb4:Qb):Option f48r2n1O :=
 (f48r2n2 FUEL bb4 bf1 bf2 0 bh3).bind fun o44=>match o44 with
 | .exit0 v46=>some (.norm v46)
theorem f48r2n1_ok(bf1 bf2:Int)(bh3:List (Qd×Int))(bb4:Qb){o:f48r2n1O}(h:f48r2n1 bf1 bf2 bh3 bb4=some o):T Tryd.prog Tryd.f48.ntmps 2 (cL (Qt 2 c48)) (f48r2n1S bf1 bf2 bh3 bb4) (·=f48r2n1E bf1 bf2 bh3 bb4 o):=by
 unfold f48r2n1 at h;refine rN Qi 1 [([],[],[(2,.val (jI (bb4.Lines.length:Int)))])] [] [] [2] [0,3,32,33,34] (f48r2n2S bb4 bf1 bf2 0 bh3) (ap (Qan (xs:=bb4.Lines) (c:=Qc.cells)) an) ?_;obtain ⟨o44,h45,h⟩:=Qe h;cases o44 with
 | exit0 v46 =>
  obtain rfl:=Qf h;exact T.last' (T.bl (i:=0) (by kernel_rfl) (by kernel_rfl) (f48r2n2_ok FUEL bb4 bf1 bf2 0 bh3 h45)) (tds:=[]) (m:=[2]) (keep:=[0,3]) (st2:=(f48r2n1E bf1 bf2 bh3 bb4 (.norm v46)).2) (by kernel_rfl) an rfl
inductive f48r2n0O where
 | ret (v55:Bool) (v56:Int) (v57:Int) (v58:List (Qd×Int))
def f48r2n0E(a1:Qb)(a2 a3:Int)(a4:List (Qd×Int)):f48r2n0O→Ex×Tr×Hp
 | .ret v55 v56 v57 v58=>(.ret,mkS [(4,(jB v55))],[some (.box 100 [(.mp 1),(jI v56),(jI v57)]),some (.map (v58.map (mkv (pAgg Qd.cells) (pInt .i64))))])
def f48r2n0S(a1:Qb)(a2 a3:Int)(a4:List (Qd×Int)):Tr×Hp:=(Qal [(.bp 0 0),(jA Qb.cells a1)] 0 .leaf,[some (.box 100 [(.mp 1),(jI a2),(jI a3)]),some (.map (a4.map (mkv (pAgg Qd.cells) (pInt .i64))))])
noncomputable def f48r2n0(a1:Qb)(a2 a3:Int)(a4:List (Qd×Int)):Option f48r2n0O :=
 bif decide (a3=200) then
  some (.ret false a2 a3 a4)
 else
  (f46 a1).bind fun x14 =>
  bif x14 then
   (f47 a1).bind fun x17 =>
   bif x17 then
    bif decide (a1.Day<a2) then
     some (.ret false a2 a3 a4)
    else
     (f48r2n1 a2 a3 a4 a1).bind fun o48=>match o48 with
     | .norm v50=>(f66r1 a1 a1.Day (wr64 (a3+1)) v50).bind fun x53 =>
      some (.ret x53 a1.Day (wr64 (a3+1)) v50)
   else
    some (.ret false a2 a3 a4)
  else
   some (.ret false a2 a3 a4)
theorem f48r2n0_ok(a1:Qb)(a2 a3:Int)(a4:List (Qd×Int)){o:f48r2n0O}(h:f48r2n0 a1 a2 a3 a4=some o):T Tryd.prog Tryd.f48.ntmps 2 c48 (f48r2n0S a1 a2 a3 a4) (·=f48r2n0E a1 a2 a3 a4 o):=by
 unfold f48r2n0 at h;rcases Qg h with ⟨h13,h⟩|⟨h13,h⟩
 ·obtain rfl:=Qf h;exact rK Qi 2 [j3,(jT [6,7,8],[(9,.bool true)],[]),j3] [none] [] [] [4] .ret ((f48r2n0E a1 a2 a3 a4 (.ret false a2 a3 a4)).2) (ap4 h13 an) rfl
 ·obtain ⟨x14,h15,h⟩:=Qe h;rcases Qg h with ⟨h16,h⟩|⟨h16,h⟩
  ·obtain ⟨x17,h18,h⟩:=Qe h;rcases Qg h with ⟨h19,h⟩|⟨h19,h⟩
   ·rcases Qg h with ⟨h20,h⟩|⟨h20,h⟩
    ·obtain rfl:=Qf h;exact rK Qi 2 [j3,(jF [6,7,8,11,12,13,16,17,18,19,20,21,22],[jH 7 (jB x14),(9,.bool false),jH 12 (jB x17),(14,.bool false),(23,.bool false)],[]),j3] [some true] [] [] [4] .ret ((f48r2n0E a1 a2 a3 a4 (.ret false a2 a3 a4)).2) (ap4 h13 (ap4 (Qq h16) (ap4 (Qq h19) (ap4 (Qq h19) (ap (f46_ok a1 h15) (ap (f47_ok a1 h18) (ap h20 an))))))) rfl
    ·refine rN Qi 2 [j3,(jF [6,7,8,11,12,13,16,17,18,19,20,21,22],[jH 7 (jB x14),(9,.bool false),jH 12 (jB x17),(14,.bool false),(23,.bool false)],[])] [some false] [] [2] [0,3] (f48r2n1S a2 a3 a4 a1) (ap4 h13 (ap4 (Qq h16) (ap4 (Qq h19) (ap4 (Qq h19) (ap (f46_ok a1 h15) (ap (f47_ok a1 h18) (ap h20 an))))))) ?_;obtain ⟨o48,h49,h⟩:=Qe h;cases o48 with
     | norm v50 =>
      refine T.oneN (by kernel_rfl) (f48r2n1_ok a2 a3 a4 a1 h49) (st2:=(f48r2n1E a2 a3 a4 a1 (.norm v50)).2) rfl ?_;obtain ⟨x53,h54,h⟩:=Qe h;obtain rfl:=Qf h;exact rE Qi [j3,([],[(2,.call (jB x53) [some (.box 100 [(.mp 1),(jI a1.Day),(jI (wr64 (a3+1)))]),some (.map (v50.map (mkv (pAgg Qd.cells) (pInt .i64)))),none,none])],[])] [] [] [] [4] (.ret,(f48r2n0E a1 a2 a3 a4 (.ret x53 a1.Day (wr64 (a3+1)) v50)).2) (ap (Ql.rn 4 [0,1] (f66r1_ok a1 a1.Day (wr64 (a3+1)) v50 h54)) an) rfl
   ·obtain rfl:=Qf h;exact rK Qi 2 [j3,(jF [6,7,8,11,12,13]++jT [16,17,18,19,20,21,22],[jH 7 (jB x14),(9,.bool false),jH 12 (jB x17),(14,.bool false),(23,.bool true)],[]),j3] [none] [] [] [4] .ret ((f48r2n0E a1 a2 a3 a4 (.ret false a2 a3 a4)).2) (ap4 h13 (ap4 (Qq h16) (ap4 (Qaf h19) (ap4 (Qaf h19) (ap (f46_ok a1 h15) (ap (f47_ok a1 h18) an)))))) rfl
  ·obtain rfl:=Qf h;exact rK Qi 2 [j3,(jF [6,7,8]++jT [11,12,13],[jH 7 (jB x14),(9,.bool false),(14,.bool true)],[]),j3] [none] [] [] [4] .ret ((f48r2n0E a1 a2 a3 a4 (.ret false a2 a3 a4)).2) (ap4 h13 (ap4 (Qaf h16) (ap (f46_ok a1 h15) an))) rfl
noncomputable def f48r2(a1:Qb)(a2 a3:Int)(a4:List (Qd×Int)):Option (Bool×Int×Int×(List (Qd×Int))):=(f48r2n0 a1 a2 a3 a4).bind fun o=>match o with
 | .ret v55 v56 v57 v58=>some (v55,v56,v57,v58)
theorem f48r2_ok(a1:Qb)(a2 a3:Int)(a4:List (Qd×Int)) {r:Bool×Int×Int×(List (Qd×Int))} (h:f48r2 a1 a2 a3 a4=some r):Ql Tryd.prog true 48 [(.bp 0 0),(jA Qb.cells a1)] [some (.box 100 [(.mp 1),(jI a2),(jI a3)]),some (.map (a4.map (mkv (pAgg Qd.cells) (pInt .i64))))] (jB r.1) [some (.box 100 [(.mp 1),(jI r.2.1),(jI r.2.2.1)]),some (.map (r.2.2.2.map (mkv (pAgg Qd.cells) (pInt .i64))))]:=by
 unfold f48r2 at h;obtain ⟨o,ho,h⟩:=Qe h;cases o with
 | ret v55 v56 v57 v58 =>
  obtain rfl:=Qf h;exact Ql.shared Qi (f:=Tryd.f48) (c:=c48) (by kernel_rfl) (by kernel_rfl) (by kernel_rfl) ((f48r2n0_ok a1 a2 a3 a4 ho).mono fun r e=>by subst e; exact ⟨.inl rfl,by kernel_rfl,by kernel_rfl⟩)

noncomputable def c45:Code:=Tryd.f45.body.getD .skip
inductive f45r1n2O where
 | exit0 (v48:Int) (v49:Int) (v50:List (Qd×Int))
 | ret (v51:Int) (v52:Int) (v53:List (Qd×Int))
def f45r1n2E(ba1:Qj):f45r1n2O→Ex×Tr×Hp
 | .exit0 v48 v49 v50=>((.exit 0),mkS [(4,(.bp 0 0))],[some (.box 100 [(.mp 1),(jI v48),(jI v49)]),some (.map (v50.map (mkv (pAgg Qd.cells) (pInt .i64))))])
 | .ret v51 v52 v53=>(.ret,mkS [(2,(.bp 0 0)),(3,(jB false))],[some (.box 100 [(.mp 1),(jI v51),(jI v52)]),some (.map (v53.map (mkv (pAgg Qd.cells) (pInt .i64))))])
def f45r1n2S(ba1:Qj)(v32 v33 v34:Int)(v35:List (Qd×Int)):Tr×Hp:=(mkS [(4,(.bp 0 0)),(16,(jL 3 Qb.cells ba1.Records)),(17,(jI (ba1.Records.length:Int))),(18,(jI v32))],[some (.box 100 [(.mp 1),(jI v33),(jI v34)]),some (.map (v35.map (mkv (pAgg Qd.cells) (pInt .i64))))])
noncomputable def f45r1n2:Nat→Qj→Int→Int→Int→List (Qd×Int)→Option f45r1n2O
 | 0,_,_,_,_,_=>none
 | f+1,ba1,v32,v33,v34,v35 =>
  bif decide (v32<(ba1.Records.length:Int)) then
   (at? ba1.Records v32).bind fun x43 =>
   (f48r2 x43 v33 v34 v35).bind fun x45 =>
   bif x45.1 then
    (f45r1n2 f ba1 (wr64 (v32+1)) x45.2.1 x45.2.2.1 x45.2.2.2)
   else
    some (.ret x45.2.1 x45.2.2.1 x45.2.2.2)
  else
   some (.exit0 v33 v34 v35)
theorem f45r1n2_ok:∀(f:Nat)(ba1:Qj)(v32 v33 v34:Int)(v35:List (Qd×Int)){o:f45r1n2O},f45r1n2 f ba1 v32 v33 v34 v35=some o→TL Tryd.prog Tryd.f45.ntmps 0 f (cL (cL (Qt 1 (cL (Qt 3 c45))))) (f45r1n2S ba1 v32 v33 v34 v35) (·=f45r1n2E ba1 o)
 | 0,_,_,_,_,_,o,h=>by rw [f45r1n2] at h; cases h
 | f+1,ba1,v32,v33,v34,v35,o,h=>by
  rw [f45r1n2] at h;refine TL.body (K:=fun s=>∃v32:Int,∃v33:Int,∃v34:Int,∃v35:List (Qd×Int),s=(f45r1n2S ba1 v32 v33 v34 v35)∧f45r1n2 f ba1 v32 v33 v34 v35=some o) ?_ (by rintro _ ⟨v32,v33,v34,v35,rfl,hk⟩; exact f45r1n2_ok f _ _ _ _ _ hk);rcases Qg h with ⟨h37,h⟩|⟨h37,h⟩
  ·obtain ⟨x43,h44,h⟩:=Qe h;obtain ⟨x45,h46,h⟩:=Qe h;rcases Qg h with ⟨h47,h⟩|⟨h47,h⟩
   ·exact rE Qi [j3,([],[(0,.idx (Int.toNat v32) (Qb.cells x43))],[]),([],[(2,.call (jB x45.1) [some (.box 100 [(.mp 1),(jI x45.2.1),(jI x45.2.2.1)]),some (.map (x45.2.2.2.map (mkv (pAgg Qd.cells) (pInt .i64)))),none])],[]),j3] [some true,some false] [] [0,1] [4,16,17,18] (.norm,(f45r1n2S ba1 (wr64 (v32+1)) x45.2.1 x45.2.2.1 x45.2.2.2)) (ap h37 (ap (Qm h44).1 (ap (Qag Qb.cells (Qm h44).2) (ap (Ql.rn 3 [0,1] (f48r2_ok x43 v33 v34 v35 h46)) (ap (Qq h47) an))))) (Qad.norm ⟨(wr64 (v32+1)),x45.2.1,x45.2.2.1,x45.2.2.2,rfl,h⟩)
   ·obtain rfl:=Qf h;exact rK Qi 3 [j3,([],[(0,.idx (Int.toNat v32) (Qb.cells x43))],[]),([],[(2,.call (jB x45.1) [some (.box 100 [(.mp 1),(jI x45.2.1),(jI x45.2.2.1)]),some (.map (x45.2.2.2.map (mkv (pAgg Qd.cells) (pInt .i64)))),none])],[]),j3] [some true,some true] [] [0,1] [2,3] .ret ((f45r1n2E ba1 (.ret x45.2.1 x45.2.2.1 x45.2.2.2)).2) (ap h37 (ap (Qm h44).1 (ap (Qag Qb.cells (Qm h44).2) (ap (Ql.rn 3 [0,1] (f48r2_ok x43 v33 v34 v35 h46)) (ap (Qaf h47) an))))) (Qad.out rfl rfl)
  ·obtain rfl:=Qf h;exact rK Qi 2 [j3] [some false] [] [0,1] [4] (.exit 0) ((f45r1n2E ba1 (.exit0 v33 v34 v35)).2) (ap h37 an) (Qad.out rfl rfl)
noncomputable def f45r1n2L(ba1:Qj):List Qb→Int→Int→Int→(List (Qd×Int))→Option f45r1n2O
 | [],v32,v33,v34,v35 =>
  some (.exit0 v33 v34 v35)
 | x0::rest,v32,v33,v34,v35 =>
  (f48r2 x0 v33 v34 v35).bind fun x45 =>
  bif x45.1 then
   (f45r1n2L ba1 rest (v32+1) x45.2.1 x45.2.2.1 x45.2.2.2)
  else
   some (.ret x45.2.1 x45.2.2.1 x45.2.2.2)
theorem f45r1n2L_eq(ba1:Qj):∀(rest:List Qb)(f k:Nat)(v33 v34:Int)(v35:List (Qd×Int)),ba1.Records.drop k=rest→ba1.Records.length≤maxLen→rest.length<f→f45r1n2 f ba1 (k:Int) v33 v34 v35=f45r1n2L ba1 rest (k:Int) v33 v34 v35
 | _,0,_,_,_,_,_,_,hf=>absurd hf (Nat.not_lt_zero _)
 | [],f+1,k,v33,v34,v35,hd,hm,hf=>by
  have hk:¬((k:Int)<(ba1.Records.length:Int)):=by have:=Qbj hd; omega
  rw [f45r1n2,f45r1n2L];simp only [decide_eq_false hk,cond_false]
 | x0::rest,f+1,k,v33,v34,v35,hd,hm,hf=>by
  obtain ⟨hx,hlt,hd'⟩:=Qbn hd;have hk:(k:Int)<(ba1.Records.length:Int):=by omega
  have hw:wr64 ((k:Int)+1)=(k:Int)+1:=wr64_of (by omega) (by unfold maxLen at hm; omega);have ih:∀(v33 v34:Int)(v35:List (Qd×Int)),f45r1n2 f ba1 ((k:Int)+1) v33 v34 v35=f45r1n2L ba1 rest ((k:Int)+1) v33 v34 v35:=fun v33 v34 v35=>f45r1n2L_eq ba1 rest f (k+1) v33 v34 v35 hd' hm (by simpa using hf);rw [f45r1n2,f45r1n2L];simp only [decide_eq_true hk,cond_true,at_nat,hx,Option.bind_some,hw,ih]
theorem f45r1n2_run(ba1:Qj)(v33 v34:Int)(v35:List (Qd×Int))(hm:ba1.Records.length≤maxLen):f45r1n2 FUEL ba1 0 v33 v34 v35=f45r1n2L ba1 ba1.Records 0 v33 v34 v35:=f45r1n2L_eq ba1 ba1.Records FUEL 0 v33 v34 v35 List.drop_zero hm (lt_FUEL hm)
inductive f45r1n1O where
 | norm (v62:Int) (v63:Int) (v64:List (Qd×Int))
 | ret (v65:Int) (v66:Int) (v67:List (Qd×Int))
def f45r1n1E(ba1:Qj):f45r1n1O→Ex×Tr×Hp
 | .norm v62 v63 v64=>(.norm,mkS [(4,(.bp 0 0))],[some (.box 100 [(.mp 1),(jI v62),(jI v63)]),some (.map (v64.map (mkv (pAgg Qd.cells) (pInt .i64))))])
 | .ret v65 v66 v67=>(.ret,mkS [(2,(.bp 0 0)),(3,(jB false))],[some (.box 100 [(.mp 1),(jI v65),(jI v66)]),some (.map (v67.map (mkv (pAgg Qd.cells) (pInt .i64))))])
def f45r1n1S(ba1:Qj):Tr×Hp:=(mkS [(1,(.bp 0 0)),(4,(.bp 1 0))],[some (.box 43 ((Qj.cells ba1).map .pl)),some (.box 100 [(.mp 2),(jI 0),(jI 0)]),some (.map ([].map (mkv (pAgg Qd.cells) (pInt .i64))))])
noncomputable def f45r1n1(ba1:Qj):Option f45r1n1O :=
 (f45r1n2 FUEL ba1 0 0 0 []).bind fun o54=>match o54 with
 | .exit0 v56 v57 v58=>some (.norm v56 v57 v58)
 | .ret v59 v60 v61=>some (.ret v59 v60 v61)
theorem f45r1n1_ok(ba1:Qj){o:f45r1n1O}(h:f45r1n1 ba1=some o):T Tryd.prog Tryd.f45.ntmps 0 (cL (Qt 3 c45)) (f45r1n1S ba1) (·=f45r1n1E ba1 o):=by
 unfold f45r1n1 at h;refine rN Qi 1 [([],[],[(2,.val (jI (ba1.Records.length:Int)))])] [] [] [1,2] [4,16,17,18] (f45r1n2S ba1 0 0 0 []) (ap (Qan (xs:=ba1.Records) (c:=Qb.cells)) an) ?_;obtain ⟨o54,h55,h⟩:=Qe h;cases o54 with
 | exit0 v56 v57 v58 =>
  obtain rfl:=Qf h;exact T.last' (T.bl (i:=0) (by kernel_rfl) (by kernel_rfl) (f45r1n2_ok FUEL ba1 0 0 0 [] h55)) (tds:=[]) (m:=[0,1]) (keep:=[4]) (st2:=(f45r1n1E ba1 (.norm v56 v57 v58)).2) (by kernel_rfl) an rfl
 | ret v59 v60 v61 =>
  obtain rfl:=Qf h;exact T.last' (T.bl (i:=0) (by kernel_rfl) (by kernel_rfl) (f45r1n2_ok FUEL ba1 0 0 0 [] h55)) (tds:=[]) (m:=[0,1]) (keep:=[2,3]) (st2:=(f45r1n1E ba1 (.ret v59 v60 v61)).2) (by kernel_rfl) an rfl
inductive f45r1n0O where
 | ret (v76:Bool) (v77:Int) (v78:Int) (v79:List (Qd×Int))
def f45r1n0E(a1:Qj):f45r1n0O→Ex×Tr×Hp
 | .ret v76 v77 v78 v79=>(.ret,mkS [(2,(.bp 0 0)),(3,(jB v76))],[some (.box 100 [(.mp 1),(jI v77),(jI v78)]),some (.map (v79.map (mkv (pAgg Qd.cells) (pInt .i64))))])
def f45r1n0S(a1:Qj):Tr×Hp:=(Qal [(jA Qj.cells a1)] 0 .leaf,[])
noncomputable def f45r1n0(a1:Qj):Option f45r1n0O :=
 bif decide (200<(a1.Records.length:Int)) then
  some (.ret false 0 0 [])
 else
  (f45r1n1 a1).bind fun o68=>match o68 with
  | .norm v70 v71 v72=>some (.ret true v70 v71 v72)
  | .ret v73 v74 v75=>some (.ret false v73 v74 v75)
theorem f45r1n0_ok(a1:Qj){o:f45r1n0O}(h:f45r1n0 a1=some o):T Tryd.prog Tryd.f45.ntmps 0 c45 (f45r1n0S a1) (·=f45r1n0E a1 o):=by
 unfold f45r1n0 at h;rcases Qg h with ⟨h3,h⟩|⟨h3,h⟩
 ·obtain rfl:=Qf h;exact rK Qi 3 [j3,j3,([],[],[(2,.val (jI (a1.Records.length:Int)))]),j3] [some true] [] [2,1] [2,3] .ret ((f45r1n0E a1 (.ret false 0 0 [])).2) (ap (Qan (xs:=a1.Records) (c:=Qb.cells)) (ap h3 an)) rfl
 ·refine rN Qi 3 [j3,j3,([],[],[(2,.val (jI (a1.Records.length:Int)))])] [some false] [] [0,2,1] [1,4] (f45r1n1S a1) (ap (Qan (xs:=a1.Records) (c:=Qb.cells)) (ap h3 an)) ?_;obtain ⟨o68,h69,h⟩:=Qe h;cases o68 with
  | norm v70 v71 v72 =>
   refine T.oneN (by kernel_rfl) (f45r1n1_ok a1 h69) (st2:=(f45r1n1E a1 (.norm v70 v71 v72)).2) rfl ?_;obtain rfl:=Qf h;exact rE Qi [j3] [] [] [0,1] [2,3] (.ret,(f45r1n0E a1 (.ret true v70 v71 v72)).2) an rfl
  | ret v73 v74 v75 =>
   obtain rfl:=Qf h;exact T.oneX' (by kernel_rfl) (f45r1n1_ok a1 h69) (tds:=[]) (m:=[0,1]) (keep:=[2,3]) (st2:=(f45r1n0E a1 (.ret false v73 v74 v75)).2) (by kernel_rfl) an rfl rfl
noncomputable def f45r1(a1:Qj):Option (Bool×Int×Int×(List (Qd×Int))):=(f45r1n0 a1).bind fun o=>match o with
 | .ret v76 v77 v78 v79=>some (v76,v77,v78,v79)
theorem f45r1_ok(a1:Qj) {r:Bool×Int×Int×(List (Qd×Int))} (h:f45r1 a1=some r):Ql Tryd.prog true 45 [(jA Qj.cells a1)] [] (.tup [(.bp 0 0),(jB r.1)]) [some (.box 100 [(.mp 1),(jI r.2.1),(jI r.2.2.1)]),some (.map (r.2.2.2.map (mkv (pAgg Qd.cells) (pInt .i64))))]:=by
 unfold f45r1 at h;obtain ⟨o,ho,h⟩:=Qe h;cases o with
 | ret v76 v77 v78 v79 =>
  obtain rfl:=Qf h;exact Ql.shared Qi (f:=Tryd.f45) (c:=c45) (by kernel_rfl) (by kernel_rfl) (by kernel_rfl) ((f45r1n0_ok a1 ho).mono fun r e=>by subst e; exact ⟨.inl rfl,by kernel_rfl,by kernel_rfl⟩)
end Go.Proofs.YtfeklaffeigilaaDoor
namespace Go.Proofs.YtfeklaffeigilaaDoor
set_option linter.unusedVariables false
set_option linter.unusedSimpArgs false
set_option maxRecDepth 100000
open Go.RowKit
inductive f81r2n2O where
 | exit0
 | ret (v43:Int)
def f81r2n2E(bc1:List Qc)(bf2 bf3:Int)(bh4:List (Qd×Int)):f81r2n2O→Ex×Tr×Hp
 | .exit0=>((.exit 0),mkS [],[jR 3 Qc.cells bc1,some (.box 94 [(.bp 2 0)]),some (.box 100 [(.mp 3),(jI bf2),(jI bf3)]),some (.map (bh4.map (mkv (pAgg Qd.cells) (pInt .i64))))])
 | .ret v43=>(.ret,mkS [(4,(jI v43))],[jR 3 Qc.cells bc1,some (.box 94 [(.bp 2 0)]),some (.box 100 [(.mp 3),(jI bf2),(jI bf3)]),some (.map (bh4.map (mkv (pAgg Qd.cells) (pInt .i64))))])
def f81r2n2S(bc1:List Qc)(bf2 bf3:Int)(bh4:List (Qd×Int))(v30:Int):Tr×Hp:=(mkS [(0,(.own 0)),(1,(.clo 82 [(.bp 1 0)])),(7,(jI (bc1.length:Int))),(8,(jI v30))],[jR 3 Qc.cells bc1,some (.box 94 [(.bp 2 0)]),some (.box 100 [(.mp 3),(jI bf2),(jI bf3)]),some (.map (bh4.map (mkv (pAgg Qd.cells) (pInt .i64))))])
noncomputable def f81r2n2:Nat→List Qc→Int→Int→List (Qd×Int)→Int→Option f81r2n2O
 | 0,_,_,_,_,_=>none
 | f+1,bc1,bf2,bf3,bh4,v30 =>
  bif decide (v30<(bc1.length:Int)) then
   (at? bc1 v30).bind fun x38 =>
   (f82r1 x38 bf2 bf3 bh4).bind fun x40 =>
   bif x40 then
    some (.ret v30)
   else
    (f81r2n2 f bc1 bf2 bf3 bh4 (wr64 (v30+1)))
  else
   some .exit0
theorem f81r2n2_ok:∀(f:Nat)(bc1:List Qc)(bf2 bf3:Int)(bh4:List (Qd×Int))(v30:Int){o:f81r2n2O},f81r2n2 f bc1 bf2 bf3 bh4 v30=some o→TL Tryd.prog Tryd.f81.ntmps 4 f (cL (cL (Qt 1 (cL (Qt 1 c81))))) (f81r2n2S bc1 bf2 bf3 bh4 v30) (·=f81r2n2E bc1 bf2 bf3 bh4 o)
 | 0,_,_,_,_,_,o,h=>by rw [f81r2n2] at h; cases h
 | f+1,bc1,bf2,bf3,bh4,v30,o,h=>by
  rw [f81r2n2] at h;refine TL.body (K:=fun s=>∃v30:Int,s=(f81r2n2S bc1 bf2 bf3 bh4 v30)∧f81r2n2 f bc1 bf2 bf3 bh4 v30=some o) ?_ (by rintro _ ⟨v30,rfl,hk⟩; exact f81r2n2_ok f _ _ _ _ _ hk);rcases Qg h with ⟨h32,h⟩|⟨h32,h⟩
  ·obtain ⟨x38,h39,h⟩:=Qe h;obtain ⟨x40,h41,h⟩:=Qe h;rcases Qg h with ⟨h42,h⟩|⟨h42,h⟩
   ·obtain rfl:=Qf h;exact rK Qi 3 [j3,j3,([],[(3,.at_ (Int.toNat v30)),(4,.idx 0 (Qc.cells x38)),(5,.call (jB x40) [none,some (.box 94 [(.bp 2 0)]),some (.box 100 [(.mp 3),(jI bf2),(jI bf3)]),some (.map (bh4.map (mkv (pAgg Qd.cells) (pInt .i64))))])],[]),j3] [some true,some true] [] [] [4] .ret ((f81r2n2E bc1 bf2 bf3 bh4 (.ret v30)).2) (ap h32 (ap (Qm h39).1 (ap (lt_map Qc.cells (Qm h39).2) (ap (Qag Qc.cells (Qm h39).2) (ap (Ql.rn 4 [1,2,3] (f82r1_ok x38 bf2 bf3 bh4 h41)) (ap h42 an)))))) (Qad.out rfl rfl)
   ·exact rE Qi [j3,j3,([],[(3,.at_ (Int.toNat v30)),(4,.idx 0 (Qc.cells x38)),(5,.call (jB x40) [none,some (.box 94 [(.bp 2 0)]),some (.box 100 [(.mp 3),(jI bf2),(jI bf3)]),some (.map (bh4.map (mkv (pAgg Qd.cells) (pInt .i64))))])],[]),j3] [some true,some false] [] [] [0,1,7,8] (.norm,(f81r2n2S bc1 bf2 bf3 bh4 (wr64 (v30+1)))) (ap h32 (ap (Qm h39).1 (ap (lt_map Qc.cells (Qm h39).2) (ap (Qag Qc.cells (Qm h39).2) (ap (Ql.rn 4 [1,2,3] (f82r1_ok x38 bf2 bf3 bh4 h41)) (ap h42 an)))))) (Qad.norm ⟨(wr64 (v30+1)),rfl,h⟩)
  ·obtain rfl:=Qf h;exact rK Qi 2 [j3] [some false] [] [] [] (.exit 0) ((f81r2n2E bc1 bf2 bf3 bh4 .exit0).2) (ap h32 an) (Qad.out rfl rfl)
inductive f81r2n1O where
 | norm
 | ret (v47:Int)
def f81r2n1E(bc1:List Qc)(bf2 bf3:Int)(bh4:List (Qd×Int)):f81r2n1O→Ex×Tr×Hp
 | .norm=>(.norm,mkS [],[jR 3 Qc.cells bc1,some (.box 94 [(.bp 2 0)]),some (.box 100 [(.mp 3),(jI bf2),(jI bf3)]),some (.map (bh4.map (mkv (pAgg Qd.cells) (pInt .i64))))])
 | .ret v47=>(.ret,mkS [(4,(jI v47))],[jR 3 Qc.cells bc1,some (.box 94 [(.bp 2 0)]),some (.box 100 [(.mp 3),(jI bf2),(jI bf3)]),some (.map (bh4.map (mkv (pAgg Qd.cells) (pInt .i64))))])
def f81r2n1S(bc1:List Qc)(bf2 bf3:Int)(bh4:List (Qd×Int)):Tr×Hp:=(mkS [(0,(.own 0)),(1,(.clo 82 [(.bp 1 0)]))],[jR 3 Qc.cells bc1,some (.box 94 [(.bp 2 0)]),some (.box 100 [(.mp 3),(jI bf2),(jI bf3)]),some (.map (bh4.map (mkv (pAgg Qd.cells) (pInt .i64))))])
noncomputable def f81r2n1(bc1:List Qc)(bf2 bf3:Int)(bh4:List (Qd×Int)):Option f81r2n1O :=
 (f81r2n2 FUEL bc1 bf2 bf3 bh4 0).bind fun o44=>match o44 with
 | .exit0=>some .norm
 | .ret v46=>some (.ret v46)
theorem f81r2n1_ok(bc1:List Qc)(bf2 bf3:Int)(bh4:List (Qd×Int)){o:f81r2n1O}(h:f81r2n1 bc1 bf2 bf3 bh4=some o):T Tryd.prog Tryd.f81.ntmps 4 (cL (Qt 1 c81)) (f81r2n1S bc1 bf2 bf3 bh4) (·=f81r2n1E bc1 bf2 bf3 bh4 o):=by
 unfold f81r2n1 at h;refine rN Qi 1 [([],[],[(1,.val (jI (bc1.length:Int)))])] [] [] [] [0,1,7,8] (f81r2n2S bc1 bf2 bf3 bh4 0) (ap (Qan (xs:=bc1) (c:=Qc.cells)) an) ?_;obtain ⟨o44,h45,h⟩:=Qe h;cases o44 with
 | exit0 =>
  obtain rfl:=Qf h;exact T.last' (T.bl (i:=0) (by kernel_rfl) (by kernel_rfl) (f81r2n2_ok FUEL bc1 bf2 bf3 bh4 0 h45)) (tds:=[]) (m:=[]) (keep:=[]) (st2:=(f81r2n1E bc1 bf2 bf3 bh4 .norm).2) (by kernel_rfl) an rfl
 | ret v46 =>
  obtain rfl:=Qf h;exact T.last' (T.bl (i:=0) (by kernel_rfl) (by kernel_rfl) (f81r2n2_ok FUEL bc1 bf2 bf3 bh4 0 h45)) (tds:=[]) (m:=[]) (keep:=[4]) (st2:=(f81r2n1E bc1 bf2 bf3 bh4 (.ret v46)).2) (by kernel_rfl) an rfl
inductive f81r2n0O where
 | ret (v51:Int)
def f81r2n0E(a1:List Qc)(a2 a3:Int)(a4:List (Qd×Int)):f81r2n0O→Ex×Tr×Hp
 | .ret v51=>(.ret,mkS [(4,(jI v51))],[jR 3 Qc.cells a1,some (.box 94 [(.bp 2 0)]),some (.box 100 [(.mp 3),(jI a2),(jI a3)]),some (.map (a4.map (mkv (pAgg Qd.cells) (pInt .i64))))])
def f81r2n0S(a1:List Qc)(a2 a3:Int)(a4:List (Qd×Int)):Tr×Hp:=(Qal [(.own 0),(.clo 82 [(.bp 1 0)])] 0 .leaf,[jR 3 Qc.cells a1,some (.box 94 [(.bp 2 0)]),some (.box 100 [(.mp 3),(jI a2),(jI a3)]),some (.map (a4.map (mkv (pAgg Qd.cells) (pInt .i64))))])
noncomputable def f81r2n0(a1:List Qc)(a2 a3:Int)(a4:List (Qd×Int)):Option f81r2n0O :=
 (f81r2n1 a1 a2 a3 a4).bind fun o48=>match o48 with
 | .norm=>some (.ret (-1))
 | .ret v50=>some (.ret v50)
theorem f81r2n0_ok(a1:List Qc)(a2 a3:Int)(a4:List (Qd×Int)){o:f81r2n0O}(h:f81r2n0 a1 a2 a3 a4=some o):T Tryd.prog Tryd.f81.ntmps 4 c81 (f81r2n0S a1 a2 a3 a4) (·=f81r2n0E a1 a2 a3 a4 o):=by
 unfold f81r2n0 at h;refine rN Qi 1 [j3] [] [] [] [0,1] (f81r2n1S a1 a2 a3 a4) an ?_;obtain ⟨o48,h49,h⟩:=Qe h;cases o48 with
 | norm =>
  refine T.oneN (by kernel_rfl) (f81r2n1_ok a1 a2 a3 a4 h49) (st2:=(f81r2n1E a1 a2 a3 a4 .norm).2) rfl ?_;obtain rfl:=Qf h;exact rE Qi [j3] [] [] [] [4] (.ret,(f81r2n0E a1 a2 a3 a4 (.ret (-1))).2) an rfl
 | ret v50 =>
  obtain rfl:=Qf h;exact T.oneX' (by kernel_rfl) (f81r2n1_ok a1 a2 a3 a4 h49) (tds:=[]) (m:=[]) (keep:=[4]) (st2:=(f81r2n0E a1 a2 a3 a4 (.ret v50)).2) (by kernel_rfl) an rfl rfl
noncomputable def f81r2(a1:List Qc)(a2 a3:Int)(a4:List (Qd×Int)):Option Int:=(f81r2n0 a1 a2 a3 a4).bind fun o=>match o with
 | .ret v51=>some v51
theorem f81r2_ok(a1:List Qc)(a2 a3:Int)(a4:List (Qd×Int)){r:Int}(h:f81r2 a1 a2 a3 a4=some r):Ql Tryd.prog true 81 [(.own 0),(.clo 82 [(.bp 1 0)])] [jR 3 Qc.cells a1,some (.box 94 [(.bp 2 0)]),some (.box 100 [(.mp 3),(jI a2),(jI a3)]),some (.map (a4.map (mkv (pAgg Qd.cells) (pInt .i64))))] (jI r) [jR 3 Qc.cells a1,some (.box 94 [(.bp 2 0)]),some (.box 100 [(.mp 3),(jI a2),(jI a3)]),some (.map (a4.map (mkv (pAgg Qd.cells) (pInt .i64))))]:=by
 unfold f81r2 at h;obtain ⟨o,ho,h⟩:=Qe h;cases o with
 | ret v51 =>
  obtain rfl:=Qf h;exact Ql.shared Qi (f:=Tryd.f81) (c:=c81) (by kernel_rfl) (by kernel_rfl) (by kernel_rfl) ((f81r2n0_ok a1 a2 a3 a4 ho).mono fun r e=>by subst e; exact ⟨.inl rfl,by kernel_rfl,by kernel_rfl⟩)

inductive f65r2n0O where
 | ret (v9:Bool)
def f65r2n0E(a1:List Qc)(a2 a3:Int)(a4:List (Qd×Int)):f65r2n0O→Ex×Tr×Hp
 | .ret v9=>(.ret,mkS [(4,(jB v9))],[jR 3 Qc.cells a1,some (.box 94 [(.bp 2 0)]),some (.box 100 [(.mp 3),(jI a2),(jI a3)]),some (.map (a4.map (mkv (pAgg Qd.cells) (pInt .i64))))])
def f65r2n0S(a1:List Qc)(a2 a3:Int)(a4:List (Qd×Int)):Tr×Hp:=(Qal [(.own 0),(.clo 82 [(.bp 1 0)])] 0 .leaf,[jR 3 Qc.cells a1,some (.box 94 [(.bp 2 0)]),some (.box 100 [(.mp 3),(jI a2),(jI a3)]),some (.map (a4.map (mkv (pAgg Qd.cells) (pInt .i64))))])
noncomputable def f65r2n0(a1:List Qc)(a2 a3:Int)(a4:List (Qd×Int)):Option f65r2n0O :=
 (f81r2 a1 a2 a3 a4).bind fun x7 =>
 some (.ret (decide (0≤x7)))
theorem f65r2n0_ok(a1:List Qc)(a2 a3:Int)(a4:List (Qd×Int)){o:f65r2n0O}(h:f65r2n0 a1 a2 a3 a4=some o):T Tryd.prog Tryd.f65.ntmps 4 c65 (f65r2n0S a1 a2 a3 a4) (·=f65r2n0E a1 a2 a3 a4 o):=by
 unfold f65r2n0 at h;obtain ⟨x7,h8,h⟩:=Qe h;obtain rfl:=Qf h;exact rE Qi [j3,([],[(2,.call (jI x7) [jR 3 Qc.cells a1,some (.box 94 [(.bp 2 0)]),some (.box 100 [(.mp 3),(jI a2),(jI a3)]),some (.map (a4.map (mkv (pAgg Qd.cells) (pInt .i64))))])],[])] [] [] [] [4] (.ret,(f65r2n0E a1 a2 a3 a4 (.ret (decide (0≤x7)))).2) (ap (f81r2_ok a1 a2 a3 a4 h8) an) rfl
noncomputable def f65r2(a1:List Qc)(a2 a3:Int)(a4:List (Qd×Int)):Option Bool:=(f65r2n0 a1 a2 a3 a4).bind fun o=>match o with
 | .ret v9=>some v9
theorem f65r2_ok(a1:List Qc)(a2 a3:Int)(a4:List (Qd×Int)){r:Bool}(h:f65r2 a1 a2 a3 a4=some r):Ql Tryd.prog true 65 [(.own 0),(.clo 82 [(.bp 1 0)])] [jR 3 Qc.cells a1,some (.box 94 [(.bp 2 0)]),some (.box 100 [(.mp 3),(jI a2),(jI a3)]),some (.map (a4.map (mkv (pAgg Qd.cells) (pInt .i64))))] (jB r) [jR 3 Qc.cells a1,some (.box 94 [(.bp 2 0)]),some (.box 100 [(.mp 3),(jI a2),(jI a3)]),some (.map (a4.map (mkv (pAgg Qd.cells) (pInt .i64))))]:=by
 unfold f65r2 at h;obtain ⟨o,ho,h⟩:=Qe h;cases o with
 | ret v9 =>
  obtain rfl:=Qf h;exact Ql.shared Qi (f:=Tryd.f65) (c:=c65) (by kernel_rfl) (by kernel_rfl) (by kernel_rfl) ((f65r2n0_ok a1 a2 a3 a4 ho).mono fun r e=>by subst e; exact ⟨.inl rfl,by kernel_rfl,by kernel_rfl⟩)

inductive f66r2n0O where
 | ret (v10:Bool)
def f66r2n0E(a1:Int)(a2:ByteArray)(a3:Int)(a4:List Qc)(a5:List (Qd×Int)):f66r2n0O→Ex×Tr×Hp
 | .ret v10=>(.ret,mkS [(4,(jB v10))],[some (.box 100 [(.mp 2),(jI a1),(jI a3)]),jR 3 Qc.cells a4,some (.map (a5.map (mkv (pAgg Qd.cells) (pInt .i64))))])
def f66r2n0S(a1:Int)(a2:ByteArray)(a3:Int)(a4:List Qc)(a5:List (Qd×Int)):Tr×Hp:=(Qal [(.bp 0 0),(.agg [(jI a1),(jS a2),(.own 1)])] 0 .leaf,[some (.box 100 [(.mp 2),(jI a1),(jI a3)]),jR 3 Qc.cells a4,some (.map (a5.map (mkv (pAgg Qd.cells) (pInt .i64))))])
noncomputable def f66r2n0(a1:Int)(a2:ByteArray)(a3:Int)(a4:List Qc)(a5:List (Qd×Int)):Option f66r2n0O :=
 (f65r2 a4 a1 a3 a5).bind fun x8 =>
 some (.ret (!x8))
theorem f66r2n0_ok(a1:Int)(a2:ByteArray)(a3:Int)(a4:List Qc)(a5:List (Qd×Int)){o:f66r2n0O}(h:f66r2n0 a1 a2 a3 a4 a5=some o):T Tryd.prog Tryd.f66.ntmps 3 c66 (f66r2n0S a1 a2 a3 a4 a5) (·=f66r2n0E a1 a2 a3 a4 a5 o):=by
 unfold f66r2n0 at h;obtain ⟨x8,h9,h⟩:=Qe h;obtain rfl:=Qf h;exact rE Qi [j3,([],[(3,.call (jB x8) [some (.box 100 [(.mp 2),(jI a1),(jI a3)]),jR 3 Qc.cells a4,some (.map (a5.map (mkv (pAgg Qd.cells) (pInt .i64)))),some (.box 94 [(.bp 0 0)]),none])],[])] [] [] [] [4] (.ret,(f66r2n0E a1 a2 a3 a4 a5 (.ret (!x8))).2) (ap (Ql.rn 5 [1,3,0,2] (f65r2_ok a4 a1 a3 a5 h9)) an) rfl
noncomputable def f66r2(a1:Int)(a2:ByteArray)(a3:Int)(a4:List Qc)(a5:List (Qd×Int)):Option Bool:=(f66r2n0 a1 a2 a3 a4 a5).bind fun o=>match o with
 | .ret v10=>some v10
theorem f66r2_ok(a1:Int)(a2:ByteArray)(a3:Int)(a4:List Qc)(a5:List (Qd×Int)){r:Bool}(h:f66r2 a1 a2 a3 a4 a5=some r):Ql Tryd.prog true 66 [(.bp 0 0),(.agg [(jI a1),(jS a2),(.own 1)])] [some (.box 100 [(.mp 2),(jI a1),(jI a3)]),jR 3 Qc.cells a4,some (.map (a5.map (mkv (pAgg Qd.cells) (pInt .i64))))] (jB r) [some (.box 100 [(.mp 2),(jI a1),(jI a3)]),jR 3 Qc.cells a4,some (.map (a5.map (mkv (pAgg Qd.cells) (pInt .i64))))]:=by
 unfold f66r2 at h;obtain ⟨o,ho,h⟩:=Qe h;cases o with
 | ret v10 =>
  obtain rfl:=Qf h;exact Ql.shared Qi (f:=Tryd.f66) (c:=c66) (by kernel_rfl) (by kernel_rfl) (by kernel_rfl) ((f66r2n0_ok a1 a2 a3 a4 a5 ho).mono fun r e=>by subst e; exact ⟨.inl rfl,by kernel_rfl,by kernel_rfl⟩)

inductive f48r3n2O where
 | exit0 (v45:List (Qd×Int))
def f48r3n2E(bc3:List Qc)(bf1 bf2 bf5:Int)(bd6:ByteArray):f48r3n2O→Ex×Tr×Hp
 | .exit0 v45=>((.exit 0),mkS [(0,(.bp 0 0)),(3,(.bp 3 0))],[some (.box 100 [(.mp 2),(jI bf1),(jI bf2)]),jR 3 Qc.cells bc3,some (.map (v45.map (mkv (pAgg Qd.cells) (pInt .i64)))),some (.box 46 [(jI bf5),(jS bd6),(.own 1)])])
def f48r3n2S(bc3:List Qc)(bf1 bf2 bf5:Int)(bd6:ByteArray)(v37:Int)(v38:List (Qd×Int)):Tr×Hp:=(mkS [(0,(.bp 0 0)),(3,(.bp 3 0)),(32,(.own 1)),(33,(jI (bc3.length:Int))),(34,(jI v37))],[some (.box 100 [(.mp 2),(jI bf1),(jI bf2)]),jR 3 Qc.cells bc3,some (.map (v38.map (mkv (pAgg Qd.cells) (pInt .i64)))),some (.box 46 [(jI bf5),(jS bd6),(.own 1)])])
noncomputable def f48r3n2:Nat→List Qc→Int→Int→Int→ByteArray→Int→List (Qd×Int)→Option f48r3n2O
 | 0,_,_,_,_,_,_,_=>none
 | f+1,bc3,bf1,bf2,bf5,bd6,v37,v38 =>
  bif decide (v37<(bc3.length:Int)) then
   (at? bc3 v37).bind fun x43 =>
   (f48r3n2 f bc3 bf1 bf2 bf5 bd6 (wr64 (v37+1)) (mPut Qd.eqb (Qd.mk x43.Account x43.Ccy) (wr64 ((mGet Qd.eqb 0 (Qd.mk x43.Account x43.Ccy) v38)+x43.Amount)) v38))
  else
   some (.exit0 v38)
theorem f48r3n2_ok:∀(f:Nat)(bc3:List Qc)(bf1 bf2 bf5:Int)(bd6:ByteArray)(v37:Int)(v38:List (Qd×Int)){o:f48r3n2O},f48r3n2 f bc3 bf1 bf2 bf5 bd6 v37 v38=some o→TL Tryd.prog Tryd.f48.ntmps 3 f (cL (cL (Qt 1 (cL (Qt 0 (Qt 2 c48)))))) (f48r3n2S bc3 bf1 bf2 bf5 bd6 v37 v38) (·=f48r3n2E bc3 bf1 bf2 bf5 bd6 o)
 | 0,_,_,_,_,_,_,_,o,h=>by rw [f48r3n2] at h; cases h
 | f+1,bc3,bf1,bf2,bf5,bd6,v37,v38,o,h=>by
  rw [f48r3n2] at h;refine TL.body (K:=fun s=>∃v37:Int,∃v38:List (Qd×Int),s=(f48r3n2S bc3 bf1 bf2 bf5 bd6 v37 v38)∧f48r3n2 f bc3 bf1 bf2 bf5 bd6 v37 v38=some o) ?_ (by rintro _ ⟨v37,v38,rfl,hk⟩; exact f48r3n2_ok f _ _ _ _ _ _ _ hk);rcases Qg h with ⟨h40,h⟩|⟨h40,h⟩
  ·obtain ⟨x43,h44,h⟩:=Qe h
   exact rE Qi [j3,([],[(0,.at_ (Int.toNat v37)),(1,.idx 0 (Qc.cells x43))],[]),([],[(9,.look ((pInt .i64) (mGet Qd.eqb 0 (Qd.mk x43.Account x43.Ccy) v38)) (mHas Qd.eqb (Qd.mk x43.Account x43.Ccy) v38)),(13,.ment ((pInt .i64) (mGet Qd.eqb 0 (Qd.mk x43.Account x43.Ccy) v38)) (mIdx Qd.eqb (Qd.mk x43.Account x43.Ccy) v38) ((mEns Qd.eqb 0 (Qd.mk x43.Account x43.Ccy) v38).map (mkv (pAgg Qd.cells) (pInt .i64)))),(15,.mst (mIdx Qd.eqb (Qd.mk x43.Account x43.Ccy) v38) ((pAgg Qd.cells) (Qd.mk x43.Account x43.Ccy)) ((pInt .i64) (mGet Qd.eqb 0 (Qd.mk x43.Account x43.Ccy) v38)))],[(15,.map 2 ((mPut Qd.eqb (Qd.mk x43.Account x43.Ccy) (wr64 ((mGet Qd.eqb 0 (Qd.mk x43.Account x43.Ccy) v38)+x43.Amount)) v38).map (mkv (pAgg Qd.cells) (pInt .i64))))]),j3] [some true] [] [3] [0,3,32,33,34] (.norm,(f48r3n2S bc3 bf1 bf2 bf5 bd6 (wr64 (v37+1)) (mPut Qd.eqb (Qd.mk x43.Account x43.Ccy) (wr64 ((mGet Qd.eqb 0 (Qd.mk x43.Account x43.Ccy) v38)+x43.Amount)) v38))) (ap h40 (ap (Qm h44).1 (ap (lt_map Qc.cells (Qm h44).2) (ap (Qag Qc.cells (Qm h44).2) (ap (look_map (vp:=(pInt .i64)) (e:=3) key_107 0 (by kernel_rfl) (Qd.mk x43.Account x43.Ccy) v38) (ap (ment_map (vp:=(pInt .i64)) (e:=3) key_107 0 (by kernel_rfl) (Qd.mk x43.Account x43.Ccy) v38) (ap (rfl:((mIdx Qd.eqb (Qd.mk x43.Account x43.Ccy) v38):Int)=(((mIdx Qd.eqb (Qd.mk x43.Account x43.Ccy) v38):Nat):Int)) (ap (mst_at (vp:=(pInt .i64)) key_107 0 (Qd.mk x43.Account x43.Ccy) v38) (ap (mst_put (vp:=(pInt .i64)) key_107 0 (wr64 ((mGet Qd.eqb 0 (Qd.mk x43.Account x43.Ccy) v38)+x43.Amount)) (Qd.mk x43.Account x43.Ccy) v38) an))))))))) (Qad.norm ⟨(wr64 (v37+1)),(mPut Qd.eqb (Qd.mk x43.Account x43.Ccy) (wr64 ((mGet Qd.eqb 0 (Qd.mk x43.Account x43.Ccy) v38)+x43.Amount)) v38),rfl,h⟩)
  ·obtain rfl:=Qf h;exact rK Qi 2 [j3] [some false] [] [3] [0,3] (.exit 0) ((f48r3n2E bc3 bf1 bf2 bf5 bd6 (.exit0 v38)).2) (ap h40 an) (Qad.out rfl rfl)
inductive f48r3n1O where
 | norm (v49:List (Qd×Int))
def f48r3n1E(bf1 bf2:Int)(bc3:List Qc)(bh4:List (Qd×Int))(bf5:Int)(bd6:ByteArray):f48r3n1O→Ex×Tr×Hp
 | .norm v49=>(.norm,mkS [(0,(.bp 0 0)),(3,(.bp 3 0))],[some (.box 100 [(.mp 2),(jI bf1),(jI bf2)]),jR 3 Qc.cells bc3,some (.map (v49.map (mkv (pAgg Qd.cells) (pInt .i64)))),some (.box 46 [(jI bf5),(jS bd6),(.own 1)])])
def f48r3n1S(bf1 bf2:Int)(bc3:List Qc)(bh4:List (Qd×Int))(bf5:Int)(bd6:ByteArray):Tr×Hp:=(mkS [(0,(.bp 0 0)),(3,(.bp 3 0))],[some (.box 100 [(.mp 2),(jI bf1),(jI bf2)]),jR 3 Qc.cells bc3,some (.map (bh4.map (mkv (pAgg Qd.cells) (pInt .i64)))),some (.box 46 [(jI bf5),(jS bd6),(.own 1)])])
noncomputable def f48r3n1(bf1 bf2:Int)(bc3:List Qc)(bh4:List (Qd×Int))(bf5:Int)(bd6:ByteArray):Option f48r3n1O :=
 (f48r3n2 FUEL bc3 bf1 bf2 bf5 bd6 0 bh4).bind fun o46=>match o46 with
 | .exit0 v48=>some (.norm v48)
theorem f48r3n1_ok(bf1 bf2:Int)(bc3:List Qc)(bh4:List (Qd×Int))(bf5:Int)(bd6:ByteArray){o:f48r3n1O}(h:f48r3n1 bf1 bf2 bc3 bh4 bf5 bd6=some o):T Tryd.prog Tryd.f48.ntmps 3 (cL (Qt 0 (Qt 2 c48))) (f48r3n1S bf1 bf2 bc3 bh4 bf5 bd6) (·=f48r3n1E bf1 bf2 bc3 bh4 bf5 bd6 o):=by
 unfold f48r3n1 at h;refine rN Qi 1 [([],[],[(2,.val (jI (bc3.length:Int)))])] [] [] [3] [0,3,32,33,34] (f48r3n2S bc3 bf1 bf2 bf5 bd6 0 bh4) (ap (Qan (xs:=bc3) (c:=Qc.cells)) an) ?_;obtain ⟨o46,h47,h⟩:=Qe h;cases o46 with
 | exit0 v48 =>
  obtain rfl:=Qf h;exact T.last' (T.bl (i:=0) (by kernel_rfl) (by kernel_rfl) (f48r3n2_ok FUEL bc3 bf1 bf2 bf5 bd6 0 bh4 h47)) (tds:=[]) (m:=[3]) (keep:=[0,3]) (st2:=(f48r3n1E bf1 bf2 bc3 bh4 bf5 bd6 (.norm v48)).2) (by kernel_rfl) an rfl
inductive f48r3n0O where
 | ret (v57:Bool) (v58:Int) (v59:Int) (v60:List (Qd×Int))
def f48r3n0E(a1:Int)(a2:ByteArray)(a3 a4:Int)(a5:List Qc)(a6:List (Qd×Int)):f48r3n0O→Ex×Tr×Hp
 | .ret v57 v58 v59 v60=>(.ret,mkS [(4,(jB v57))],[some (.box 100 [(.mp 2),(jI v58),(jI v59)]),jR 3 Qc.cells a5,some (.map (v60.map (mkv (pAgg Qd.cells) (pInt .i64))))])
def f48r3n0S(a1:Int)(a2:ByteArray)(a3 a4:Int)(a5:List Qc)(a6:List (Qd×Int)):Tr×Hp:=(Qal [(.bp 0 0),(.agg [(jI a1),(jS a2),(.own 1)])] 0 .leaf,[some (.box 100 [(.mp 2),(jI a3),(jI a4)]),jR 3 Qc.cells a5,some (.map (a6.map (mkv (pAgg Qd.cells) (pInt .i64))))])
noncomputable def f48r3n0(a1:Int)(a2:ByteArray)(a3 a4:Int)(a5:List Qc)(a6:List (Qd×Int)):Option f48r3n0O :=
 bif decide (a4=200) then
  some (.ret false a3 a4 a6)
 else
  (f46 (Qb.mk a1 a2 a5)).bind fun x16 =>
  bif x16 then
   (f47 (Qb.mk a1 a2 a5)).bind fun x19 =>
   bif x19 then
    bif decide (a1<a3) then
     some (.ret false a3 a4 a6)
    else
     (f48r3n1 a3 a4 a5 a6 a1 a2).bind fun o50=>match o50 with
     | .norm v52=>(f66r2 a1 a2 (wr64 (a4+1)) a5 v52).bind fun x55 =>
      some (.ret x55 a1 (wr64 (a4+1)) v52)
   else
    some (.ret false a3 a4 a6)
  else
   some (.ret false a3 a4 a6)
theorem f48r3n0_ok(a1:Int)(a2:ByteArray)(a3 a4:Int)(a5:List Qc)(a6:List (Qd×Int)){o:f48r3n0O}(h:f48r3n0 a1 a2 a3 a4 a5 a6=some o):T Tryd.prog Tryd.f48.ntmps 3 c48 (f48r3n0S a1 a2 a3 a4 a5 a6) (·=f48r3n0E a1 a2 a3 a4 a5 a6 o):=by
 unfold f48r3n0 at h;rcases Qg h with ⟨h15,h⟩|⟨h15,h⟩
 ·obtain rfl:=Qf h;exact rK Qi 2 [j3,(jT [6,7,8],[(9,.bool true)],[]),j3] [none] [] [] [4] .ret ((f48r3n0E a1 a2 a3 a4 a5 a6 (.ret false a3 a4 a6)).2) (ap4 h15 an) rfl
 ·obtain ⟨x16,h17,h⟩:=Qe h;rcases Qg h with ⟨h18,h⟩|⟨h18,h⟩
  ·obtain ⟨x19,h20,h⟩:=Qe h;rcases Qg h with ⟨h21,h⟩|⟨h21,h⟩
   ·rcases Qg h with ⟨h22,h⟩|⟨h22,h⟩
    ·obtain rfl:=Qf h;exact rK Qi 2 [j3,(jF [6,7,8,11,12,13,16,17,18,19,20,21,22],[jH 7 (jB x16),(9,.bool false),jH 12 (jB x19),(14,.bool false),(23,.bool false)],[]),j3] [some true] [] [] [4] .ret ((f48r3n0E a1 a2 a3 a4 a5 a6 (.ret false a3 a4 a6)).2) (ap4 h15 (ap4 (Qq h18) (ap4 (Qq h21) (ap4 (Qq h21) (ap (f46_ok (Qb.mk a1 a2 a5) h17) (ap (f47_ok (Qb.mk a1 a2 a5) h20) (ap h22 an))))))) rfl
    ·refine rN Qi 2 [j3,(jF [6,7,8,11,12,13,16,17,18,19,20,21,22],[jH 7 (jB x16),(9,.bool false),jH 12 (jB x19),(14,.bool false),(23,.bool false)],[])] [some false] [] [3] [0,3] (mkS [(0,(.bp 0 0)),(3,(.bp 3 0))],[some (.box 100 [(.mp 2),(jI a3),(jI a4)]),jR 3 Qc.cells a5,some (.map (a6.map (mkv (pAgg Qd.cells) (pInt .i64)))),some (.box 46 [(jI a1),(jS a2),(.own 1)])]) (ap4 h15 (ap4 (Qq h18) (ap4 (Qq h21) (ap4 (Qq h21) (ap (f46_ok (Qb.mk a1 a2 a5) h17) (ap (f47_ok (Qb.mk a1 a2 a5) h20) (ap h22 an))))))) ?_;refine rN Qi 0 [] [] [] [3] [0,3] (f48r3n1S a3 a4 a5 a6 a1 a2) an ?_;obtain ⟨o50,h51,h⟩:=Qe h;cases o50 with
     | norm v52 =>
      refine T.oneN (by kernel_rfl) (f48r3n1_ok a3 a4 a5 a6 a1 a2 h51) (st2:=(f48r3n1E a3 a4 a5 a6 a1 a2 (.norm v52)).2) rfl ?_;obtain ⟨x55,h56,h⟩:=Qe h;obtain rfl:=Qf h;exact rE Qi [j3,([],[(2,.call (jB x55) [some (.box 100 [(.mp 2),(jI a1),(jI (wr64 (a4+1)))]),jR 3 Qc.cells a5,some (.map (v52.map (mkv (pAgg Qd.cells) (pInt .i64)))),none,none])],[])] [] [] [] [4] (.ret,(f48r3n0E a1 a2 a3 a4 a5 a6 (.ret x55 a1 (wr64 (a4+1)) v52)).2) (ap (Ql.rn 5 [0,1,2] (f66r2_ok a1 a2 (wr64 (a4+1)) a5 v52 h56)) an) rfl
   ·obtain rfl:=Qf h;exact rK Qi 2 [j3,(jF [6,7,8,11,12,13]++jT [16,17,18,19,20,21,22],[jH 7 (jB x16),(9,.bool false),jH 12 (jB x19),(14,.bool false),(23,.bool true)],[]),j3] [none] [] [] [4] .ret ((f48r3n0E a1 a2 a3 a4 a5 a6 (.ret false a3 a4 a6)).2) (ap4 h15 (ap4 (Qq h18) (ap4 (Qaf h21) (ap4 (Qaf h21) (ap (f46_ok (Qb.mk a1 a2 a5) h17) (ap (f47_ok (Qb.mk a1 a2 a5) h20) an)))))) rfl
  ·obtain rfl:=Qf h;exact rK Qi 2 [j3,(jF [6,7,8]++jT [11,12,13],[jH 7 (jB x16),(9,.bool false),(14,.bool true)],[]),j3] [none] [] [] [4] .ret ((f48r3n0E a1 a2 a3 a4 a5 a6 (.ret false a3 a4 a6)).2) (ap4 h15 (ap4 (Qaf h18) (ap (f46_ok (Qb.mk a1 a2 a5) h17) an))) rfl
noncomputable def f48r3(a1:Int)(a2:ByteArray)(a3 a4:Int)(a5:List Qc)(a6:List (Qd×Int)):Option (Bool×Int×Int×(List (Qd×Int))):=(f48r3n0 a1 a2 a3 a4 a5 a6).bind fun o=>match o with
 | .ret v57 v58 v59 v60=>some (v57,v58,v59,v60)
theorem f48r3_ok(a1:Int)(a2:ByteArray)(a3 a4:Int)(a5:List Qc)(a6:List (Qd×Int)) {r:Bool×Int×Int×(List (Qd×Int))} (h:f48r3 a1 a2 a3 a4 a5 a6=some r):Ql Tryd.prog true 48 [(.bp 0 0),(.agg [(jI a1),(jS a2),(.own 1)])] [some (.box 100 [(.mp 2),(jI a3),(jI a4)]),jR 3 Qc.cells a5,some (.map (a6.map (mkv (pAgg Qd.cells) (pInt .i64))))] (jB r.1) [some (.box 100 [(.mp 2),(jI r.2.1),(jI r.2.2.1)]),jR 3 Qc.cells a5,some (.map (r.2.2.2.map (mkv (pAgg Qd.cells) (pInt .i64))))]:=by
 unfold f48r3 at h;obtain ⟨o,ho,h⟩:=Qe h;cases o with
 | ret v57 v58 v59 v60 =>
  obtain rfl:=Qf h;exact Ql.shared Qi (f:=Tryd.f48) (c:=c48) (by kernel_rfl) (by kernel_rfl) (by kernel_rfl) ((f48r3n0_ok a1 a2 a3 a4 a5 a6 ho).mono fun r e=>by subst e; exact ⟨.inl rfl,by kernel_rfl,by kernel_rfl⟩)

noncomputable def c49:Code:=Tryd.f49.body.getD .skip
inductive f49r1n2O where
 | exit0 (v40:List Qb)
def f49r1n2E(bj1:List Qb):f49r1n2O→Ex×Tr×Hp
 | .exit0 v40=>((.exit 0),mkS [(3,(.own 0))],[jR 3 Qb.cells v40])
def f49r1n2S(bj1:List Qb)(v26:Int)(v27:List Qb):Tr×Hp:=(mkS [(3,(.own 0)),(6,(jL 3 Qb.cells bj1)),(7,(jI (bj1.length:Int))),(8,(jI v26))],[jR 3 Qb.cells v27])
noncomputable def f49r1n2:Nat→List Qb→Int→List Qb→Option f49r1n2O
 | 0,_,_,_=>none
 | f+1,bj1,v26,v27 =>
  bif decide (v26<(bj1.length:Int)) then
   (at? bj1 v26).bind fun x35 =>
   (f44r1 x35.Lines).bind fun x37 =>
   req (fit (v27.length+1) 48) <|
   (f49r1n2 f bj1 (wr64 (v26+1)) (v27++[(Qb.mk x35.Day x35.Text x37)]))
  else
   some (.exit0 v27)
theorem f49r1n2_ok:∀(f:Nat)(bj1:List Qb)(v26:Int)(v27:List Qb){o:f49r1n2O},f49r1n2 f bj1 v26 v27=some o→TL Tryd.prog Tryd.f49.ntmps 0 f (cL (cL (Qt 1 (cL (Qt 2 c49))))) (f49r1n2S bj1 v26 v27) (·=f49r1n2E bj1 o)
 | 0,_,_,_,o,h=>by rw [f49r1n2] at h; cases h
 | f+1,bj1,v26,v27,o,h=>by
  rw [f49r1n2] at h;refine TL.body (K:=fun s=>∃v26:Int,∃v27:List Qb,s=(f49r1n2S bj1 v26 v27)∧f49r1n2 f bj1 v26 v27=some o) ?_ (by rintro _ ⟨v26,v27,rfl,hk⟩; exact f49r1n2_ok f _ _ _ hk);rcases Qg h with ⟨h29,h⟩|⟨h29,h⟩
  ·obtain ⟨x35,h36,h⟩:=Qe h;obtain ⟨x37,h38,h⟩:=Qe h;obtain ⟨h39,h⟩:=Qam h;exact rE Qi [j3,([],[(0,.idx (Int.toNat v26) (Qb.cells x35))],[]),([],[(2,.call (.own 2) [none,none,jR 3 Qc.cells x37])],[]),([],[(3,.fits)],[(3,.row 4 ((v27++[(Qb.mk x35.Day x35.Text x37)]).map Qb.cells))]),j3] [some true] [] [4] [3,6,7,8] (.norm,(f49r1n2S bj1 (wr64 (v26+1)) (v27++[(Qb.mk x35.Day x35.Text x37)]))) (ap h29 (ap (Qm h36).1 (ap (Qag Qb.cells (Qm h36).2) (ap (Ql.rn 2 [] (f44r1_ok x35.Lines h38)) (ap (fit_map (te:=ti46) (xs:=v27) (n:=1) (c:=Qb.cells) h39 rfl) (ap (app_cv (xs:=v27) (ys:=[(Qb.mk x35.Day x35.Text x37)]) (c:=Qb.cells)) an)))))) (Qad.norm ⟨(wr64 (v26+1)),(v27++[(Qb.mk x35.Day x35.Text x37)]),rfl,h⟩)
  ·obtain rfl:=Qf h;exact rK Qi 2 [j3] [some false] [] [0] [3] (.exit 0) ((f49r1n2E bj1 (.exit0 v27)).2) (ap h29 an) (Qad.out rfl rfl)
inductive f49r1n1O where
 | norm (v44:List Qb)
def f49r1n1E(bj1:List Qb):f49r1n1O→Ex×Tr×Hp
 | .norm v44=>(.norm,mkS [(3,(.own 0))],[jR 3 Qb.cells v44])
def f49r1n1S(bj1:List Qb):Tr×Hp:=(mkS [(0,(jL 3 Qb.cells bj1)),(3,(.pl (.sl .nil 0 [])))],[])
noncomputable def f49r1n1(bj1:List Qb):Option f49r1n1O :=
 (f49r1n2 FUEL bj1 0 []).bind fun o41=>match o41 with
 | .exit0 v43=>some (.norm v43)
theorem f49r1n1_ok(bj1:List Qb){o:f49r1n1O}(h:f49r1n1 bj1=some o):T Tryd.prog Tryd.f49.ntmps 0 (cL (Qt 2 c49)) (f49r1n1S bj1) (·=f49r1n1E bj1 o):=by
 unfold f49r1n1 at h;refine rN Qi 1 [([],[],[(1,.val (jI (bj1.length:Int)))])] [] [.mat 3 3] [0] [3,6,7,8] (f49r1n2S bj1 0 []) (ap (Qan (xs:=bj1) (c:=Qb.cells)) an) ?_;obtain ⟨o41,h42,h⟩:=Qe h;cases o41 with
 | exit0 v43 =>
  obtain rfl:=Qf h;exact T.last' (T.bl (i:=0) (by kernel_rfl) (by kernel_rfl) (f49r1n2_ok FUEL bj1 0 [] h42)) (tds:=[]) (m:=[0]) (keep:=[3]) (st2:=(f49r1n1E bj1 (.norm v43)).2) (by kernel_rfl) an rfl
inductive f49r1n0O where
 | ret (v48:List Qb)
def f49r1n0E(a1:List Qb):f49r1n0O→Ex×Tr×Hp
 | .ret v48=>(.ret,mkS [(2,(.own 0))],[jR 3 Qb.cells v48])
def f49r1n0S(a1:List Qb):Tr×Hp:=(Qal [(jL 3 Qb.cells a1)] 0 .leaf,[])
noncomputable def f49r1n0(a1:List Qb):Option f49r1n0O :=
 (f49r1n1 a1).bind fun o45=>match o45 with
 | .norm v47=>some (.ret v47)
theorem f49r1n0_ok(a1:List Qb){o:f49r1n0O}(h:f49r1n0 a1=some o):T Tryd.prog Tryd.f49.ntmps 0 c49 (f49r1n0S a1) (·=f49r1n0E a1 o):=by
 unfold f49r1n0 at h;refine rN Qi 2 [j3,j3] [] [] [] [0,3] (f49r1n1S a1) an ?_;obtain ⟨o45,h46,h⟩:=Qe h;cases o45 with
 | norm v47 =>
  refine T.oneN (by kernel_rfl) (f49r1n1_ok a1 h46) (st2:=(f49r1n1E a1 (.norm v47)).2) rfl ?_;obtain rfl:=Qf h;exact rE Qi [j3] [] [] [0] [2] (.ret,(f49r1n0E a1 (.ret v47)).2) an rfl
noncomputable def f49r1(a1:List Qb):Option (List Qb):=(f49r1n0 a1).bind fun o=>match o with
 | .ret v48=>some v48
theorem f49r1_ok(a1:List Qb){r:List Qb}(h:f49r1 a1=some r):Ql Tryd.prog true 49 [(jL 3 Qb.cells a1)] [] (.own 0) [jR 3 Qb.cells r]:=by
 unfold f49r1 at h;obtain ⟨o,ho,h⟩:=Qe h;cases o with
 | ret v48 =>
  obtain rfl:=Qf h;exact Ql.shared Qi (f:=Tryd.f49) (c:=c49) (by kernel_rfl) (by kernel_rfl) (by kernel_rfl) ((f49r1n0_ok a1 ho).mono fun r e=>by subst e; exact ⟨.inl rfl,by kernel_rfl,by kernel_rfl⟩)

noncomputable def c20:Code:=Tryd.f20.body.getD .skip
inductive f20n2O where
 | norm (v60:Int)
def f20n2E(bf1:Int) (bi2:Bool×Int×Int×(List (Qd×Int))) (ba3:Qj) (bd4:ByteArray) (bc5:List Qc):f20n2O→Ex×Tr×Hp
 | .norm v60=>(.norm,mkS [(4,(.bp 0 0)),(8,(.bp 1 0)),(10,(.bp 2 0)),(13,(jI v60))],[some (.box 43 ((Qj.cells ba3).map .pl)),some (.box 43 [(.pl (.sl .nil 0 []))]),some (.box 46 [(jI bf1),(jS bd4),(.own 3)]),jR 3 Qc.cells bc5])
def f20n2S(bf1:Int) (bi2:Bool×Int×Int×(List (Qd×Int))) (ba3:Qj) (bd4:ByteArray) (bc5:List Qc):Tr×Hp:=(mkS [(1,(jI bf1)),(4,(.bp 0 0)),(8,(.bp 1 0)),(10,(.bp 2 0)),(11,(.bp 3 0)),(13,(jI 0)),(24,(.pl (.bool (!bi2.1))))],[some (.box 43 ((Qj.cells ba3).map .pl)),some (.box 43 [(.pl (.sl .nil 0 []))]),some (.box 46 [(jI bf1),(jS bd4),(.own 4)]),some (.box 100 [(.mp 5),(jI bi2.2.1),(jI bi2.2.2.1)]),jR 3 Qc.cells bc5,some (.map (bi2.2.2.2.map (mkv (pAgg Qd.cells) (pInt .i64))))])
noncomputable def f20n2(bf1:Int) (bi2:Bool×Int×Int×(List (Qd×Int))) (ba3:Qj) (bd4:ByteArray) (bc5:List Qc):Option f20n2O :=
 bif bi2.1 then
  (f46 (Qb.mk bf1 bd4 bc5)).bind fun x40 =>
  bif x40 then
   (f47 (Qb.mk bf1 bd4 bc5)).bind fun x52 =>
   bif x52 then
    bif decide (bf1<bi2.2.1) then
     some (.norm 40)
    else
     bif decide (bi2.2.2.1=200) then
      some (.norm 22)
     else
      (f48r3 bf1 bd4 bi2.2.1 bi2.2.2.1 bc5 bi2.2.2.2).bind fun x57 =>
      bif x57.1 then
       some (.norm 0)
      else
       some (.norm 14)
   else
    some (.norm 60)
  else
   some (.norm 2)
 else
  some (.norm 8)
theorem f20n2_ok(bf1:Int) (bi2:Bool×Int×Int×(List (Qd×Int))) (ba3:Qj) (bd4:ByteArray) (bc5:List Qc) {o:f20n2O} (h:f20n2 bf1 bi2 ba3 bd4 bc5=some o):T Tryd.prog Tryd.f20.ntmps 0 (Qt 1 (cL (cL (Qt 4 c20)))) (f20n2S bf1 bi2 ba3 bd4 bc5) (·=f20n2E bf1 bi2 ba3 bd4 bc5 o):=by
 unfold f20n2 at h;rcases Qg h with ⟨h37,h⟩|⟨h37,h⟩
 ·refine T.condF (o:=.tmp 24) (b:=(!bi2.1)) (by kernel_rfl) (by kernel_rfl) (Qq h37) ?_;obtain ⟨x40,h41,h⟩:=Qe h;rcases Qg h with ⟨h51,h⟩|⟨h51,h⟩
  ·obtain ⟨x52,h53,h⟩:=Qe h;rcases Qg h with ⟨h54,h⟩|⟨h54,h⟩
   ·rcases Qg h with ⟨h55,h⟩|⟨h55,h⟩
    ·obtain rfl:=Qf h;exact rE Qi [([],[jH 1 (jB x40)],[]),([],[jH 1 (jB x52)],[]),j3,j3] [some false,some false,some true] [] [0,1,2,4] [4,8,10,13] (.norm,(f20n2E bf1 bi2 ba3 bd4 bc5 (.norm 40)).2) (ap (f46_ok (Qb.mk bf1 bd4 bc5) h41) (ap (Qq h51) (ap (f47_ok (Qb.mk bf1 bd4 bc5) h53) (ap (Qq h54) (ap h55 an))))) rfl
    ·rcases Qg h with ⟨h56,h⟩|⟨h56,h⟩
     ·obtain rfl:=Qf h;exact rE Qi [([],[jH 1 (jB x40)],[]),([],[jH 1 (jB x52)],[]),j3,j3,j3] [some false,some false,some false,some true] [] [0,1,2,4] [4,8,10,13] (.norm,(f20n2E bf1 bi2 ba3 bd4 bc5 (.norm 22)).2) (ap (f46_ok (Qb.mk bf1 bd4 bc5) h41) (ap (Qq h51) (ap (f47_ok (Qb.mk bf1 bd4 bc5) h53) (ap (Qq h54) (ap h55 (ap h56 an)))))) rfl
     ·obtain ⟨x57,h58,h⟩:=Qe h;rcases Qg h with ⟨h59,h⟩|⟨h59,h⟩
      ·obtain rfl:=Qf h;exact rE Qi [([],[jH 1 (jB x40)],[]),([],[jH 1 (jB x52)],[]),j3,j3,([],[(2,.call (jB x57.1) (jN 3 [some (.box 100 [(.mp 5),(jI x57.2.1),(jI x57.2.2.1)]),jR 3 Qc.cells bc5,some (.map (x57.2.2.2.map (mkv (pAgg Qd.cells) (pInt .i64))))]))],[])] [some false,some false,some false,some false,some false] [] [0,1,2,4] [4,8,10,13] (.norm,(f20n2E bf1 bi2 ba3 bd4 bc5 (.norm 0)).2) (ap (f46_ok (Qb.mk bf1 bd4 bc5) h41) (ap (Qq h51) (ap (f47_ok (Qb.mk bf1 bd4 bc5) h53) (ap (Qq h54) (ap h55 (ap h56 (ap (Ql.rn 6 [3,4,5] (f48r3_ok bf1 bd4 bi2.2.1 bi2.2.2.1 bc5 bi2.2.2.2 h58)) (ap (Qq h59) an)))))))) rfl
      ·obtain rfl:=Qf h;exact rE Qi [([],[jH 1 (jB x40)],[]),([],[jH 1 (jB x52)],[]),j3,j3,([],[(2,.call (jB x57.1) (jN 3 [some (.box 100 [(.mp 5),(jI x57.2.1),(jI x57.2.2.1)]),jR 3 Qc.cells bc5,some (.map (x57.2.2.2.map (mkv (pAgg Qd.cells) (pInt .i64))))]))],[]),j3] [some false,some false,some false,some false,some true] [] [0,1,2,4] [4,8,10,13] (.norm,(f20n2E bf1 bi2 ba3 bd4 bc5 (.norm 14)).2) (ap (f46_ok (Qb.mk bf1 bd4 bc5) h41) (ap (Qq h51) (ap (f47_ok (Qb.mk bf1 bd4 bc5) h53) (ap (Qq h54) (ap h55 (ap h56 (ap (Ql.rn 6 [3,4,5] (f48r3_ok bf1 bd4 bi2.2.1 bi2.2.2.1 bc5 bi2.2.2.2 h58)) (ap (Qaf h59) an)))))))) rfl
   ·obtain rfl:=Qf h;exact rE Qi [([],[jH 1 (jB x40)],[]),([],[jH 1 (jB x52)],[]),j3] [some false,some true] [] [0,1,2,4] [4,8,10,13] (.norm,(f20n2E bf1 bi2 ba3 bd4 bc5 (.norm 60)).2) (ap (f46_ok (Qb.mk bf1 bd4 bc5) h41) (ap (Qq h51) (ap (f47_ok (Qb.mk bf1 bd4 bc5) h53) (ap (Qaf h54) an)))) rfl
  ·obtain rfl:=Qf h;exact rE Qi [([],[jH 1 (jB x40)],[]),j3] [some true] [] [0,1,2,4] [4,8,10,13] (.norm,(f20n2E bf1 bi2 ba3 bd4 bc5 (.norm 2)).2) (ap (f46_ok (Qb.mk bf1 bd4 bc5) h41) (ap (Qaf h51) an)) rfl
 ·refine T.condT (o:=.tmp 24) (b:=(!bi2.1)) (by kernel_rfl) (by kernel_rfl) (Qaf h37) ?_;obtain rfl:=Qf h;exact rE Qi [j3] [] [] [0,1,2,4] [4,8,10,13] (.norm,(f20n2E bf1 bi2 ba3 bd4 bc5 (.norm 8)).2) an rfl
inductive f20n1O where
 | norm (v64:Int)
def f20n1E(bf1:Int) (bi2:Bool×Int×Int×(List (Qd×Int))) (ba3:Qj) (bd4:ByteArray) (bc5:List Qc):f20n1O→Ex×Tr×Hp
 | .norm v64=>(.norm,mkS [(4,(.bp 0 0)),(8,(.bp 1 0)),(10,(.bp 2 0)),(13,(jI v64))],[some (.box 43 ((Qj.cells ba3).map .pl)),some (.box 43 [(.pl (.sl .nil 0 []))]),some (.box 46 [(jI bf1),(jS bd4),(.own 3)]),jR 3 Qc.cells bc5])
def f20n1S(bf1:Int) (bi2:Bool×Int×Int×(List (Qd×Int))) (ba3:Qj) (bd4:ByteArray) (bc5:List Qc):Tr×Hp:=(mkS [(1,(jI bf1)),(4,(.bp 0 0)),(8,(.bp 1 0)),(10,(.bp 2 0)),(11,(.bp 3 0)),(12,(jB bi2.1)),(13,(jI 0))],[some (.box 43 ((Qj.cells ba3).map .pl)),some (.box 43 [(.pl (.sl .nil 0 []))]),some (.box 46 [(jI bf1),(jS bd4),(.own 4)]),some (.box 100 [(.mp 5),(jI bi2.2.1),(jI bi2.2.2.1)]),jR 3 Qc.cells bc5,some (.map (bi2.2.2.2.map (mkv (pAgg Qd.cells) (pInt .i64))))])
noncomputable def f20n1(bf1:Int) (bi2:Bool×Int×Int×(List (Qd×Int))) (ba3:Qj) (bd4:ByteArray) (bc5:List Qc):Option f20n1O :=
 (f20n2 bf1 bi2 ba3 bd4 bc5).bind fun o61=>match o61 with
 | .norm v63=>some (.norm v63)
theorem f20n1_ok(bf1:Int) (bi2:Bool×Int×Int×(List (Qd×Int))) (ba3:Qj) (bd4:ByteArray) (bc5:List Qc) {o:f20n1O} (h:f20n1 bf1 bi2 ba3 bd4 bc5=some o):T Tryd.prog Tryd.f20.ntmps 0 (cL (Qt 4 c20)) (f20n1S bf1 bi2 ba3 bd4 bc5) (·=f20n1E bf1 bi2 ba3 bd4 bc5 o):=by
 unfold f20n1 at h;refine T.block' (i:=0) (by kernel_rfl) ?_;refine rN Qi 1 [j3] [] [] [0,1,2,3,4,5] [1,4,8,10,11,13,24] (f20n2S bf1 bi2 ba3 bd4 bc5) an ?_;obtain ⟨o61,h62,h⟩:=Qe h;cases o61 with
 | norm v63 =>
  obtain rfl:=Qf h;exact T.last' (f20n2_ok bf1 bi2 ba3 bd4 bc5 h62) (tds:=[]) (m:=[0,1,2,3]) (keep:=[4,8,10,13]) (st2:=(f20n1E bf1 bi2 ba3 bd4 bc5 (.norm v63)).2) (by kernel_rfl) an rfl
inductive f20n0O where
 | ret (v76:Int) (v77:List Qb)
def f20n0E(a1:Qj)(a2:Int)(a3:ByteArray)(a4:List Qc):f20n0O→Ex×Tr×Hp
 | .ret v76 v77=>(.ret,mkS [(8,(.bp 0 0)),(9,(jI v76))],[some (.box 43 [(.own 1)]),jR 3 Qb.cells v77])
def f20n0S(a1:Qj)(a2:Int)(a3:ByteArray)(a4:List Qc):Tr×Hp:=(Qal [(jA Qj.cells a1),(jI a2),(jS a3),(jL 3 Qc.cells a4)] 0 .leaf,[])
noncomputable def f20n0(a1:Qj)(a2:Int)(a3:ByteArray)(a4:List Qc):Option f20n0O :=
 (f44r1 a4).bind fun x7 =>
 (f45r1 a1).bind fun x11 =>
 (f20n1 a2 x11 a1 a3 x7).bind fun o65=>match o65 with
 | .norm v67=>bif decide (v67=0) then
   (f49r1 a1.Records).bind fun x73 =>
   req (fit (x73.length+1) 48) <|
   some (.ret 0 (x73++[(Qb.mk a2 a3 x7)]))
  else
   some (.ret v67 [])
theorem f20n0_ok(a1:Qj)(a2:Int)(a3:ByteArray)(a4:List Qc){o:f20n0O}(h:f20n0 a1 a2 a3 a4=some o):T Tryd.prog Tryd.f20.ntmps 0 c20 (f20n0S a1 a2 a3 a4) (·=f20n0E a1 a2 a3 a4 o):=by
 unfold f20n0 at h;obtain ⟨x7,h8,h⟩:=Qe h;obtain ⟨x11,h12,h⟩:=Qe h;refine rN Qi 4 [j3,([],[(3,.call (.own 2) [none,none,jR 3 Qc.cells x7])],[]),([],[(1,.call (.tup [(.bp 4 0),(jB x11.1)]) (jN 4 [some (.box 100 [(.mp 5),(jI x11.2.1),(jI x11.2.2.1)]),some (.map (x11.2.2.2.map (mkv (pAgg Qd.cells) (pInt .i64))))]))],[]),j3] [] [] [0,1,3,4,2,5] [1,4,8,10,11,12,13] (f20n1S a2 x11 a1 a3 x7) (ap (Ql.rn 2 [] (f44r1_ok a4 h8)) (ap (Ql.rn 4 [] (f45r1_ok a1 h12)) an)) ?_;obtain ⟨o65,h66,h⟩:=Qe h;cases o65 with
 | norm v67 =>
  refine T.oneN (by kernel_rfl) (f20n1_ok a2 x11 a1 a3 x7 h66) (st2:=(f20n1E a2 x11 a1 a3 x7 (.norm v67)).2) rfl ?_;rcases Qg h with ⟨h69,h⟩|⟨h69,h⟩
  ·obtain ⟨x73,h74,h⟩:=Qe h;obtain ⟨h75,h⟩:=Qam h;obtain rfl:=Qf h;exact rE Qi [j3,([],[(2,.call (.own 7) (jN 7 [jR 3 Qb.cells x73])),(5,.fits)],[(5,.row 5 ((x73++[(Qb.mk a2 a3 x7)]).map Qb.cells))])] [some false] [] [1,5] [8,9] (.ret,(f20n0E a1 a2 a3 a4 (.ret 0 (x73++[(Qb.mk a2 a3 x7)]))).2) (ap (Qq h69) (ap (fit_map (te:=ti46) (xs:=x73) (n:=1) (c:=Qb.cells) h75 rfl) (ap (app_cv (xs:=x73) (ys:=[(Qb.mk a2 a3 x7)]) (c:=Qb.cells)) (ap (Ql.rn 7 [] (f49r1_ok a1.Records h74)) an)))) rfl
  ·obtain rfl:=Qf h;exact rK Qi 1 [j3,j3] [some true] [.matC 1 0 3] [1,4] [8,9] .ret ((f20n0E a1 a2 a3 a4 (.ret v67 [])).2) (ap (Qaf h69) an) rfl
noncomputable def f20(a1:Qj)(a2:Int)(a3:ByteArray)(a4:List Qc):Option (Qj×Int):=(f20n0 a1 a2 a3 a4).bind fun o=>match o with
 | .ret v76 v77=>some ((Qj.mk v77),v76)
theorem f20_ok(a1:Qj)(a2:Int)(a3:ByteArray)(a4:List Qc){r:Qj×Int}(h:f20 a1 a2 a3 a4=some r):Ql Tryd.prog false 20 [(jA Qj.cells a1),(jI a2),(jS a3),(jL 3 Qc.cells a4)] [] (.tup [(jA Qj.cells r.1),(jI r.2)]) []:=by
 unfold f20 at h;obtain ⟨o,ho,h⟩:=Qe h;cases o with
 | ret v76 v77 =>
  obtain rfl:=Qf h;exact Ql.plain Qi (f:=Tryd.f20) (c:=c20) (by kernel_rfl) (by kernel_rfl) (by kernel_rfl) (by kernel_rfl) ((f20n0_ok a1 a2 a3 a4 ho).mono fun r e=>by subst e; exact ⟨.inl rfl,(.tup [(.agg [(.own 1)]),(jI v76)]),(.tup [(.pl (.agg (Qj.cells (Qj.mk v77)))),(jI v76)]),by kernel_rfl,by kernel_rfl,((Wk.refl _):Wk (.tup [(.pl (.agg (Qj.cells (Qj.mk v77)))),(jI v76)]) (.tup [(.pl (.agg (Qj.cells (Qj.mk v77)))),(jI v76)]))⟩)

noncomputable def c26:Code:=Tryd.f26.body.getD .skip
inductive f26n0O where
 | ret (v35:Bool) (v36:Qj)
def f26n0E:f26n0O→Ex×Tr×Hp
 | .ret v35 v36=>(.ret,mkS [(0,(.bp 0 0)),(1,(jB v35))],[some (.box 43 ((Qj.cells v36).map .pl))])
def f26n0S:Tr×Hp:=(Qal [] 0 .leaf,[])
noncomputable def f26n0:Option f26n0O :=
 f53.bind fun x7 =>
 (f54 5).bind fun x9 =>
 (f20 x7 10 Qay x9).bind fun x11 =>
 (f54 (-2)).bind fun x17 =>
 (f20 x11.1 12 Qk x17).bind fun x19 =>
 (f54 1).bind fun x25 =>
 (f20 x19.1 12 Qcp x25).bind fun x27 =>
 bif decide (x11.2=0) then
  bif decide (x19.2=0) then
   some (.ret (decide (x27.2=0)) x27.1)
  else
   some (.ret false x27.1)
 else
  some (.ret false x27.1)
theorem f26n0_ok{o:f26n0O}(h:f26n0=some o):T Tryd.prog Tryd.f26.ntmps 0 c26 f26n0S (·=f26n0E o):=by
 unfold f26n0 at h;obtain ⟨x7,h8,h⟩:=Qe h;obtain ⟨x9,h10,h⟩:=Qe h;obtain ⟨x11,h12,h⟩:=Qe h;obtain ⟨x17,h18,h⟩:=Qe h;obtain ⟨x19,h20,h⟩:=Qe h;obtain ⟨x25,h26,h⟩:=Qe h;obtain ⟨x27,h28,h⟩:=Qe h
 refine rN Qi 4 [j3,([],[jH 0 (jA Qj.cells x7),jH 1 (jL 3 Qc.cells x9),jH 2 (.tup [(jA Qj.cells x11.1),(jI x11.2)])],[]),([],[jH 1 (jL 3 Qc.cells x17),jH 2 (.tup [(jA Qj.cells x19.1),(jI x19.2)])],[]),([],[jH 1 (jL 3 Qc.cells x25),jH 2 (.tup [(jA Qj.cells x27.1),(jI x27.2)])],[])] [] [] [0,4] [0,3,5,6,7] (mkS [(0,(.bp 0 0)),(3,(jI x11.2)),(5,(jI x19.2)),(6,(.bp 1 0)),(7,(jI x27.2))],[some (.box 43 [(.pl (.sl .nil 0 []))]),some (.box 43 ((Qj.cells x27.1).map .pl))]) (ap (f53_ok h8) (ap (f54_ok 5 h10) (ap (f20_ok x7 10 Qay x9 h12) (ap (f54_ok (-2) h18) (ap (f20_ok x11.1 12 Qk x17 h20) (ap (f54_ok 1 h26) (ap (f20_ok x19.1 12 Qcp x25 h28) an))))))) ?_;rcases Qg h with ⟨h33,h⟩|⟨h33,h⟩
 ·rcases Qg h with ⟨h34,h⟩|⟨h34,h⟩
  ·obtain rfl:=Qf h;exact rE Qi [(jT [4,5,8,9],[(6,.bool true),(10,.bool true)],[])] [] [] [0] [0,1] (.ret,(f26n0E (.ret (decide (x27.2=0)) x27.1)).2) (ap3 h33 (ap3 h34 an)) rfl
  ·obtain rfl:=Qf h;exact rE Qi [(jF [8,9]++jT [4,5],[(6,.bool true),(10,.bool false)],[])] [] [] [0] [0,1] (.ret,(f26n0E (.ret false x27.1)).2) (ap3 h33 (ap3 h34 an)) rfl
 ·obtain rfl:=Qf h;exact rE Qi [([(4,false),(5,false)],[(6,.bool false)],[])] [] [] [0] [0,1] (.ret,(f26n0E (.ret false x27.1)).2) (ap3 h33 an) rfl
noncomputable def f26:Option (Qj×Bool):=f26n0.bind fun o=>match o with
 | .ret v35 v36=>some (v36,v35)
theorem f26_ok{r:Qj×Bool}(h:f26=some r):Ql Tryd.prog false 26 [] [] (.tup [(jA Qj.cells r.1),(jB r.2)]) []:=by
 unfold f26 at h;obtain ⟨o,ho,h⟩:=Qe h;cases o with
 | ret v35 v36 =>
  obtain rfl:=Qf h;exact Ql.plain Qi (f:=Tryd.f26) (c:=c26) (by kernel_rfl) (by kernel_rfl) (by kernel_rfl) (by kernel_rfl) ((f26n0_ok  ho).mono fun r e=>by subst e; exact ⟨.inl rfl,(.tup [(jA Qj.cells v36),(jB v35)]),(.tup [(jA Qj.cells v36),(jB v35)]),by kernel_rfl,by kernel_rfl,((Wk.refl _):Wk (.tup [(jA Qj.cells v36),(jB v35)]) (.tup [(jA Qj.cells v36),(jB v35)]))⟩)

noncomputable def c50:Code:=Tryd.f50.body.getD .skip
inductive f50n0O where
 | ret (v8:Int)
def f50n0E(a1:Qj):f50n0O→Ex×Tr×Hp
 | .ret v8=>(.ret,mkS [(2,(jI v8))],[])
def f50n0S(a1:Qj):Tr×Hp:=(Qal [(jA Qj.cells a1)] 0 .leaf,[])
noncomputable def f50n0(a1:Qj):Option f50n0O :=
 (f45r1 a1).bind fun x5 =>
 bif x5.1 then
  some (.ret 0)
 else
  some (.ret 8)
theorem f50n0_ok(a1:Qj){o:f50n0O}(h:f50n0 a1=some o):T Tryd.prog Tryd.f50.ntmps 0 c50 (f50n0S a1) (·=f50n0E a1 o):=by
 unfold f50n0 at h;obtain ⟨x5,h6,h⟩:=Qe h;rcases Qg h with ⟨h7,h⟩|⟨h7,h⟩
 ·obtain rfl:=Qf h;exact rE Qi [j3,([],[(1,.call (.tup [(.bp 1 0),(jB x5.1)]) [none,some (.box 100 [(.mp 2),(jI x5.2.1),(jI x5.2.2.1)]),some (.map (x5.2.2.2.map (mkv (pAgg Qd.cells) (pInt .i64))))])],[]),j3,j3] [some false] [] [] [2] (.ret,(f50n0E a1 (.ret 0)).2) (ap (Ql.rn 1 [] (f45r1_ok a1 h6)) (ap (Qq h7) an)) rfl
 ·obtain rfl:=Qf h;exact rK Qi 2 [j3,([],[(1,.call (.tup [(.bp 1 0),(jB x5.1)]) [none,some (.box 100 [(.mp 2),(jI x5.2.1),(jI x5.2.2.1)]),some (.map (x5.2.2.2.map (mkv (pAgg Qd.cells) (pInt .i64))))])],[]),j3,j3] [some true] [] [] [2] .ret ((f50n0E a1 (.ret 8)).2) (ap (Ql.rn 1 [] (f45r1_ok a1 h6)) (ap (Qaf h7) an)) rfl
noncomputable def f50(a1:Qj):Option Int:=(f50n0 a1).bind fun o=>match o with
 | .ret v8=>some v8
theorem f50_ok(a1:Qj){r:Int}(h:f50 a1=some r):Ql Tryd.prog false 50 [(jA Qj.cells a1)] [] (jI r) []:=by
 unfold f50 at h;obtain ⟨o,ho,h⟩:=Qe h;cases o with
 | ret v8 =>
  obtain rfl:=Qf h;exact Ql.plain Qi (f:=Tryd.f50) (c:=c50) (by kernel_rfl) (by kernel_rfl) (by kernel_rfl) (by kernel_rfl) ((f50n0_ok a1 ho).mono fun r e=>by subst e; exact ⟨.inl rfl,(jI v8),(jI v8),by kernel_rfl,by kernel_rfl,((Wk.refl _):Wk (jI v8) (jI v8))⟩)

noncomputable def c39:Code:=Tryd.f39.body.getD .skip
inductive f39n0O where
 | ret (v7:Bool)
def f39n0E(a1 a2:Int):f39n0O→Ex×Tr×Hp
 | .ret v7=>(.ret,mkS [(4,(jB v7))],[])
def f39n0S(a1 a2:Int):Tr×Hp:=(Qal [(jI a1),(jI a2)] 0 .leaf,[])
noncomputable def f39n0(a1 a2:Int):Option f39n0O :=
 bif decide (0≤a1) then
  bif decide (a1≤a2) then
   some (.ret (decide (a2≤100000)))
  else
   some (.ret false)
 else
  some (.ret false)
theorem f39n0_ok(a1 a2:Int){o:f39n0O}(h:f39n0 a1 a2=some o):T Tryd.prog Tryd.f39.ntmps 0 c39 (f39n0S a1 a2) (·=f39n0E a1 a2 o):=by
 unfold f39n0 at h;rcases Qg h with ⟨h5,h⟩|⟨h5,h⟩
 ·rcases Qg h with ⟨h6,h⟩|⟨h6,h⟩
  ·obtain rfl:=Qf h;exact rE Qi [j3,(jT [3,4,5,8,9],[(6,.bool true),(10,.bool true)],[])] [] [] [] [4] (.ret,(f39n0E a1 a2 (.ret (decide (a2≤100000)))).2) (ap4 h5 (ap3 h6 an)) rfl
  ·obtain rfl:=Qf h;exact rE Qi [j3,(jF [8,9]++jT [3,4,5],[(6,.bool true),(10,.bool false)],[])] [] [] [] [4] (.ret,(f39n0E a1 a2 (.ret false)).2) (ap4 h5 (ap3 h6 an)) rfl
 ·obtain rfl:=Qf h;exact rE Qi [j3,(jF [3,4,5],[(6,.bool false)],[])] [] [] [] [4] (.ret,(f39n0E a1 a2 (.ret false)).2) (ap4 h5 an) rfl
noncomputable def f39(a1 a2:Int):Option Bool:=(f39n0 a1 a2).bind fun o=>match o with
 | .ret v7=>some v7
theorem f39_ok(a1 a2:Int){r:Bool}(h:f39 a1 a2=some r):Ql Tryd.prog false 39 [(jI a1),(jI a2)] [] (jB r) []:=by
 unfold f39 at h;obtain ⟨o,ho,h⟩:=Qe h;cases o with
 | ret v7 =>
  obtain rfl:=Qf h;exact Ql.plain Qi (f:=Tryd.f39) (c:=c39) (by kernel_rfl) (by kernel_rfl) (by kernel_rfl) (by kernel_rfl) ((f39n0_ok a1 a2 ho).mono fun r e=>by subst e; exact ⟨.inl rfl,(jB v7),(jB v7),by kernel_rfl,by kernel_rfl,((Wk.refl _):Wk (jB v7) (jB v7))⟩)

noncomputable def c83:Code:=Tryd.f83.body.getD .skip
inductive f83n0O where
 | ret (v7:Bool)
def f83n0E(a1 a2:ByteArray):f83n0O→Ex×Tr×Hp
 | .ret v7=>(.ret,mkS [(4,(jB v7))],[])
def f83n0S(a1 a2:ByteArray):Tr×Hp:=(Qal [(jS a1),(jS a2)] 0 .leaf,[])
noncomputable def f83n0(a1 a2:ByteArray):Option f83n0O :=
 bif decide ((a2.size:Int)≤(a1.size:Int)) then
  req (cutB 0 (a2.size:Int) a1.size) <|
  some (.ret (seq (scut a1 0 (Int.toNat (a2.size:Int))) a2))
 else
  some (.ret false)
theorem f83n0_ok(a1 a2:ByteArray){o:f83n0O}(h:f83n0 a1 a2=some o):T Tryd.prog Tryd.f83.ntmps 0 c83 (f83n0S a1 a2) (·=f83n0E a1 a2 o):=by
 unfold f83n0 at h;rcases Qg h with ⟨h5,h⟩|⟨h5,h⟩
 ·obtain ⟨h6,h⟩:=Qam h;obtain rfl:=Qf h;exact rE Qi [j3,(jT [6,7,8,9,10,11],[(9,.cut 0 (Int.toNat (a2.size:Int))),(12,.bool true)],[])] [] [] [] [4] (.ret,(f83n0E a1 a2 (.ret (seq (scut a1 0 (Int.toNat (a2.size:Int))) a2))).2) (ap4 h5 (ap (cut_hn_1 h6) (ap (cut_hn_2 h6) (ap (cut_hn_3 h6) (ap (cut_hn_4 h6) (ap3 h5 an)))))) rfl
 ·obtain rfl:=Qf h;exact rE Qi [j3,(jF [6,7,8,9,10,11],[(12,.bool false)],[])] [] [] [] [4] (.ret,(f83n0E a1 a2 (.ret false)).2) (ap3 h5 (ap4 h5 an)) rfl
noncomputable def f83(a1 a2:ByteArray):Option Bool:=(f83n0 a1 a2).bind fun o=>match o with
 | .ret v7=>some v7
theorem f83_ok(a1 a2:ByteArray){r:Bool}(h:f83 a1 a2=some r):Ql Tryd.prog false 83 [(jS a1),(jS a2)] [] (jB r) []:=by
 unfold f83 at h;obtain ⟨o,ho,h⟩:=Qe h;cases o with
 | ret v7 =>
  obtain rfl:=Qf h;exact Ql.plain Qi (f:=Tryd.f83) (c:=c83) (by kernel_rfl) (by kernel_rfl) (by kernel_rfl) (by kernel_rfl) ((f83n0_ok a1 a2 ho).mono fun r e=>by subst e; exact ⟨.inl rfl,(jB v7),(jB v7),by kernel_rfl,by kernel_rfl,((Wk.refl _):Wk (jB v7) (jB v7))⟩)

noncomputable def c67:Code:=Tryd.f67.body.getD .skip
inductive f67n0O where
 | ret (v11:ByteArray) (v12:Bool)
def f67n0E(a1 a2:ByteArray):f67n0O→Ex×Tr×Hp
 | .ret v11 v12=>(.ret,mkS [(4,(jS v11)),(5,(jB v12))],[])
def f67n0S(a1 a2:ByteArray):Tr×Hp:=(Qal [(jS a1),(jS a2)] 0 .leaf,[])
noncomputable def f67n0(a1 a2:ByteArray):Option f67n0O :=
 (f83 a1 a2).bind fun x6 =>
 bif x6 then
  req (cutB (a2.size:Int) (a1.size:Int) a1.size) <|
  some (.ret (scut a1 (Int.toNat (a2.size:Int)) a1.size) true)
 else
  some (.ret a1 false)
theorem f67n0_ok(a1 a2:ByteArray){o:f67n0O}(h:f67n0 a1 a2=some o):T Tryd.prog Tryd.f67.ntmps 0 c67 (f67n0S a1 a2) (·=f67n0E a1 a2 o):=by
 unfold f67n0 at h;obtain ⟨x6,h7,h⟩:=Qe h;rcases Qg h with ⟨h8,h⟩|⟨h8,h⟩
 ·obtain ⟨h10,h⟩:=Qam h;obtain rfl:=Qf h;exact rE Qi [j3,([],[jH 2 (jB x6)],[]),([],[(3,.cut (Int.toNat (a2.size:Int)) a1.size)],[])] [some false] [] [] [4,5] (.ret,(f67n0E a1 a2 (.ret (scut a1 (Int.toNat (a2.size:Int)) a1.size) true)).2) (ap (f83_ok a1 a2 h7) (ap (Qq h8) (ap (cut_nl_1 h10) (ap (cut_nl_2 h10) (ap (cut_nl_3 h10) (ap (cut_nl_4 h10) an)))))) rfl
 ·obtain rfl:=Qf h;exact rK Qi 2 [j3,([],[jH 2 (jB x6)],[]),j3] [some true] [] [] [4,5] .ret ((f67n0E a1 a2 (.ret a1 false)).2) (ap (f83_ok a1 a2 h7) (ap (Qaf h8) an)) rfl
noncomputable def f67(a1 a2:ByteArray):Option (ByteArray×Bool):=(f67n0 a1 a2).bind fun o=>match o with
 | .ret v11 v12=>some (v11,v12)
theorem f67_ok(a1 a2:ByteArray){r:ByteArray×Bool}(h:f67 a1 a2=some r):Ql Tryd.prog false 67 [(jS a1),(jS a2)] [] (.tup [(jS r.1),(jB r.2)]) []:=by
 unfold f67 at h;obtain ⟨o,ho,h⟩:=Qe h;cases o with
 | ret v11 v12 =>
  obtain rfl:=Qf h;exact Ql.plain Qi (f:=Tryd.f67) (c:=c67) (by kernel_rfl) (by kernel_rfl) (by kernel_rfl) (by kernel_rfl) ((f67n0_ok a1 a2 ho).mono fun r e=>by subst e; exact ⟨.inl rfl,(.tup [(jS v11),(jB v12)]),(.tup [(jS v11),(jB v12)]),by kernel_rfl,by kernel_rfl,((Wk.refl _):Wk (.tup [(jS v11),(jB v12)]) (.tup [(jS v11),(jB v12)]))⟩)

noncomputable def c51:Code:=Tryd.f51.body.getD .skip
inductive f51n0O where
 | ret (v7:ByteArray) (v8:Bool)
def f51n0E(a1 a2:ByteArray):f51n0O→Ex×Tr×Hp
 | .ret v7 v8=>(.ret,mkS [(4,(jS v7)),(5,(jB v8))],[])
def f51n0S(a1 a2:ByteArray):Tr×Hp:=(Qal [(jS a1),(jS a2)] 0 .leaf,[])
noncomputable def f51n0(a1 a2:ByteArray):Option f51n0O :=
 (f67 a1 a2).bind fun x5 =>
 some (.ret x5.1 x5.2)
theorem f51n0_ok(a1 a2:ByteArray){o:f51n0O}(h:f51n0 a1 a2=some o):T Tryd.prog Tryd.f51.ntmps 0 c51 (f51n0S a1 a2) (·=f51n0E a1 a2 o):=by
 unfold f51n0 at h;obtain ⟨x5,h6,h⟩:=Qe h;obtain rfl:=Qf h;exact rE Qi [j3,([],[jH 2 (.tup [(jS x5.1),(jB x5.2)])],[])] [] [] [] [4,5] (.ret,(f51n0E a1 a2 (.ret x5.1 x5.2)).2) (ap (f67_ok a1 a2 h6) an) rfl
noncomputable def f51(a1 a2:ByteArray):Option (ByteArray×Bool):=(f51n0 a1 a2).bind fun o=>match o with
 | .ret v7 v8=>some (v7,v8)
theorem f51_ok(a1 a2:ByteArray){r:ByteArray×Bool}(h:f51 a1 a2=some r):Ql Tryd.prog false 51 [(jS a1),(jS a2)] [] (.tup [(jS r.1),(jB r.2)]) []:=by
 unfold f51 at h;obtain ⟨o,ho,h⟩:=Qe h;cases o with
 | ret v7 v8 =>
  obtain rfl:=Qf h;exact Ql.plain Qi (f:=Tryd.f51) (c:=c51) (by kernel_rfl) (by kernel_rfl) (by kernel_rfl) (by kernel_rfl) ((f51n0_ok a1 a2 ho).mono fun r e=>by subst e; exact ⟨.inl rfl,(.tup [(jS v7),(jB v8)]),(.tup [(jS v7),(jB v8)]),by kernel_rfl,by kernel_rfl,((Wk.refl _):Wk (.tup [(jS v7),(jB v8)]) (.tup [(jS v7),(jB v8)]))⟩)

noncomputable def c68:Code:=Tryd.f68.body.getD .skip
inductive f68n2O where
 | exit0 (v36:Int)
 | ret
def f68n2E(bd1:ByteArray):f68n2O→Ex×Tr×Hp
 | .exit0 v36=>((.exit 0),mkS [(2,(jI v36))],[])
 | .ret=>(.ret,mkS [(2,(jI 0)),(3,(jB false))],[])
def f68n2S(bd1:ByteArray)(v24 v25:Int):Tr×Hp:=(mkS [(0,(jS bd1)),(2,(jI v24)),(6,(jI (bd1.size:Int))),(7,(jI v25))],[])
noncomputable def f68n2:Nat→ByteArray→Int→Int→Option f68n2O
 | 0,_,_,_=>none
 | f+1,bd1,v24,v25 =>
  bif decide (v25<(bd1.size:Int)) then
   (at? bd1.data.toList v25).bind fun x32 =>
   bif decide ((x32.toNat:Int)<48) then
    some .ret
   else
    bif decide (57<(x32.toNat:Int)) then
     some .ret
    else
     (f68n2 f bd1 (wr64 ((wr64 (10*v24))+(wr64 (wru8 ((x32.toNat:Int)-48))))) (wr64 (v25+1)))
  else
   some (.exit0 v24)
theorem f68n2_ok:∀(f:Nat)(bd1:ByteArray)(v24 v25:Int){o:f68n2O},f68n2 f bd1 v24 v25=some o→TL Tryd.prog Tryd.f68.ntmps 0 f (cL (cL (Qt 1 (cL (Qt 1 c68))))) (f68n2S bd1 v24 v25) (·=f68n2E bd1 o)
 | 0,_,_,_,o,h=>by rw [f68n2] at h; cases h
 | f+1,bd1,v24,v25,o,h=>by
  rw [f68n2] at h;refine TL.body (K:=fun s=>∃v24:Int,∃v25:Int,s=(f68n2S bd1 v24 v25)∧f68n2 f bd1 v24 v25=some o) ?_ (by rintro _ ⟨v24,v25,rfl,hk⟩; exact f68n2_ok f _ _ _ hk);rcases Qg h with ⟨h27,h⟩|⟨h27,h⟩
  ·obtain ⟨x32,h33,h⟩:=Qe h;rcases Qg h with ⟨h34,h⟩|⟨h34,h⟩
   ·obtain rfl:=Qf h;exact rK Qi 3 [j3,j3,(jT [5,6,7,8],[(2,.byte (Int.toNat v25) x32),(9,.bool true)],[]),j3] [some true,none] [] [] [2,3] .ret ((f68n2E bd1 .ret).2) (ap h27 (ap (Qm h33).1 (ap (Qm h33).2 (ap h34 (ap4 h34 an))))) (Qad.out rfl rfl)
   ·rcases Qg h with ⟨h35,h⟩|⟨h35,h⟩
    ·obtain rfl:=Qf h;exact rK Qi 3 [j3,j3,(jF [5,6,7,8],[(2,.byte (Int.toNat v25) x32),(7,.byte (Int.toNat v25) x32),(9,.bool false)],[]),j3] [some true,some true] [] [] [2,3] .ret ((f68n2E bd1 .ret).2) (ap h27 (ap (Qm h33).1 (ap (Qm h33).2 (ap3 h34 (ap (Qm h33).1 (ap (Qm h33).2 (ap2 h34 (ap h35 an)))))))) (Qad.out rfl rfl)
    ·exact rE Qi [j3,j3,(jF [5,6,7,8],[(2,.byte (Int.toNat v25) x32),(7,.byte (Int.toNat v25) x32),(9,.bool false)],[]),([],[(4,.byte (Int.toNat v25) x32)],[]),j3] [some true,some false] [] [] [0,2,6,7] (.norm,(f68n2S bd1 (wr64 ((wr64 (10*v24))+(wr64 (wru8 ((x32.toNat:Int)-48))))) (wr64 (v25+1)))) (ap h27 (ap (Qm h33).1 (ap (Qm h33).2 (ap3 h34 (ap (Qm h33).1 (ap (Qm h33).2 (ap2 h34 (ap h35 (ap (Qm h33).1 (ap (Qm h33).2 an)))))))))) (Qad.norm ⟨(wr64 ((wr64 (10*v24))+(wr64 (wru8 ((x32.toNat:Int)-48))))),(wr64 (v25+1)),rfl,h⟩)
  ·obtain rfl:=Qf h;exact rK Qi 2 [j3] [some false] [] [] [2] (.exit 0) ((f68n2E bd1 (.exit0 v24)).2) (ap h27 an) (Qad.out rfl rfl)
noncomputable def f68n2L(bd1:ByteArray):List UInt8→Int→Int→Option f68n2O
 | [],v24,v25 =>
  some (.exit0 v24)
 | x0::rest,v24,v25 =>
  bif decide ((x0.toNat:Int)<48) then
   some .ret
  else
   bif decide (57<(x0.toNat:Int)) then
    some .ret
   else
    (f68n2L bd1 rest (wr64 ((wr64 (10*v24))+(wr64 (wru8 ((x0.toNat:Int)-48))))) (v25+1))
theorem f68n2L_eq(bd1:ByteArray):∀(rest:List UInt8)(f k:Nat)(v24:Int),bd1.data.toList.drop k=rest→bd1.data.toList.length≤maxLen→rest.length<f→f68n2 f bd1 v24 (k:Int)=f68n2L bd1 rest v24 (k:Int)
 | _,0,_,_,_,_,hf=>absurd hf (Nat.not_lt_zero _)
 | [],f+1,k,v24,hd,hm,hf=>by
  have hk:¬((k:Int)<(bd1.data.toList.length:Int)):=by have:=Qbj hd; omega
  rw [f68n2,f68n2L];simp only [size_list,decide_eq_false hk,cond_false]
 | x0::rest,f+1,k,v24,hd,hm,hf=>by
  obtain ⟨hx,hlt,hd'⟩:=Qbn hd;have hk:(k:Int)<(bd1.data.toList.length:Int):=by omega
  have hw:wr64 ((k:Int)+1)=(k:Int)+1:=wr64_of (by omega) (by unfold maxLen at hm; omega);have ih:∀(v24:Int),f68n2 f bd1 v24 ((k:Int)+1)=f68n2L bd1 rest v24 ((k:Int)+1):=fun v24=>f68n2L_eq bd1 rest f (k+1) v24 hd' hm (by simpa using hf);rw [f68n2,f68n2L];simp only [size_list,decide_eq_true hk,cond_true,at_nat,hx,Option.bind_some,hw,ih]
theorem f68n2_run(bd1:ByteArray)(v24:Int)(hm:bd1.data.toList.length≤maxLen):f68n2 FUEL bd1 v24 0=f68n2L bd1 bd1.data.toList v24 0:=f68n2L_eq bd1 bd1.data.toList FUEL 0 v24 List.drop_zero hm (lt_FUEL hm)
inductive f68n1O where
 | norm (v40:Int)
 | ret
def f68n1E(bd1:ByteArray):f68n1O→Ex×Tr×Hp
 | .norm v40=>(.norm,mkS [(2,(jI v40))],[])
 | .ret=>(.ret,mkS [(2,(jI 0)),(3,(jB false))],[])
def f68n1S(bd1:ByteArray):Tr×Hp:=(mkS [(0,(jS bd1)),(2,(jI 0))],[])
noncomputable def f68n1(bd1:ByteArray):Option f68n1O :=
 (f68n2 FUEL bd1 0 0).bind fun o37=>match o37 with
 | .exit0 v39=>some (.norm v39)
 | .ret=>some .ret
theorem f68n1_ok(bd1:ByteArray){o:f68n1O}(h:f68n1 bd1=some o):T Tryd.prog Tryd.f68.ntmps 0 (cL (Qt 1 c68)) (f68n1S bd1) (·=f68n1E bd1 o):=by
 unfold f68n1 at h;refine rN Qi 1 [j3] [] [] [] [0,2,6,7] (f68n2S bd1 0 0) an ?_;obtain ⟨o37,h38,h⟩:=Qe h;cases o37 with
 | exit0 v39 =>
  obtain rfl:=Qf h;exact T.last' (T.bl (i:=0) (by kernel_rfl) (by kernel_rfl) (f68n2_ok FUEL bd1 0 0 h38)) (tds:=[]) (m:=[]) (keep:=[2]) (st2:=(f68n1E bd1 (.norm v39)).2) (by kernel_rfl) an rfl
 | ret =>
  obtain rfl:=Qf h;exact T.last' (T.bl (i:=0) (by kernel_rfl) (by kernel_rfl) (f68n2_ok FUEL bd1 0 0 h38)) (tds:=[]) (m:=[]) (keep:=[2,3]) (st2:=(f68n1E bd1 .ret).2) (by kernel_rfl) an rfl
inductive f68n0O where
 | ret (v44:Int) (v45:Bool)
def f68n0E(a1:ByteArray):f68n0O→Ex×Tr×Hp
 | .ret v44 v45=>(.ret,mkS [(2,(jI v44)),(3,(jB v45))],[])
def f68n0S(a1:ByteArray):Tr×Hp:=(Qal [(jS a1)] 0 .leaf,[])
noncomputable def f68n0(a1:ByteArray):Option f68n0O :=
 (f68n1 a1).bind fun o41=>match o41 with
 | .norm v43=>some (.ret v43 true)
 | .ret=>some (.ret 0 false)
theorem f68n0_ok(a1:ByteArray){o:f68n0O}(h:f68n0 a1=some o):T Tryd.prog Tryd.f68.ntmps 0 c68 (f68n0S a1) (·=f68n0E a1 o):=by
 unfold f68n0 at h;refine rN Qi 1 [j3] [] [] [] [0,2] (f68n1S a1) an ?_;obtain ⟨o41,h42,h⟩:=Qe h;cases o41 with
 | norm v43 =>
  refine T.oneN (by kernel_rfl) (f68n1_ok a1 h42) (st2:=(f68n1E a1 (.norm v43)).2) rfl ?_;obtain rfl:=Qf h;exact rE Qi [j3] [] [] [] [2,3] (.ret,(f68n0E a1 (.ret v43 true)).2) an rfl
 | ret =>
  obtain rfl:=Qf h;exact T.oneX' (by kernel_rfl) (f68n1_ok a1 h42) (tds:=[]) (m:=[]) (keep:=[2,3]) (st2:=(f68n0E a1 (.ret 0 false)).2) (by kernel_rfl) an rfl rfl
noncomputable def f68(a1:ByteArray):Option (Int×Bool):=(f68n0 a1).bind fun o=>match o with
 | .ret v44 v45=>some (v44,v45)
theorem f68_ok(a1:ByteArray){r:Int×Bool}(h:f68 a1=some r):Ql Tryd.prog false 68 [(jS a1)] [] (.tup [(jI r.1),(jB r.2)]) []:=by
 unfold f68 at h;obtain ⟨o,ho,h⟩:=Qe h;cases o with
 | ret v44 v45 =>
  obtain rfl:=Qf h;exact Ql.plain Qi (f:=Tryd.f68) (c:=c68) (by kernel_rfl) (by kernel_rfl) (by kernel_rfl) (by kernel_rfl) ((f68n0_ok a1 ho).mono fun r e=>by subst e; exact ⟨.inl rfl,(.tup [(jI v44),(jB v45)]),(.tup [(jI v44),(jB v45)]),by kernel_rfl,by kernel_rfl,((Wk.refl _):Wk (.tup [(jI v44),(jB v45)]) (.tup [(jI v44),(jB v45)]))⟩)

noncomputable def c104:Code:=Tryd.f104.body.getD .skip
inductive f104n0O where
 | ret (v4:Bool)
def f104n0E(a1:Int):f104n0O→Ex×Tr×Hp
 | .ret v4=>(.ret,mkS [(2,(jB v4))],[])
def f104n0S(a1:Int):Tr×Hp:=(Qal [(jI a1)] 0 .leaf,[])
noncomputable def f104n0(a1:Int):Option f104n0O :=
 bif decide (1900≤a1) then
  some (.ret (decide (a1≤2173)))
 else
  some (.ret false)
theorem f104n0_ok(a1:Int){o:f104n0O}(h:f104n0 a1=some o):T Tryd.prog Tryd.f104.ntmps 0 c104 (f104n0S a1) (·=f104n0E a1 o):=by
 unfold f104n0 at h;rcases Qg h with ⟨h3,h⟩|⟨h3,h⟩
 ·obtain rfl:=Qf h;exact rE Qi [j3,([(3,true),(4,true)],[(5,.bool true)],[])] [] [] [] [2] (.ret,(f104n0E a1 (.ret (decide (a1≤2173)))).2) (ap3 h3 an) rfl
 ·obtain rfl:=Qf h;exact rE Qi [j3,([(3,false),(4,false)],[(5,.bool false)],[])] [] [] [] [2] (.ret,(f104n0E a1 (.ret false)).2) (ap3 h3 an) rfl
noncomputable def f104(a1:Int):Option Bool:=(f104n0 a1).bind fun o=>match o with
 | .ret v4=>some v4
theorem Qch(a1:Int){r:Bool}(h:f104 a1=some r):Ql Tryd.prog false 104 [(jI a1)] [] (jB r) []:=by
 unfold f104 at h;obtain ⟨o,ho,h⟩:=Qe h;cases o with
 | ret v4 =>
  obtain rfl:=Qf h;exact Ql.plain Qi (f:=Tryd.f104) (c:=c104) (by kernel_rfl) (by kernel_rfl) (by kernel_rfl) (by kernel_rfl) ((f104n0_ok a1 ho).mono fun r e=>by subst e; exact ⟨.inl rfl,(jB v4),(jB v4),by kernel_rfl,by kernel_rfl,((Wk.refl _):Wk (jB v4) (jB v4))⟩)

noncomputable def c106:Code:=Tryd.f106.body.getD .skip
inductive f106n0O where
 | ret (v6:Bool)
def f106n0E(a1:Int):f106n0O→Ex×Tr×Hp
 | .ret v6=>(.ret,mkS [(2,(jB v6))],[])
def f106n0S(a1:Int):Tr×Hp:=(Qal [(jI a1)] 0 .leaf,[])
noncomputable def f106n0(a1:Int):Option f106n0O :=
 bif decide ((Int.tmod a1 4)=0) then
  bif decide ((Int.tmod a1 100)=0) then
   some (.ret (decide ((Int.tmod a1 400)=0)))
  else
   some (.ret true)
 else
  some (.ret false)
theorem f106n0_ok(a1:Int){o:f106n0O}(h:f106n0 a1=some o):T Tryd.prog Tryd.f106.ntmps 0 c106 (f106n0S a1) (·=f106n0E a1 o):=by
 unfold f106n0 at h;rcases Qg h with ⟨h4,h⟩|⟨h4,h⟩
 ·rcases Qg h with ⟨h5,h⟩|⟨h5,h⟩
  ·obtain rfl:=Qf h;exact rE Qi [j3,(jF [8,9,10]++jT [4,5,6,7,11],[(11,.bool false),(12,.bool true)],[])] [] [] [] [2] (.ret,(f106n0E a1 (.ret (decide ((Int.tmod a1 400)=0)))).2) (ap4 h4 (ap3 (Qq h5) (ap h4 (ap (Qq h5) (ap h4 an))))) rfl
  ·obtain rfl:=Qf h;exact rE Qi [j3,(jT [4,5,6,7,8,9,10,11],[(11,.bool true),(12,.bool true)],[])] [] [] [] [2] (.ret,(f106n0E a1 (.ret true)).2) (ap4 h4 (ap3 (Qaf h5) (ap h4 (ap (Qaf h5) (ap h4 an))))) rfl
 ·obtain rfl:=Qf h;exact rE Qi [j3,(jF [4,5,6,7,11],[(12,.bool false)],[])] [] [] [] [2] (.ret,(f106n0E a1 (.ret false)).2) (ap2 h4 (ap4 h4 an)) rfl
noncomputable def f106(a1:Int):Option Bool:=(f106n0 a1).bind fun o=>match o with
 | .ret v6=>some v6
theorem f106_ok(a1:Int){r:Bool}(h:f106 a1=some r):Ql Tryd.prog false 106 [(jI a1)] [] (jB r) []:=by
 unfold f106 at h;obtain ⟨o,ho,h⟩:=Qe h;cases o with
 | ret v6 =>
  obtain rfl:=Qf h;exact Ql.plain Qi (f:=Tryd.f106) (c:=c106) (by kernel_rfl) (by kernel_rfl) (by kernel_rfl) (by kernel_rfl) ((f106n0_ok a1 ho).mono fun r e=>by subst e; exact ⟨.inl rfl,(jB v6),(jB v6),by kernel_rfl,by kernel_rfl,((Wk.refl _):Wk (jB v6) (jB v6))⟩)

noncomputable def c86:Code:=Tryd.f86.body.getD .skip
inductive f86n0O where
 | ret (v8:Qr)
def f86n0E(a1:Int):f86n0O→Ex×Tr×Hp
 | .ret v8=>(.ret,mkS [(2,(.bp 0 0))],[some (.box 140 ((Qr.cells v8).map .pl))])
def f86n0S(a1:Int):Tr×Hp:=(Qal [(jI a1)] 0 .leaf,[])
noncomputable def f86n0(a1:Int):Option f86n0O :=
 (f106 a1).bind fun x5 =>
 bif x5 then
  some (.ret (Qr.mk 0 31 29 31 30 31 30 31 31 30 31 30 31))
 else
  some (.ret (Qr.mk 0 31 28 31 30 31 30 31 31 30 31 30 31))
theorem f86n0_ok(a1:Int){o:f86n0O}(h:f86n0 a1=some o):T Tryd.prog Tryd.f86.ntmps 0 c86 (f86n0S a1) (·=f86n0E a1 o):=by
 unfold f86n0 at h;obtain ⟨x5,h6,h⟩:=Qe h;rcases Qg h with ⟨h7,h⟩|⟨h7,h⟩
 ·obtain rfl:=Qf h;exact rE Qi [j3,j3,([],[jH 1 (jB x5)],[]),j3,j3] [some true] [] [0] [2] (.ret,(f86n0E a1 (.ret (Qr.mk 0 31 29 31 30 31 30 31 31 30 31 30 31))).2) (ap (f106_ok a1 h6) (ap h7 an)) rfl
 ·obtain rfl:=Qf h;exact rE Qi [j3,j3,([],[jH 1 (jB x5)],[]),j3] [some false] [] [0] [2] (.ret,(f86n0E a1 (.ret (Qr.mk 0 31 28 31 30 31 30 31 31 30 31 30 31))).2) (ap (f106_ok a1 h6) (ap h7 an)) rfl
noncomputable def f86(a1:Int):Option Qr:=(f86n0 a1).bind fun o=>match o with
 | .ret v8=>some v8
theorem f86_ok(a1:Int){r:Qr}(h:f86 a1=some r):Ql Tryd.prog false 86 [(jI a1)] [] (jA Qr.cells r) []:=by
 unfold f86 at h;obtain ⟨o,ho,h⟩:=Qe h;cases o with
 | ret v8 =>
  obtain rfl:=Qf h;exact Ql.plain Qi (f:=Tryd.f86) (c:=c86) (by kernel_rfl) (by kernel_rfl) (by kernel_rfl) (by kernel_rfl) ((f86n0_ok a1 ho).mono fun r e=>by subst e; exact ⟨.inl rfl,(jA Qr.cells v8),(jA Qr.cells v8),by kernel_rfl,by kernel_rfl,((Wk.refl _):Wk (jA Qr.cells v8) (jA Qr.cells v8))⟩)

noncomputable def c84:Code:=Tryd.f84.body.getD .skip
inductive f84n0O where
 | ret (v43:Int) (v44:Int)
def f84n0E(a1 a2:Int):f84n0O→Ex×Tr×Hp
 | .ret v43 v44=>(.ret,mkS [(4,(jI v43)),(5,(jI v44))],[])
def f84n0S(a1 a2:Int):Tr×Hp:=(Qal [(jI a1),(jI a2)] 0 .leaf,[])
noncomputable def f84n0(a1 a2:Int):Option f84n0O :=
 (f104 a1).bind fun x8 =>
 bif x8 then
  bif decide (a2<1) then
   some (.ret 0 2)
  else
   bif decide (12<a2) then
    some (.ret 0 2)
   else
    (f86 a1).bind fun x28 =>
    bif decide (a2=0) then
     some (.ret x28.e0 0)
    else
     bif decide (a2=1) then
      some (.ret x28.e1 0)
     else
      bif decide (a2=2) then
       some (.ret x28.e2 0)
      else
       bif decide (a2=3) then
        some (.ret x28.e3 0)
       else
        bif decide (a2=4) then
         some (.ret x28.e4 0)
        else
         bif decide (a2=5) then
          some (.ret x28.e5 0)
         else
          bif decide (a2=6) then
           some (.ret x28.e6 0)
          else
           bif decide (a2=7) then
            some (.ret x28.e7 0)
           else
            bif decide (a2=8) then
             some (.ret x28.e8 0)
            else
             bif decide (a2=9) then
              some (.ret x28.e9 0)
             else
              bif decide (a2=10) then
               some (.ret x28.e10 0)
              else
               bif decide (a2=11) then
                some (.ret x28.e11 0)
               else
                bif decide (a2=12) then
                 some (.ret x28.e12 0)
                else
                 none
 else
  some (.ret 0 2)
theorem f84n0_ok(a1 a2:Int){o:f84n0O}(h:f84n0 a1 a2=some o):T Tryd.prog Tryd.f84.ntmps 0 c84 (f84n0S a1 a2) (·=f84n0E a1 a2 o):=by
 unfold f84n0 at h;obtain ⟨x8,h9,h⟩:=Qe h;rcases Qg h with ⟨h10,h⟩|⟨h10,h⟩
 ·rcases Qg h with ⟨h11,h⟩|⟨h11,h⟩
  ·obtain rfl:=Qf h;exact rK Qi 2 [j3,(jF [4,5]++jT [8,9],[jH 1 (jB x8),(6,.bool false),(10,.bool true)],[]),j3] [none] [] [] [4,5] .ret ((f84n0E a1 a2 (.ret 0 2)).2) (ap3 (Qq h10) (ap3 h11 (ap (Qch a1 h9) an))) rfl
  ·rcases Qg h with ⟨h12,h⟩|⟨h12,h⟩
   ·obtain rfl:=Qf h;exact rK Qi 2 [j3,(jF [4,5,8,9],[jH 1 (jB x8),(6,.bool false),(10,.bool false)],[]),j3] [some true] [] [] [4,5] .ret ((f84n0E a1 a2 (.ret 0 2)).2) (ap3 (Qq h10) (ap3 h11 (ap (Qch a1 h9) (ap h12 an)))) rfl
   ·obtain ⟨x28,h29,h⟩:=Qe h;rcases Qg h with ⟨h30,h⟩|⟨h30,h⟩
    ·obtain rfl:=Qf h;exact rE Qi [j3,(jF [4,5,8,9],[jH 1 (jB x8),(6,.bool false),(10,.bool false)],[]),([],[jH 1 (jA Qr.cells x28),(3,.at_ 0)],[])] [some false] [] [] [4,5] (.ret,(f84n0E a1 a2 (.ret x28.e0 0)).2) (ap3 (Qq h10) (ap3 h11 (ap (Qch a1 h9) (ap h12 (ap (of_decide_eq_true h30) (ap (f86_ok a1 h29) an)))))) rfl
    ·rcases Qg h with ⟨h31,h⟩|⟨h31,h⟩
     ·obtain rfl:=Qf h;exact rE Qi [j3,(jF [4,5,8,9],[jH 1 (jB x8),(6,.bool false),(10,.bool false)],[]),([],[jH 1 (jA Qr.cells x28),(3,.at_ 1)],[])] [some false] [] [] [4,5] (.ret,(f84n0E a1 a2 (.ret x28.e1 0)).2) (ap3 (Qq h10) (ap3 h11 (ap (Qch a1 h9) (ap h12 (ap (of_decide_eq_true h31) (ap (f86_ok a1 h29) an)))))) rfl
     ·rcases Qg h with ⟨h32,h⟩|⟨h32,h⟩
      ·obtain rfl:=Qf h;exact rE Qi [j3,(jF [4,5,8,9],[jH 1 (jB x8),(6,.bool false),(10,.bool false)],[]),([],[jH 1 (jA Qr.cells x28),(3,.at_ 2)],[])] [some false] [] [] [4,5] (.ret,(f84n0E a1 a2 (.ret x28.e2 0)).2) (ap3 (Qq h10) (ap3 h11 (ap (Qch a1 h9) (ap h12 (ap (of_decide_eq_true h32) (ap (f86_ok a1 h29) an)))))) rfl
      ·rcases Qg h with ⟨h33,h⟩|⟨h33,h⟩
       ·obtain rfl:=Qf h;exact rE Qi [j3,(jF [4,5,8,9],[jH 1 (jB x8),(6,.bool false),(10,.bool false)],[]),([],[jH 1 (jA Qr.cells x28),(3,.at_ 3)],[])] [some false] [] [] [4,5] (.ret,(f84n0E a1 a2 (.ret x28.e3 0)).2) (ap3 (Qq h10) (ap3 h11 (ap (Qch a1 h9) (ap h12 (ap (of_decide_eq_true h33) (ap (f86_ok a1 h29) an)))))) rfl
       ·rcases Qg h with ⟨h34,h⟩|⟨h34,h⟩
        ·obtain rfl:=Qf h;exact rE Qi [j3,(jF [4,5,8,9],[jH 1 (jB x8),(6,.bool false),(10,.bool false)],[]),([],[jH 1 (jA Qr.cells x28),(3,.at_ 4)],[])] [some false] [] [] [4,5] (.ret,(f84n0E a1 a2 (.ret x28.e4 0)).2) (ap3 (Qq h10) (ap3 h11 (ap (Qch a1 h9) (ap h12 (ap (of_decide_eq_true h34) (ap (f86_ok a1 h29) an)))))) rfl
        ·rcases Qg h with ⟨h35,h⟩|⟨h35,h⟩
         ·obtain rfl:=Qf h;exact rE Qi [j3,(jF [4,5,8,9],[jH 1 (jB x8),(6,.bool false),(10,.bool false)],[]),([],[jH 1 (jA Qr.cells x28),(3,.at_ 5)],[])] [some false] [] [] [4,5] (.ret,(f84n0E a1 a2 (.ret x28.e5 0)).2) (ap3 (Qq h10) (ap3 h11 (ap (Qch a1 h9) (ap h12 (ap (of_decide_eq_true h35) (ap (f86_ok a1 h29) an)))))) rfl
         ·rcases Qg h with ⟨h36,h⟩|⟨h36,h⟩
          ·obtain rfl:=Qf h;exact rE Qi [j3,(jF [4,5,8,9],[jH 1 (jB x8),(6,.bool false),(10,.bool false)],[]),([],[jH 1 (jA Qr.cells x28),(3,.at_ 6)],[])] [some false] [] [] [4,5] (.ret,(f84n0E a1 a2 (.ret x28.e6 0)).2) (ap3 (Qq h10) (ap3 h11 (ap (Qch a1 h9) (ap h12 (ap (of_decide_eq_true h36) (ap (f86_ok a1 h29) an)))))) rfl
          ·rcases Qg h with ⟨h37,h⟩|⟨h37,h⟩
           ·obtain rfl:=Qf h;exact rE Qi [j3,(jF [4,5,8,9],[jH 1 (jB x8),(6,.bool false),(10,.bool false)],[]),([],[jH 1 (jA Qr.cells x28),(3,.at_ 7)],[])] [some false] [] [] [4,5] (.ret,(f84n0E a1 a2 (.ret x28.e7 0)).2) (ap3 (Qq h10) (ap3 h11 (ap (Qch a1 h9) (ap h12 (ap (of_decide_eq_true h37) (ap (f86_ok a1 h29) an)))))) rfl
           ·rcases Qg h with ⟨h38,h⟩|⟨h38,h⟩
            ·obtain rfl:=Qf h;exact rE Qi [j3,(jF [4,5,8,9],[jH 1 (jB x8),(6,.bool false),(10,.bool false)],[]),([],[jH 1 (jA Qr.cells x28),(3,.at_ 8)],[])] [some false] [] [] [4,5] (.ret,(f84n0E a1 a2 (.ret x28.e8 0)).2) (ap3 (Qq h10) (ap3 h11 (ap (Qch a1 h9) (ap h12 (ap (of_decide_eq_true h38) (ap (f86_ok a1 h29) an)))))) rfl
            ·rcases Qg h with ⟨h39,h⟩|⟨h39,h⟩
             ·obtain rfl:=Qf h;exact rE Qi [j3,(jF [4,5,8,9],[jH 1 (jB x8),(6,.bool false),(10,.bool false)],[]),([],[jH 1 (jA Qr.cells x28),(3,.at_ 9)],[])] [some false] [] [] [4,5] (.ret,(f84n0E a1 a2 (.ret x28.e9 0)).2) (ap3 (Qq h10) (ap3 h11 (ap (Qch a1 h9) (ap h12 (ap (of_decide_eq_true h39) (ap (f86_ok a1 h29) an)))))) rfl
             ·rcases Qg h with ⟨h40,h⟩|⟨h40,h⟩
              ·obtain rfl:=Qf h;exact rE Qi [j3,(jF [4,5,8,9],[jH 1 (jB x8),(6,.bool false),(10,.bool false)],[]),([],[jH 1 (jA Qr.cells x28),(3,.at_ 10)],[])] [some false] [] [] [4,5] (.ret,(f84n0E a1 a2 (.ret x28.e10 0)).2) (ap3 (Qq h10) (ap3 h11 (ap (Qch a1 h9) (ap h12 (ap (of_decide_eq_true h40) (ap (f86_ok a1 h29) an)))))) rfl
              ·rcases Qg h with ⟨h41,h⟩|⟨h41,h⟩
               ·obtain rfl:=Qf h;exact rE Qi [j3,(jF [4,5,8,9],[jH 1 (jB x8),(6,.bool false),(10,.bool false)],[]),([],[jH 1 (jA Qr.cells x28),(3,.at_ 11)],[])] [some false] [] [] [4,5] (.ret,(f84n0E a1 a2 (.ret x28.e11 0)).2) (ap3 (Qq h10) (ap3 h11 (ap (Qch a1 h9) (ap h12 (ap (of_decide_eq_true h41) (ap (f86_ok a1 h29) an)))))) rfl
               ·rcases Qg h with ⟨h42,h⟩|⟨h42,h⟩
                ·obtain rfl:=Qf h;exact rE Qi [j3,(jF [4,5,8,9],[jH 1 (jB x8),(6,.bool false),(10,.bool false)],[]),([],[jH 1 (jA Qr.cells x28),(3,.at_ 12)],[])] [some false] [] [] [4,5] (.ret,(f84n0E a1 a2 (.ret x28.e12 0)).2) (ap3 (Qq h10) (ap3 h11 (ap (Qch a1 h9) (ap h12 (ap (of_decide_eq_true h42) (ap (f86_ok a1 h29) an)))))) rfl
                ·cases h
 ·obtain rfl:=Qf h;exact rK Qi 2 [j3,([(4,true),(5,true)],[jH 1 (jB x8),(6,.bool true)],[]),j3] [none] [] [] [4,5] .ret ((f84n0E a1 a2 (.ret 0 2)).2) (ap3 (Qaf h10) (ap (Qch a1 h9) an)) rfl
noncomputable def f84(a1 a2:Int):Option (Int×Int):=(f84n0 a1 a2).bind fun o=>match o with
 | .ret v43 v44=>some (v43,v44)
theorem f84_ok(a1 a2:Int){r:Int×Int}(h:f84 a1 a2=some r):Ql Tryd.prog false 84 [(jI a1),(jI a2)] [] (.tup [(jI r.1),(jI r.2)]) []:=by
 unfold f84 at h;obtain ⟨o,ho,h⟩:=Qe h;cases o with
 | ret v43 v44 =>
  obtain rfl:=Qf h;exact Ql.plain Qi (f:=Tryd.f84) (c:=c84) (by kernel_rfl) (by kernel_rfl) (by kernel_rfl) (by kernel_rfl) ((f84n0_ok a1 a2 ho).mono fun r e=>by subst e; exact ⟨.inl rfl,(.tup [(jI v43),(jI v44)]),(.tup [(jI v43),(jI v44)]),by kernel_rfl,by kernel_rfl,((Wk.refl _):Wk (.tup [(jI v43),(jI v44)]) (.tup [(jI v43),(jI v44)]))⟩)

noncomputable def c105:Code:=Tryd.f105.body.getD .skip
inductive f105n0O where
 | ret
def f105n0E(a1:Int):f105n0O→Ex×Tr×Hp
 | .ret=>(.ret,mkS [(2,(.pl (.int .i64 (wr64 ((wr64 ((wr64 (Int.tdiv a1 4))-(wr64 (Int.tdiv a1 100))))+(wr64 (Int.tdiv a1 400)))))))],[])
def f105n0S(a1:Int):Tr×Hp:=(Qal [(jI a1)] 0 .leaf,[])
noncomputable def f105n0(a1:Int):Option f105n0O :=
 some .ret
theorem f105n0_ok(a1:Int){o:f105n0O}(h:f105n0 a1=some o):T Tryd.prog Tryd.f105.ntmps 0 c105 (f105n0S a1) (·=f105n0E a1 o):=by
 unfold f105n0 at h;obtain rfl:=Qf h;exact rE Qi [j3,j3] [] [] [] [2] (.ret,(f105n0E a1 .ret).2) an rfl
noncomputable def f105(a1:Int):Option Int:=(f105n0 a1).bind fun o=>match o with
 | .ret=>some (wr64 ((wr64 ((wr64 (Int.tdiv a1 4))-(wr64 (Int.tdiv a1 100))))+(wr64 (Int.tdiv a1 400))))
theorem f105_ok(a1:Int){r:Int}(h:f105 a1=some r):Ql Tryd.prog false 105 [(jI a1)] [] (jI r) []:=by
 unfold f105 at h;obtain ⟨o,ho,h⟩:=Qe h;cases o with
 | ret =>
  obtain rfl:=Qf h;exact Ql.plain Qi (f:=Tryd.f105) (c:=c105) (by kernel_rfl) (by kernel_rfl) (by kernel_rfl) (by kernel_rfl) ((f105n0_ok a1 ho).mono fun r e=>by subst e; exact ⟨.inl rfl,(.pl (.int .i64 (wr64 ((wr64 ((wr64 (Int.tdiv a1 4))-(wr64 (Int.tdiv a1 100))))+(wr64 (Int.tdiv a1 400)))))),(.pl (.int .i64 (wr64 ((wr64 ((wr64 (Int.tdiv a1 4))-(wr64 (Int.tdiv a1 100))))+(wr64 (Int.tdiv a1 400)))))),by kernel_rfl,by kernel_rfl,((Wk.refl _):Wk (.pl (.int .i64 (wr64 ((wr64 ((wr64 (Int.tdiv a1 4))-(wr64 (Int.tdiv a1 100))))+(wr64 (Int.tdiv a1 400)))))) (.pl (.int .i64 (wr64 ((wr64 ((wr64 (Int.tdiv a1 4))-(wr64 (Int.tdiv a1 100))))+(wr64 (Int.tdiv a1 400)))))))⟩)

noncomputable def c85:Code:=Tryd.f85.body.getD .skip
inductive f85n0O where
 | ret (v10:Int)
def f85n0E(a1:Int):f85n0O→Ex×Tr×Hp
 | .ret v10=>(.ret,mkS [(2,(jI v10))],[])
def f85n0S(a1:Int):Tr×Hp:=(Qal [(jI a1)] 0 .leaf,[])
noncomputable def f85n0(a1:Int):Option f85n0O :=
 (f105 (wr64 (a1-1))).bind fun x6 =>
 (f105 1899).bind fun x8 =>
 some (.ret (wr64 ((wr64 ((wr64 (365*(wr64 (a1-1900))))+x6))-x8)))
theorem f85n0_ok(a1:Int){o:f85n0O}(h:f85n0 a1=some o):T Tryd.prog Tryd.f85.ntmps 0 c85 (f85n0S a1) (·=f85n0E a1 o):=by
 unfold f85n0 at h;obtain ⟨x6,h7,h⟩:=Qe h;obtain ⟨x8,h9,h⟩:=Qe h;obtain rfl:=Qf h;exact rE Qi [j3,([],[jH 5 (jI x6),jH 7 (jI x8)],[])] [] [] [] [2] (.ret,(f85n0E a1 (.ret (wr64 ((wr64 ((wr64 (365*(wr64 (a1-1900))))+x6))-x8)))).2) (ap (f105_ok (wr64 (a1-1)) h7) (ap (f105_ok 1899 h9) an)) rfl
noncomputable def f85(a1:Int):Option Int:=(f85n0 a1).bind fun o=>match o with
 | .ret v10=>some v10
theorem f85_ok(a1:Int){r:Int}(h:f85 a1=some r):Ql Tryd.prog false 85 [(jI a1)] [] (jI r) []:=by
 unfold f85 at h;obtain ⟨o,ho,h⟩:=Qe h;cases o with
 | ret v10 =>
  obtain rfl:=Qf h;exact Ql.plain Qi (f:=Tryd.f85) (c:=c85) (by kernel_rfl) (by kernel_rfl) (by kernel_rfl) (by kernel_rfl) ((f85n0_ok a1 ho).mono fun r e=>by subst e; exact ⟨.inl rfl,(jI v10),(jI v10),by kernel_rfl,by kernel_rfl,((Wk.refl _):Wk (jI v10) (jI v10))⟩)

noncomputable def c69:Code:=Tryd.f69.body.getD .skip
inductive f69n2O where
 | exit0 (v46:Int)
def f69n2E(bk4:Qr)(bf1:Int):f69n2O→Ex×Tr×Hp
 | .exit0 v46=>((.exit 0),mkS [(10,(jI v46))],[])
def f69n2S(bk4:Qr)(bf1 v38 v39:Int):Tr×Hp:=(mkS [(10,(jI v38)),(39,(.pl (.sl .any 1 ((([bk4.e0,bk4.e1,bk4.e2,bk4.e3,bk4.e4,bk4.e5,bk4.e6,bk4.e7,bk4.e8,bk4.e9,bk4.e10,bk4.e11,bk4.e12].take (Int.toNat bf1)).drop 0).map (cInt .i64))))),(40,(.pl (.int .i64 ((([bk4.e0,bk4.e1,bk4.e2,bk4.e3,bk4.e4,bk4.e5,bk4.e6,bk4.e7,bk4.e8,bk4.e9,bk4.e10,bk4.e11,bk4.e12].take (Int.toNat bf1)).drop 0).length:Int)))),(41,(jI v39))],[])
noncomputable def f69n2:Nat→Qr→Int→Int→Int→Option f69n2O
 | 0,_,_,_,_=>none
 | f+1,bk4,bf1,v38,v39 =>
  bif (decide (v39<((([bk4.e0,bk4.e1,bk4.e2,bk4.e3,bk4.e4,bk4.e5,bk4.e6,bk4.e7,bk4.e8,bk4.e9,bk4.e10,bk4.e11,bk4.e12].take (Int.toNat bf1)).drop 0).length:Int))) then
   (at? (([bk4.e0,bk4.e1,bk4.e2,bk4.e3,bk4.e4,bk4.e5,bk4.e6,bk4.e7,bk4.e8,bk4.e9,bk4.e10,bk4.e11,bk4.e12].take (Int.toNat bf1)).drop 0) v39).bind fun x44 =>
   (f69n2 f bk4 bf1 (wr64 (v38+x44)) (wr64 (v39+1)))
  else
   some (.exit0 v38)
theorem f69n2_ok:∀(f:Nat)(bk4:Qr)(bf1 v38 v39:Int){o:f69n2O},f69n2 f bk4 bf1 v38 v39=some o→TL Tryd.prog Tryd.f69.ntmps 0 f (cL (cL (Qt 0 (Qt 1 (cL (Qt 5 c69)))))) (f69n2S bk4 bf1 v38 v39) (·=f69n2E bk4 bf1 o)
 | 0,_,_,_,_,o,h=>by rw [f69n2] at h; cases h
 | f+1,bk4,bf1,v38,v39,o,h=>by
  rw [f69n2] at h;refine TL.body (K:=fun s=>∃v38:Int,∃v39:Int,s=(f69n2S bk4 bf1 v38 v39)∧f69n2 f bk4 bf1 v38 v39=some o) ?_ (by rintro _ ⟨v38,v39,rfl,hk⟩; exact f69n2_ok f _ _ _ _ hk);rcases Qg h with ⟨h41,h⟩|⟨h41,h⟩
  ·obtain ⟨x44,h45,h⟩:=Qe h;exact rE Qi [j3,([],[(0,.idx (Int.toNat v39) ((cInt .i64) x44))],[]),j3,j3] [some true] [] [] [10,39,40,41] (.norm,(f69n2S bk4 bf1 (wr64 (v38+x44)) (wr64 (v39+1)))) (ap h41 (ap (Qm h45).1 (ap (Qag (cInt .i64) (Qm h45).2) an))) (Qad.norm ⟨(wr64 (v38+x44)),(wr64 (v39+1)),rfl,h⟩)
  ·obtain rfl:=Qf h;exact rK Qi 2 [j3] [some false] [] [] [10] (.exit 0) ((f69n2E bk4 bf1 (.exit0 v38)).2) (ap h41 an) (Qad.out rfl rfl)
noncomputable def f69n2L(bk4:Qr)(bf1:Int):List Int→Int→Int→Option f69n2O
 | [],v38,v39 =>
  some (.exit0 v38)
 | x0::rest,v38,v39 =>
  (f69n2L bk4 bf1 rest (wr64 (v38+x0)) (v39+1))
theorem f69n2L_eq(bk4:Qr)(bf1:Int):∀(rest:List Int)(f k:Nat)(v38:Int),(([bk4.e0,bk4.e1,bk4.e2,bk4.e3,bk4.e4,bk4.e5,bk4.e6,bk4.e7,bk4.e8,bk4.e9,bk4.e10,bk4.e11,bk4.e12].take (Int.toNat bf1)).drop 0).drop k=rest→(([bk4.e0,bk4.e1,bk4.e2,bk4.e3,bk4.e4,bk4.e5,bk4.e6,bk4.e7,bk4.e8,bk4.e9,bk4.e10,bk4.e11,bk4.e12].take (Int.toNat bf1)).drop 0).length≤maxLen→rest.length<f→f69n2 f bk4 bf1 v38 (k:Int)=f69n2L bk4 bf1 rest v38 (k:Int)
 | _,0,_,_,_,_,hf=>absurd hf (Nat.not_lt_zero _)
 | [],f+1,k,v38,hd,hm,hf=>by
  have hk:¬((k:Int)<((([bk4.e0,bk4.e1,bk4.e2,bk4.e3,bk4.e4,bk4.e5,bk4.e6,bk4.e7,bk4.e8,bk4.e9,bk4.e10,bk4.e11,bk4.e12].take (Int.toNat bf1)).drop 0).length:Int)):=by have:=Qbj hd; omega
  rw [f69n2,f69n2L];simp only [decide_eq_false hk,cond_false]
 | x0::rest,f+1,k,v38,hd,hm,hf=>by
  obtain ⟨hx,hlt,hd'⟩:=Qbn hd;have hk:(k:Int)<((([bk4.e0,bk4.e1,bk4.e2,bk4.e3,bk4.e4,bk4.e5,bk4.e6,bk4.e7,bk4.e8,bk4.e9,bk4.e10,bk4.e11,bk4.e12].take (Int.toNat bf1)).drop 0).length:Int):=by omega
  have hw:wr64 ((k:Int)+1)=(k:Int)+1:=wr64_of (by omega) (by unfold maxLen at hm; omega);have ih:∀(v38:Int),f69n2 f bk4 bf1 v38 ((k:Int)+1)=f69n2L bk4 bf1 rest v38 ((k:Int)+1):=fun v38=>f69n2L_eq bk4 bf1 rest f (k+1) v38 hd' hm (by simpa using hf);rw [f69n2,f69n2L];simp only [decide_eq_true hk,cond_true,at_nat,hx,Option.bind_some,hw,ih]
theorem f69n2_run(bk4:Qr)(bf1 v38:Int) (hm:(([bk4.e0,bk4.e1,bk4.e2,bk4.e3,bk4.e4,bk4.e5,bk4.e6,bk4.e7,bk4.e8,bk4.e9,bk4.e10,bk4.e11,bk4.e12].take (Int.toNat bf1)).drop 0).length≤maxLen):f69n2 FUEL bk4 bf1 v38 0=f69n2L bk4 bf1 (([bk4.e0,bk4.e1,bk4.e2,bk4.e3,bk4.e4,bk4.e5,bk4.e6,bk4.e7,bk4.e8,bk4.e9,bk4.e10,bk4.e11,bk4.e12].take (Int.toNat bf1)).drop 0) v38 0:=f69n2L_eq bk4 bf1 (([bk4.e0,bk4.e1,bk4.e2,bk4.e3,bk4.e4,bk4.e5,bk4.e6,bk4.e7,bk4.e8,bk4.e9,bk4.e10,bk4.e11,bk4.e12].take (Int.toNat bf1)).drop 0) FUEL 0 v38 List.drop_zero hm (lt_FUEL hm)
inductive f69n1O where
 | norm (v50:Int)
def f69n1E(bf1 bf2 bf3:Int)(bk4:Qr):f69n1O→Ex×Tr×Hp
 | .norm v50=>(.norm,mkS [(10,(jI v50))],[])
def f69n1S(bf1 bf2 bf3:Int)(bk4:Qr):Tr×Hp:=(mkS [(1,(jI bf1)),(10,(.pl (.int .i64 (wr64 ((wr64 (bf2+bf3))-1))))),(11,(.bp 0 0))],[some (.box 140 ((Qr.cells bk4).map .pl))])
noncomputable def f69n1(bf1 bf2 bf3:Int)(bk4:Qr):Option f69n1O :=
 req (cutB 0 bf1 13) <|
 (f69n2 FUEL bk4 bf1 (wr64 ((wr64 (bf2+bf3))-1)) 0).bind fun o47=>match o47 with
 | .exit0 v49=>some (.norm v49)
theorem f69n1_ok(bf1 bf2 bf3:Int)(bk4:Qr){o:f69n1O}(h:f69n1 bf1 bf2 bf3 bk4=some o):T Tryd.prog Tryd.f69.ntmps 0 (cL (Qt 5 c69)) (f69n1S bf1 bf2 bf3 bk4) (·=f69n1E bf1 bf2 bf3 bk4 o):=by
 unfold f69n1 at h;obtain ⟨h23,h⟩:=Qam h
 refine rN Qi 1 [([],[(1,.cut 0 (Int.toNat bf1))],[(1,.val (.pl (.sl .any 1 ((([bk4.e0,bk4.e1,bk4.e2,bk4.e3,bk4.e4,bk4.e5,bk4.e6,bk4.e7,bk4.e8,bk4.e9,bk4.e10,bk4.e11,bk4.e12].take (Int.toNat bf1)).drop 0).map (cInt .i64))))),(2,.val (.pl (.int .i64 ((([bk4.e0,bk4.e1,bk4.e2,bk4.e3,bk4.e4,bk4.e5,bk4.e6,bk4.e7,bk4.e8,bk4.e9,bk4.e10,bk4.e11,bk4.e12].take (Int.toNat bf1)).drop 0).length:Int))))])] [] [] [] [10,39,40,41] (mkS [(10,(.pl (.int .i64 (wr64 ((wr64 (bf2+bf3))-1))))),(39,(.pl (.sl .any 1 ((([bk4.e0,bk4.e1,bk4.e2,bk4.e3,bk4.e4,bk4.e5,bk4.e6,bk4.e7,bk4.e8,bk4.e9,bk4.e10,bk4.e11,bk4.e12].take (Int.toNat bf1)).drop 0).map (cInt .i64))))),(40,(.pl (.int .i64 ((([bk4.e0,bk4.e1,bk4.e2,bk4.e3,bk4.e4,bk4.e5,bk4.e6,bk4.e7,bk4.e8,bk4.e9,bk4.e10,bk4.e11,bk4.e12].take (Int.toNat bf1)).drop 0).length:Int)))),(41,(jI 0))],[]) (ap (cut_hn_1 h23) (ap (cut_hn_2 h23) (ap (cut_hn_3 h23) (ap (cut_hn_4 h23) (ap (congrArg (fun l=>AV.pl (.sl .any 1 l)) (cutA_cv (f:=PV.int .i64) (xs:=[bk4.e0,bk4.e1,bk4.e2,bk4.e3,bk4.e4,bk4.e5,bk4.e6,bk4.e7,bk4.e8,bk4.e9,bk4.e10,bk4.e11,bk4.e12]) (Int.toNat bf1) 0)) (ap (Qan (xs:=(([bk4.e0,bk4.e1,bk4.e2,bk4.e3,bk4.e4,bk4.e5,bk4.e6,bk4.e7,bk4.e8,bk4.e9,bk4.e10,bk4.e11,bk4.e12].take (Int.toNat bf1)).drop 0)) (c:=(cInt .i64))) an)))))) ?_
 refine rN Qi 0 [] [] [] [] [10,39,40,41] (f69n2S bk4 bf1 (wr64 ((wr64 (bf2+bf3))-1)) 0) an ?_;obtain ⟨o47,h48,h⟩:=Qe h;cases o47 with
 | exit0 v49 =>
  obtain rfl:=Qf h;exact T.last' (T.bl (i:=0) (by kernel_rfl) (by kernel_rfl) (f69n2_ok FUEL bk4 bf1 (wr64 ((wr64 (bf2+bf3))-1)) 0 h48)) (tds:=[]) (m:=[]) (keep:=[10]) (st2:=(f69n1E bf1 bf2 bf3 bk4 (.norm v49)).2) (by kernel_rfl) an rfl
inductive f69n0O where
 | ret (v56:Int) (v57:Int)
def f69n0E(a1 a2 a3:Int):f69n0O→Ex×Tr×Hp
 | .ret v56 v57=>(.ret,mkS [(6,(jI v56)),(7,(jI v57))],[])
def f69n0S(a1 a2 a3:Int):Tr×Hp:=(Qal [(jI a1),(jI a2),(jI a3)] 0 .leaf,[])
noncomputable def f69n0(a1 a2 a3:Int):Option f69n0O :=
 (f84 a1 a2).bind fun x6 =>
 bif decide (x6.2=0) then
  bif decide (a3<1) then
   some (.ret 0 2)
  else
   bif decide (x6.1<a3) then
    some (.ret 0 2)
   else
    (f85 a1).bind fun x16 =>
    (f86 a1).bind fun x20 =>
    (f69n1 a2 x16 a3 x20).bind fun o51=>match o51 with
    | .norm v53=>bif decide (99999<v53) then
      some (.ret 0 2)
     else
      some (.ret v53 0)
 else
  some (.ret 0 2)
theorem f69n0_ok(a1 a2 a3:Int){o:f69n0O}(h:f69n0 a1 a2 a3=some o):T Tryd.prog Tryd.f69.ntmps 0 c69 (f69n0S a1 a2 a3) (·=f69n0E a1 a2 a3 o):=by
 unfold f69n0 at h;obtain ⟨x6,h7,h⟩:=Qe h;rcases Qg h with ⟨h11,h⟩|⟨h11,h⟩
 ·rcases Qg h with ⟨h12,h⟩|⟨h12,h⟩
  ·obtain rfl:=Qf h;exact rK Qi 3 [j3,([],[jH 2 (.tup [(jI x6.1),(jI x6.2)])],[]),(jF [3,4]++jT [7,8,9],[(5,.bool false),(10,.bool true)],[]),j3] [none] [] [] [6,7] .ret ((f69n0E a1 a2 a3 (.ret 0 2)).2) (ap (f84_ok a1 a2 h7) (ap3 (Qq h11) (ap4 h12 an))) rfl
  ·rcases Qg h with ⟨h13,h⟩|⟨h13,h⟩
   ·obtain rfl:=Qf h;exact rK Qi 3 [j3,([],[jH 2 (.tup [(jI x6.1),(jI x6.2)])],[]),(jF [3,4,7,8,9],[(5,.bool false),(10,.bool false)],[]),j3] [some true] [] [] [6,7] .ret ((f69n0E a1 a2 a3 (.ret 0 2)).2) (ap (f84_ok a1 a2 h7) (ap3 (Qq h11) (ap4 h12 (ap h13 an)))) rfl
   ·obtain ⟨x16,h17,h⟩:=Qe h;obtain ⟨x20,h21,h⟩:=Qe h;refine rN Qi 5 [j3,([],[jH 2 (.tup [(jI x6.1),(jI x6.2)])],[]),(jF [3,4,7,8,9],[(5,.bool false),(10,.bool false)],[]),([],[jH 1 (jI x16)],[]),([],[jH 1 (jA Qr.cells x20)],[])] [some false] [] [0] [1,10,11] (f69n1S a2 x16 a3 x20) (ap (f84_ok a1 a2 h7) (ap3 (Qq h11) (ap4 h12 (ap h13 (ap (f85_ok a1 h17) (ap (f86_ok a1 h21) an)))))) ?_;obtain ⟨o51,h52,h⟩:=Qe h;cases o51 with
    | norm v53 =>
     refine T.oneN (by kernel_rfl) (f69n1_ok a2 x16 a3 x20 h52) (st2:=(f69n1E a2 x16 a3 x20 (.norm v53)).2) rfl ?_;rcases Qg h with ⟨h55,h⟩|⟨h55,h⟩
     ·obtain rfl:=Qf h;exact rK Qi 1 [j3,j3] [some true] [] [] [6,7] .ret ((f69n0E a1 a2 a3 (.ret 0 2)).2) (ap h55 an) rfl
     ·obtain rfl:=Qf h;exact rE Qi [j3,j3] [some false] [] [] [6,7] (.ret,(f69n0E a1 a2 a3 (.ret v53 0)).2) (ap h55 an) rfl
 ·obtain rfl:=Qf h;exact rK Qi 3 [j3,([],[jH 2 (.tup [(jI x6.1),(jI x6.2)])],[]),([(3,true),(4,true)],[(5,.bool true)],[]),j3] [none] [] [] [6,7] .ret ((f69n0E a1 a2 a3 (.ret 0 2)).2) (ap (f84_ok a1 a2 h7) (ap3 (Qaf h11) an)) rfl
noncomputable def f69(a1 a2 a3:Int):Option (Int×Int):=(f69n0 a1 a2 a3).bind fun o=>match o with
 | .ret v56 v57=>some (v56,v57)
theorem f69_ok(a1 a2 a3:Int){r:Int×Int}(h:f69 a1 a2 a3=some r):Ql Tryd.prog false 69 [(jI a1),(jI a2),(jI a3)] [] (.tup [(jI r.1),(jI r.2)]) []:=by
 unfold f69 at h;obtain ⟨o,ho,h⟩:=Qe h;cases o with
 | ret v56 v57 =>
  obtain rfl:=Qf h;exact Ql.plain Qi (f:=Tryd.f69) (c:=c69) (by kernel_rfl) (by kernel_rfl) (by kernel_rfl) (by kernel_rfl) ((f69n0_ok a1 a2 a3 ho).mono fun r e=>by subst e; exact ⟨.inl rfl,(.tup [(jI v56),(jI v57)]),(.tup [(jI v56),(jI v57)]),by kernel_rfl,by kernel_rfl,((Wk.refl _):Wk (.tup [(jI v56),(jI v57)]) (.tup [(jI v56),(jI v57)]))⟩)

noncomputable def c52:Code:=Tryd.f52.body.getD .skip
inductive f52n0O where
 | ret (v57:Int) (v58:Int)
def f52n0E(a1:ByteArray):f52n0O→Ex×Tr×Hp
 | .ret v57 v58=>(.ret,mkS [(2,(jI v57)),(3,(jI v58))],[])
def f52n0S(a1:ByteArray):Tr×Hp:=(Qal [(jS a1)] 0 .leaf,[])
noncomputable def f52n0(a1:ByteArray):Option f52n0O :=
 bif decide ((a1.size:Int)=10) then
  (at? a1.data.toList 4).bind fun x10 =>
  bif decide ((x10.toNat:Int)=45) then
   (at? a1.data.toList 7).bind fun x13 =>
   bif decide ((x13.toNat:Int)=45) then
    req (cutB 0 4 a1.size) <|
    (f68 (scut a1 0 (Int.toNat 4))).bind fun x20 =>
    req (cutB 5 7 a1.size) <|
    (f68 (scut a1 (Int.toNat 5) (Int.toNat 7))).bind fun x37 =>
    req (cutB 8 (a1.size:Int) a1.size) <|
    (f68 (scut a1 (Int.toNat 8) a1.size)).bind fun x43 =>
    bif x20.2 then
     bif x37.2 then
      bif x43.2 then
       (f69 x20.1 x37.1 x43.1).bind fun x55 =>
       some (.ret x55.1 x55.2)
      else
       some (.ret 0 12)
     else
      some (.ret 0 12)
    else
     some (.ret 0 12)
   else
    some (.ret 0 12)
  else
   some (.ret 0 12)
 else
  some (.ret 0 12)
theorem f52n0_ok(a1:ByteArray){o:f52n0O}(h:f52n0 a1=some o):T Tryd.prog Tryd.f52.ntmps 0 c52 (f52n0S a1) (·=f52n0E a1 o):=by
 unfold f52n0 at h;rcases Qg h with ⟨h9,h⟩|⟨h9,h⟩
 ·obtain ⟨x10,h11,h⟩:=Qe h;rcases Qg h with ⟨h12,h⟩|⟨h12,h⟩
  ·obtain ⟨x13,h14,h⟩:=Qe h;rcases Qg h with ⟨h15,h⟩|⟨h15,h⟩
   ·obtain ⟨h19,h⟩:=Qam h;obtain ⟨x20,h21,h⟩:=Qe h;refine rN Qi 3 [j3,(jF [4,5,6,9,10,11],[(5,.byte (Int.toNat 4) x10),(7,.bool false),(10,.byte (Int.toNat 7) x13),(12,.bool false)],[]),([],[(1,.cut 0 (Int.toNat 4)),jH 2 (.tup [(jI x20.1),(jB x20.2)])],[])] [some false] [] [] [0,4,5] (mkS [(0,(jS a1)),(4,(jI x20.1)),(5,(jB x20.2))],[]) (ap2 (Qq h9) (ap (Qm h11).1 (ap (Qm h11).2 (ap2 (Qq h9) (ap2 (Qq h12) (ap (Qm h14).1 (ap (Qm h14).2 (ap2 (Qq h12) (ap (Qq h15) (ap (cut_hn_1 h19) (ap (cut_hn_2 h19) (ap (cut_hn_3 h19) (ap (cut_hn_4 h19) (ap (f68_ok (scut a1 0 (Int.toNat 4)) h21) an)))))))))))))) ?_;obtain ⟨h36,h⟩:=Qam h;obtain ⟨x37,h38,h⟩:=Qe h;obtain ⟨h42,h⟩:=Qam h;obtain ⟨x43,h44,h⟩:=Qe h;rcases Qg h with ⟨h48,h⟩|⟨h48,h⟩
    ·rcases Qg h with ⟨h49,h⟩|⟨h49,h⟩
     ·rcases Qg h with ⟨h50,h⟩|⟨h50,h⟩
      ·obtain ⟨x55,h56,h⟩:=Qe h;obtain rfl:=Qf h;exact rE Qi [([],[(1,.cut (Int.toNat 5) (Int.toNat 7)),jH 2 (.tup [(jI x37.1),(jB x37.2)])],[]),([],[(1,.cut (Int.toNat 8) a1.size),jH 2 (.tup [(jI x43.1),(jB x43.2)])],[]),(jF [3,4,7,8],[(5,.bool false),(9,.bool false)],[]),([],[jH 3 (.tup [(jI x55.1),(jI x55.2)])],[])] [some false] [] [] [2,3] (.ret,(f52n0E a1 (.ret x55.1 x55.2)).2) (ap (cut_hl_1 h36) (ap (cut_hl_2 h36) (ap (cut_hl_3 h36) (ap (cut_hl_4 h36) (ap (f68_ok (scut a1 (Int.toNat 5) (Int.toNat 7)) h38) (ap (cut_nl_1 h42) (ap (cut_nl_2 h42) (ap (cut_nl_3 h42) (ap (cut_nl_4 h42) (ap (f68_ok (scut a1 (Int.toNat 8) a1.size) h44) (ap3 (Qq h48) (ap3 (Qq h49) (ap (Qq h50) (ap (f69_ok x20.1 x37.1 x43.1 h56) an)))))))))))))) rfl
      ·obtain rfl:=Qf h;exact rK Qi 3 [([],[(1,.cut (Int.toNat 5) (Int.toNat 7)),jH 2 (.tup [(jI x37.1),(jB x37.2)])],[]),([],[(1,.cut (Int.toNat 8) a1.size),jH 2 (.tup [(jI x43.1),(jB x43.2)])],[]),(jF [3,4,7,8],[(5,.bool false),(9,.bool false)],[]),j3] [some true] [] [] [2,3] .ret ((f52n0E a1 (.ret 0 12)).2) (ap (cut_hl_1 h36) (ap (cut_hl_2 h36) (ap (cut_hl_3 h36) (ap (cut_hl_4 h36) (ap (f68_ok (scut a1 (Int.toNat 5) (Int.toNat 7)) h38) (ap (cut_nl_1 h42) (ap (cut_nl_2 h42) (ap (cut_nl_3 h42) (ap (cut_nl_4 h42) (ap (f68_ok (scut a1 (Int.toNat 8) a1.size) h44) (ap3 (Qq h48) (ap3 (Qq h49) (ap (Qaf h50) an))))))))))))) rfl
     ·obtain rfl:=Qf h;exact rK Qi 3 [([],[(1,.cut (Int.toNat 5) (Int.toNat 7)),jH 2 (.tup [(jI x37.1),(jB x37.2)])],[]),([],[(1,.cut (Int.toNat 8) a1.size),jH 2 (.tup [(jI x43.1),(jB x43.2)])],[]),(jF [3,4]++jT [7,8],[(5,.bool false),(9,.bool true)],[]),j3] [none] [] [] [2,3] .ret ((f52n0E a1 (.ret 0 12)).2) (ap (cut_hl_1 h36) (ap (cut_hl_2 h36) (ap (cut_hl_3 h36) (ap (cut_hl_4 h36) (ap (f68_ok (scut a1 (Int.toNat 5) (Int.toNat 7)) h38) (ap (cut_nl_1 h42) (ap (cut_nl_2 h42) (ap (cut_nl_3 h42) (ap (cut_nl_4 h42) (ap (f68_ok (scut a1 (Int.toNat 8) a1.size) h44) (ap3 (Qq h48) (ap3 (Qaf h49) an)))))))))))) rfl
    ·obtain rfl:=Qf h;exact rK Qi 3 [([],[(1,.cut (Int.toNat 5) (Int.toNat 7)),jH 2 (.tup [(jI x37.1),(jB x37.2)])],[]),([],[(1,.cut (Int.toNat 8) a1.size),jH 2 (.tup [(jI x43.1),(jB x43.2)])],[]),([(3,true),(4,true)],[(5,.bool true)],[]),j3] [none] [] [] [2,3] .ret ((f52n0E a1 (.ret 0 12)).2) (ap (cut_hl_1 h36) (ap (cut_hl_2 h36) (ap (cut_hl_3 h36) (ap (cut_hl_4 h36) (ap (f68_ok (scut a1 (Int.toNat 5) (Int.toNat 7)) h38) (ap (cut_nl_1 h42) (ap (cut_nl_2 h42) (ap (cut_nl_3 h42) (ap (cut_nl_4 h42) (ap (f68_ok (scut a1 (Int.toNat 8) a1.size) h44) (ap3 (Qaf h48) an))))))))))) rfl
   ·obtain rfl:=Qf h;exact rK Qi 2 [j3,(jF [4,5,6,9,10,11],[(5,.byte (Int.toNat 4) x10),(7,.bool false),(10,.byte (Int.toNat 7) x13),(12,.bool false)],[]),j3] [some true] [] [] [2,3] .ret ((f52n0E a1 (.ret 0 12)).2) (ap2 (Qq h9) (ap (Qm h11).1 (ap (Qm h11).2 (ap2 (Qq h9) (ap2 (Qq h12) (ap (Qm h14).1 (ap (Qm h14).2 (ap2 (Qq h12) (ap (Qaf h15) an))))))))) rfl
  ·obtain rfl:=Qf h;exact rK Qi 2 [j3,(jF [4,5,6]++jT [9,10,11],[(5,.byte (Int.toNat 4) x10),(7,.bool false),(12,.bool true)],[]),j3] [none] [] [] [2,3] .ret ((f52n0E a1 (.ret 0 12)).2) (ap2 (Qq h9) (ap (Qm h11).1 (ap (Qm h11).2 (ap2 (Qq h9) (ap4 (Qaf h12) an))))) rfl
 ·obtain rfl:=Qf h;exact rK Qi 2 [j3,(jT [4,5,6],[(7,.bool true)],[]),j3] [none] [] [] [2,3] .ret ((f52n0E a1 (.ret 0 12)).2) (ap4 (Qaf h9) an) rfl
noncomputable def f52(a1:ByteArray):Option (Int×Int):=(f52n0 a1).bind fun o=>match o with
 | .ret v57 v58=>some (v57,v58)
theorem f52_ok(a1:ByteArray){r:Int×Int}(h:f52 a1=some r):Ql Tryd.prog false 52 [(jS a1)] [] (.tup [(jI r.1),(jI r.2)]) []:=by
 unfold f52 at h;obtain ⟨o,ho,h⟩:=Qe h;cases o with
 | ret v57 v58 =>
  obtain rfl:=Qf h;exact Ql.plain Qi (f:=Tryd.f52) (c:=c52) (by kernel_rfl) (by kernel_rfl) (by kernel_rfl) (by kernel_rfl) ((f52n0_ok a1 ho).mono fun r e=>by subst e; exact ⟨.inl rfl,(.tup [(jI v57),(jI v58)]),(.tup [(jI v57),(jI v58)]),by kernel_rfl,by kernel_rfl,((Wk.refl _):Wk (.tup [(jI v57),(jI v58)]) (.tup [(jI v57),(jI v58)]))⟩)

noncomputable def c23:Code:=Tryd.f23.body.getD .skip
inductive f23n0O where
 | ret (v20:Int)
def f23n0E(a1:Qb):f23n0O→Ex×Tr×Hp
 | .ret v20=>(.ret,mkS [(2,(jI v20))],[])
def f23n0S(a1:Qb):Tr×Hp:=(Qal [(jA Qb.cells a1)] 0 .leaf,[])
noncomputable def f23n0(a1:Qb):Option f23n0O :=
 (f51 a1.Text Qbf).bind fun x11 =>
 bif x11.2 then
  bif decide (10≤(x11.1.size:Int)) then
   req (cutB 0 10 x11.1.size) <|
   (f52 (scut x11.1 0 (Int.toNat 10))).bind fun x16 =>
   bif decide (x16.2=0) then
    bif decide (x16.1≤a1.Day) then
     some (.ret x16.1)
    else
     some (.ret a1.Day)
   else
    some (.ret a1.Day)
  else
   some (.ret a1.Day)
 else
  some (.ret a1.Day)
theorem f23n0_ok(a1:Qb){o:f23n0O}(h:f23n0 a1=some o):T Tryd.prog Tryd.f23.ntmps 0 c23 (f23n0S a1) (·=f23n0E a1 o):=by
 unfold f23n0 at h;obtain ⟨x11,h12,h⟩:=Qe h;rcases Qg h with ⟨h13,h⟩|⟨h13,h⟩
 ·rcases Qg h with ⟨h14,h⟩|⟨h14,h⟩
  ·obtain ⟨h15,h⟩:=Qam h;obtain ⟨x16,h17,h⟩:=Qe h;rcases Qg h with ⟨h18,h⟩|⟨h18,h⟩
   ·rcases Qg h with ⟨h19,h⟩|⟨h19,h⟩
    ·obtain rfl:=Qf h;exact rK Qi 2 [j3,([],[jH 2 (.tup [(jS x11.1),(jB x11.2)])],[]),(jT [2,3,4],[(5,.bool true)],[]),([],[(1,.cut 0 (Int.toNat 10)),jH 2 (.tup [(jI x16.1),(jI x16.2)])],[]),(jT [3,4,5,6],[(7,.bool true)],[]),j3] [some true,some true] [] [] [2] .ret ((f23n0E a1 (.ret x16.1)).2) (ap (f51_ok a1.Text Qbf h12) (ap4 h13 (ap h14 (ap (cut_hn_1 h15) (ap (cut_hn_2 h15) (ap (cut_hn_3 h15) (ap (cut_hn_4 h15) (ap (f52_ok (scut x11.1 0 (Int.toNat 10)) h17) (ap h18 (ap4 h18 (ap h19 an))))))))))) rfl
    ·obtain rfl:=Qf h;exact rE Qi [j3,([],[jH 2 (.tup [(jS x11.1),(jB x11.2)])],[]),(jT [2,3,4],[(5,.bool true)],[]),([],[(1,.cut 0 (Int.toNat 10)),jH 2 (.tup [(jI x16.1),(jI x16.2)])],[]),(jT [3,4,5,6],[(7,.bool true)],[]),j3] [some true,some false] [] [] [2] (.ret,(f23n0E a1 (.ret a1.Day)).2) (ap (f51_ok a1.Text Qbf h12) (ap4 h13 (ap h14 (ap (cut_hn_1 h15) (ap (cut_hn_2 h15) (ap (cut_hn_3 h15) (ap (cut_hn_4 h15) (ap (f52_ok (scut x11.1 0 (Int.toNat 10)) h17) (ap h18 (ap4 h18 (ap h19 an))))))))))) rfl
   ·obtain rfl:=Qf h;exact rE Qi [j3,([],[jH 2 (.tup [(jS x11.1),(jB x11.2)])],[]),(jT [2,3,4],[(5,.bool true)],[]),([],[(1,.cut 0 (Int.toNat 10)),jH 2 (.tup [(jI x16.1),(jI x16.2)])],[]),(jF [3,4,5,6],[(7,.bool false)],[]),j3] [some true,none] [] [] [2] (.ret,(f23n0E a1 (.ret a1.Day)).2) (ap (f51_ok a1.Text Qbf h12) (ap4 h13 (ap h14 (ap (cut_hn_1 h15) (ap (cut_hn_2 h15) (ap (cut_hn_3 h15) (ap (cut_hn_4 h15) (ap (f52_ok (scut x11.1 0 (Int.toNat 10)) h17) (ap h18 (ap4 h18 an)))))))))) rfl
  ·obtain rfl:=Qf h;exact rE Qi [j3,([],[jH 2 (.tup [(jS x11.1),(jB x11.2)])],[]),(jT [2,3,4],[(5,.bool true)],[]),j3] [some false] [] [] [2] (.ret,(f23n0E a1 (.ret a1.Day)).2) (ap (f51_ok a1.Text Qbf h12) (ap4 h13 (ap h14 an))) rfl
 ·obtain rfl:=Qf h;exact rE Qi [j3,([],[jH 2 (.tup [(jS x11.1),(jB x11.2)])],[]),(jF [2,3,4],[(5,.bool false)],[]),j3] [none] [] [] [2] (.ret,(f23n0E a1 (.ret a1.Day)).2) (ap (f51_ok a1.Text Qbf h12) (ap4 h13 an)) rfl
noncomputable def f23(a1:Qb):Option Int:=(f23n0 a1).bind fun o=>match o with
 | .ret v20=>some v20
theorem Qas(a1:Qb){r:Int}(h:f23 a1=some r):Ql Tryd.prog false 23 [(jA Qb.cells a1)] [] (jI r) []:=by
 unfold f23 at h;obtain ⟨o,ho,h⟩:=Qe h;cases o with
 | ret v20 =>
  obtain rfl:=Qf h;exact Ql.plain Qi (f:=Tryd.f23) (c:=c23) (by kernel_rfl) (by kernel_rfl) (by kernel_rfl) (by kernel_rfl) ((f23n0_ok a1 ho).mono fun r e=>by subst e; exact ⟨.inl rfl,(jI v20),(jI v20),by kernel_rfl,by kernel_rfl,((Wk.refl _):Wk (jI v20) (jI v20))⟩)
end Go.Proofs.YtfeklaffeigilaaDoor
