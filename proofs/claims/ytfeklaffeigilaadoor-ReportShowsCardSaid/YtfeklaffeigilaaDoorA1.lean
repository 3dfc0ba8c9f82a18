/- Several texts in one. No condition. -/
import Derived.Test.YtfeklaffeigilaaDoorProg
import Derived.Test.YtfeklaffeigilaaDoorTU
import Derived.Shelf.Strings.OnBuilder
import Derived.Shelf.Strconv.Itoa3
import Derived.Test.YtfeklaffeigilaaDoorTy
import Derived.Test.YtfeklaffeigilaaDoorTV
import Derived.Test.YtfeklaffeigilaaDoorSo
namespace Go.Proofs.YtfeklaffeigilaaDoor
open Go.Shelf Go.RowKit
set_option linter.unusedVariables false
set_option linter.unusedSimpArgs false
def bu_r:Go.Shelf.Ren:=⟨fun | 156=>33 | 165=>57 | 166=>32 | 169=>34 | 240=>56 | 241=>72 | 276=>71 | 277=>91 | n=>n,fun | 31=>72 | 37=>69 | 70=>68 | 72=>71 | 75=>76 | 76=>77 | 80=>81 | 127=>111 | 164=>127 | n=>n,fun n=>n⟩
theorem bu_l:Lays.n156 Tryd.prog bu_r:={
 mixed:=by kernel_rfl,
 f156:=Tryd.func33.trans (congrArg some (by kernel_rfl)),
 f165:=Tryd.func57.trans (congrArg some (by kernel_rfl)),
 f166:=Tryd.func32.trans (congrArg some (by kernel_rfl)),
 f169:=Tryd.func34.trans (congrArg some (by kernel_rfl)),
 f240:=Tryd.func56.trans (congrArg some (by kernel_rfl)),
 f241:=Tryd.func72.trans (congrArg some (by kernel_rfl)),
 f276:=Tryd.func71.trans (congrArg some (by kernel_rfl)),
 f277:=Tryd.func91.trans (congrArg some (by kernel_rfl)),
 t0:=Tryd.underlying0,
 a0:=Tryd.isAgg0,
 z0:=Tryd.sizeOf0,
 v0:=Tryd.zeroValue0,
 t3:=Tryd.underlying3,
 a3:=Tryd.isAgg3,
 z3:=Tryd.sizeOf3,
 v3:=Tryd.zeroValue3,
 t4:=Tryd.underlying4,
 a4:=Tryd.isAgg4,
 z4:=Tryd.sizeOf4,
 v4:=Tryd.zeroValue4,
 t9:=Tryd.underlying9,
 a9:=Tryd.isAgg9,
 z9:=Tryd.sizeOf9,
 v9:=Tryd.zeroValue9,
 t20:=Tryd.underlying20,
 a20:=Tryd.isAgg20,
 z20:=Tryd.sizeOf20,
 v20:=Tryd.zeroValue20,
 t31:=Tryd.underlying72,
 a31:=Tryd.isAgg72,
 z31:=Tryd.sizeOf72,
 v31:=Tryd.zeroValue72,
 t37:=Tryd.underlying69,
 a37:=Tryd.isAgg69,
 z37:=Tryd.sizeOf69,
 v37:=Tryd.zeroValue69,
 t70:=Tryd.underlying68,
 a70:=Tryd.isAgg68,
 z70:=Tryd.sizeOf68,
 v70:=Tryd.zeroValue68,
 t72:=Tryd.underlying71,
 a72:=Tryd.isAgg71,
 z72:=Tryd.sizeOf71,
 v72:=Tryd.zeroValue71,
 t75:=Tryd.underlying76,
 a75:=Tryd.isAgg76,
 z75:=Tryd.sizeOf76,
 v75:=Tryd.zeroValue76,
 t76:=Tryd.underlying77,
 a76:=Tryd.isAgg77,
 z76:=Tryd.sizeOf77,
 v76:=Tryd.zeroValue77,
 t127:=Tryd.underlying111,
 a127:=Tryd.isAgg111,
 z127:=Tryd.sizeOf111,
 v127:=Tryd.zeroValue111,
 t164:=Tryd.underlying127,
 a164:=Tryd.isAgg127,
 z164:=Tryd.sizeOf127,
 v164:=Tryd.zeroValue127 }
def it_r:Go.Shelf.Ren:=⟨fun | 129=>103 | 171=>31 | 243=>55 | 246=>70 | 283=>87 | 284=>88 | 285=>89 | 286=>90 | 317=>107 | 318=>108 | 319=>109 | 320=>110 | 337=>116 | 338=>117 | n=>n,fun | 37=>69 | 46=>135 | 51=>160 | 53=>143 | 171=>142 | 173=>146 | 212=>162 | 213=>163 | 232=>173 | 233=>174 | n=>n,fun | 17=>0 | 18=>2 | 19=>3 | n=>n⟩
theorem it_l:LaysM.n171 Tryd.prog it_r:={
 mixed:=by kernel_rfl,
 f129:=Tryd.func103.trans (congrArg some (by kernel_rfl)),
 f171:=Tryd.func31.trans (congrArg some (by kernel_rfl)),
 f243:=Tryd.func55.trans (congrArg some (by kernel_rfl)),
 f246:=Tryd.func70.trans (congrArg some (by kernel_rfl)),
 f283:=Tryd.func87.trans (congrArg some (by kernel_rfl)),
 f284:=Tryd.func88.trans (congrArg some (by kernel_rfl)),
 f285:=Tryd.func89.trans (congrArg some (by kernel_rfl)),
 f286:=Tryd.func90.trans (congrArg some (by kernel_rfl)),
 f317:=Tryd.func107.trans (congrArg some (by kernel_rfl)),
 f318:=Tryd.func108.trans (congrArg some (by kernel_rfl)),
 f319:=Tryd.func109.trans (congrArg some (by kernel_rfl)),
 f320:=Tryd.func110.trans (congrArg some (by kernel_rfl)),
 f337:=Tryd.func116.trans (congrArg some (by kernel_rfl)),
 f338:=Tryd.func117.trans (congrArg some (by kernel_rfl)),
 t0:=Tryd.underlying0,
 a0:=Tryd.isAgg0,
 z0:=Tryd.sizeOf0,
 v0:=Tryd.zeroValue0,
 t2:=Tryd.underlying2,
 a2:=Tryd.isAgg2,
 z2:=Tryd.sizeOf2,
 v2:=Tryd.zeroValue2,
 t3:=Tryd.underlying3,
 a3:=Tryd.isAgg3,
 z3:=Tryd.sizeOf3,
 v3:=Tryd.zeroValue3,
 t4:=Tryd.underlying4,
 a4:=Tryd.isAgg4,
 z4:=Tryd.sizeOf4,
 v4:=Tryd.zeroValue4,
 t5:=Tryd.underlying5,
 a5:=Tryd.isAgg5,
 z5:=Tryd.sizeOf5,
 v5:=Tryd.zeroValue5,
 t9:=Tryd.underlying9,
 a9:=Tryd.isAgg9,
 z9:=Tryd.sizeOf9,
 v9:=Tryd.zeroValue9,
 t20:=Tryd.underlying20,
 a20:=Tryd.isAgg20,
 z20:=Tryd.sizeOf20,
 v20:=Tryd.zeroValue20,
 t37:=Tryd.underlying69,
 a37:=Tryd.isAgg69,
 z37:=Tryd.sizeOf69,
 v37:=Tryd.zeroValue69,
 t46:=Tryd.underlying135,
 a46:=Tryd.isAgg135,
 z46:=Tryd.sizeOf135,
 v46:=Tryd.zeroValue135,
 t51:=Tryd.underlying160,
 a51:=Tryd.isAgg160,
 z51:=Tryd.sizeOf160,
 v51:=Tryd.zeroValue160,
 t53:=Tryd.underlying143,
 a53:=Tryd.isAgg143,
 z53:=Tryd.sizeOf143,
 v53:=Tryd.zeroValue143,
 t171:=Tryd.underlying142,
 a171:=Tryd.isAgg142,
 z171:=Tryd.sizeOf142,
 v171:=Tryd.zeroValue142,
 t173:=Tryd.underlying146,
 a173:=Tryd.isAgg146,
 z173:=Tryd.sizeOf146,
 v173:=Tryd.zeroValue146,
 t212:=Tryd.underlying162,
 a212:=Tryd.isAgg162,
 z212:=Tryd.sizeOf162,
 v212:=Tryd.zeroValue162,
 t213:=Tryd.underlying163,
 a213:=Tryd.isAgg163,
 z213:=Tryd.sizeOf163,
 t232:=Tryd.underlying173,
 a232:=Tryd.isAgg173,
 z232:=Tryd.sizeOf173,
 v232:=Tryd.zeroValue173,
 t233:=Tryd.underlying174,
 a233:=Tryd.isAgg174,
 z233:=Tryd.sizeOf174,
 v233:=Tryd.zeroValue174,
 g17:=by kernel_rfl,
 g18:=by kernel_rfl,
 g19:=by kernel_rfl,
 i0:=by kernel_rfl,
 i2:=by kernel_rfl,
 i3:=by kernel_rfl,
 i4:=by kernel_rfl,
 i5:=by kernel_rfl,
 i9:=by kernel_rfl,
 i20:=by kernel_rfl,
 i37:=by kernel_rfl,
 i46:=by kernel_rfl,
 i51:=by kernel_rfl,
 i53:=by kernel_rfl,
 i171:=by kernel_rfl,
 i173:=by kernel_rfl,
 i212:=by kernel_rfl,
 i232:=by kernel_rfl,
 i233:=by kernel_rfl,
 m17:=by kernel_rfl,
 m18:=by kernel_rfl,
 m19:=by kernel_rfl }
theorem bu_x:Builder.Extra Tryd.prog bu_r:={
 sizeBuilder:=by kernel_rfl,
 liesBuilder:=by kernel_rfl,
 t5:=Tryd.underlying5,
 a5:=Tryd.isAgg5,
 z5:=Tryd.sizeOf5,
 v5:=Tryd.zeroValue5,
 infoByte:=by kernel_rfl,
 cellsByte:=by kernel_rfl,
 sizeByte:=by kernel_rfl,
 neB5:=by decide }
abbrev ptrB(b:Nat):Value:=.pointer (some ⟨b,0,none⟩)
section
variable {P:Program} {ρ:Go.Shelf.Ren} {w w':World}
theorem wpl_app{ops:Array Oper}{rest:List Oper}{o:Oper}{a:Act}{Q:Exit→Act→World→Prop}(hgd:o.guard=none)(sl x:Operand)(t u:TypeId)
  (ho:o.op = .call { callee:=.builtin .append,args:=#[sl,x],argTypes:=#[t,u] }) {v v':Value} {s:ByteArray} (hs:a.eval sl=v) (hx:a.eval x = .string s)
  (hr:(Builtin.append_ #[t,u] o.type #[v,.string s]).run P w = .ok v' w') (h:wpList P ops Q rest (a.put o.dst v') w'):wpList P ops Q (o::rest) a w:=by
 refine wpList_plain hgd fun K hK=>?_;unfold Oper.wp execOp;simp only [ho,resolve,invoke,builtin,Sem.run_bind,Sem.run_pure,Result.andThen_ok,List.map_toArray,List.map_cons,List.map_nil,hs,hx,hr];exact hK _ _ h
set_option maxHeartbeats 2000000 in
set_option maxRecDepth 100000 in
theorem ws_run(L:Lays.n166 P ρ)(X:Builder.Extra P ρ)(b:Nat)(s:ByteArray)(w w1 w2:World)(v:Value)(A:Option Addr)(n c:Nat)
  (hcc:Calls P (ρ.f 240) #[ptrB b] w fun e w'=>e = .returned (.tuple #[])∧w'=w1)
  (hb1:w1.heap[b]?=some (.cells #[ptrB b,v] (ρ.t 72) (0,0)))
  (hr:∀ty,(Builtin.append_ #[ρ.t 37,ρ.t 9] ty #[v,.string s]).run P w1 = .ok (.slice A n c) w2)
  (hb2:w2.heap[b]?=some (.cells #[ptrB b,v] (ρ.t 72) (0,0))) :
  Calls P (ρ.f 166) #[ptrB b,.string s] w fun e w'=>e = .returned (.tuple #[.int .i64 s.size,.nilIface])∧w'=w2.setCell ⟨b,1,none⟩ (.slice A n c):=by
 have mixed:=L.mixed;have t72:=L.t72; have a72:=L.a72; have z72:=L.z72; have v72:=L.v72; have u72:=run_underlying L.t72;have t70:=L.t70; have a70:=L.a70; have z70:=L.z70; have v70:=L.v70; have u70:=run_underlying L.t70;have t37:=L.t37; have a37:=L.a37; have z37:=L.z37; have v37:=L.v37; have u37:=run_underlying L.t37;have t3:=L.t3; have a3:=L.a3; have z3:=L.z3; have v3:=L.v3; have u3:=run_underlying L.t3;have t9:=L.t9; have a9:=L.a9; have z9:=L.z9; have v9:=L.v9; have u9:=run_underlying L.t9;have t4:=L.t4; have a4:=L.a4; have z4:=L.z4; have v4:=L.v4; have u4:=run_underlying L.t4;have t5:=X.t5; have a5:=X.a5; have z5:=X.z5; have v5:=X.v5; have u5:=run_underlying X.t5;have e240:∀args w,(callFunc (ρ.f 240) args).run P w = .ok (.enter (ρ.f 240) args) w:=Qbs L.f240 (by kernel_rfl) rfl;have c0:w1.cell? ⟨b,0,none⟩=some (ptrB b):=by rw [Lib.cell_of_heap hb1]; rfl
 have c1:w1.cell? ⟨b,1,none⟩=some v:=by rw [Lib.cell_of_heap hb1]; rfl
 have d0:w2.cell? ⟨b,0,none⟩=some (ptrB b):=by rw [Lib.cell_of_heap hb2]; rfl
 have d1:w2.cell? ⟨b,1,none⟩=some v:=by rw [Lib.cell_of_heap hb2]; rfl
 have f1:w2.frozen? ⟨b,1,none⟩=false:=Lib.frozen_of_heap hb2 1;have HR:Hid (∀ty,(Builtin.append_ #[ρ.t 37,ρ.t 9] ty #[v,.string s]).run P w1 = .ok (.slice A n c) w2):=hr
 clear hr
 go_enter L.f166,Body.n166_ntmps ρ
 go_wp2_with (go_at_fn (ρ.f 240); refine hcc.mono ?_)
 rintro e w' ⟨rfl,rfl⟩
 go_wp2_with (at_builtin; refine wpl_app rfl _ _ (ρ.t 37) (ρ.t 9) rfl rfl rfl (HR.out _) ?_)
 go_wp2
 go_ret2
 exact ⟨rfl,rfl⟩
end
section
variable {P:Program} {ρ:Go.Shelf.Ren} {w w':World}
set_option maxHeartbeats 1000000 in
set_option maxRecDepth 100000 in
theorem str_run(L:Lays.n169 P ρ)(X:Builder.Extra P ρ)(b g cap:Nat)(p:Value)(cur:Array Value)(l:List UInt8)(w:World)(h0:l≠[])
  (hb:w.heap[b]?=some (.cells #[p,.slice (some ⟨g,0,none⟩) l.length cap] (ρ.t 72) (0,0))) (hg:w.heap[g]?=some (.cells cur (ρ.t 5) (0,0)))
  (hnc:l.length≤cap) (hcm:cap≤maxLen) (hcs:cur.size=cap) (htake:cur.toList.take l.length=Lib.byteCells l) :
  Calls P (ρ.f 169) #[ptrB b] w fun e w'=>e = .returned (.string ⟨l.toArray⟩)∧w'=w.drew.freeze ⟨g,0,none⟩ l.length:=by
 have hl0:l.length≠0:=by simpa using h0
 have c1:w.drew.cell? ⟨b,1,none⟩=some (.slice (some ⟨g,0,none⟩) l.length cap):=by
  have:w.drew.heap[b]?=some (.cells #[p,.slice (some ⟨g,0,none⟩) l.length cap] (ρ.t 72) (0,0)):=hb;rw [Lib.cell_of_heap this]; rfl
 have hSD:(Builtin.unsafeSliceData_ #[(ρ.t 37)] (ρ.t 127) #[.slice (some ⟨g,0,none⟩) l.length cap]).run P w.drew = .ok (.pointer (some ⟨g,0,none⟩)) w.drew :=
  Lib.run_unsafeSliceData_row _ _ _ _ _ _ (by omega)
 have hUS:(Builtin.unsafeString_ #[(ρ.t 127),(ρ.t 3)] (ρ.t 9) #[.pointer (some ⟨g,0,none⟩),.int .i64 l.length]).run P w.drew = .ok (.string ⟨l.toArray⟩) (w.drew.freeze ⟨g,0,none⟩ l.length):=by
  have hg':w.drew.heap[g]?=some (.cells cur (ρ.t 5) (0,0)):=hg;refine Lib.run_unsafeString_row w.drew (ρ.t 127) (ρ.t 3) (ρ.t 9) (ρ.t 5) L.t127 X.cellsByte g cur.size (by simp [World.shape?,hg']) l h0 (by omega) (by unfold maxLen at hcm; omega) ?_;intro j x hx;have e:(⟨g,0,none⟩:Addr).add j=⟨g,j,none⟩:=by unfold Addr.add; split<;>simp_all
  rw [e,Lib.cell_of_heap hg',←Array.getElem?_toList];have h1:(Lib.byteCells l)[j]?=some (.int .u8 x.toNat):=by simp [Lib.byteCells,hx]
  rw [←htake,List.getElem?_take] at h1
  split at h1
  ·exact h1
  ·cases h1
 have mixed:=L.mixed;have t72:=L.t72; have a72:=L.a72; have z72:=L.z72; have v72:=L.v72; have u72:=run_underlying L.t72;have t70:=L.t70; have a70:=L.a70; have z70:=L.z70; have v70:=L.v70; have u70:=run_underlying L.t70;have t37:=L.t37; have a37:=L.a37; have z37:=L.z37; have v37:=L.v37; have u37:=run_underlying L.t37;have t127:=L.t127; have a127:=L.a127; have z127:=L.z127; have v127:=L.v127; have u127:=run_underlying L.t127;have t3:=L.t3; have a3:=L.a3; have z3:=L.z3; have v3:=L.v3; have u3:=run_underlying L.t3;have t9:=L.t9; have a9:=L.a9; have z9:=L.z9; have v9:=L.v9; have u9:=run_underlying L.t9;have t5:=X.t5; have a5:=X.a5; have z5:=X.z5; have v5:=X.v5; have u5:=run_underlying X.t5
 go_enter L.f169,Body.n169_ntmps ρ
 go_wp2
 go_region_o
 all_goals (go_wp2; go_ret; exact ⟨rfl,rfl⟩)
set_option maxHeartbeats 2000000 in
set_option maxRecDepth 1000000 in
theorem grow_run(L:Lays.n241 P ρ)(X:Builder.Extra P ρ)(b n:Nat)(w:World) (hbk:w.heap[b]?=some (.cells #[ptrB b,.slice none 0 0] (ρ.t 72) (0,0))) (hn:n≤281474976710656) :
  Calls P (ρ.f 241) #[ptrB b,.int .i64 n] w fun e w'=>e = .returned (.tuple #[])∧∃(cs:Array Value) (k:Nat),n≤cs.size∧cs.size≤maxLen∧w'=((w.setCell ⟨b,1,none⟩ (.slice (some ⟨w.heap.size,0,none⟩) 0 cs.size)).alloc (.cells cs (ρ.t 5))).drewN k:=by
 obtain ⟨cs,hrun,hle,hmax⟩:=Lib.run_makeNoZero (P:=P) w.drew #[(ρ.t 3)] (ρ.t 37) (ρ.t 5) L.t37 n hn;have hw:IntKind.i64.wrap (IntKind.i64.wrap 0+(n:Int))=n:=by
  rw [IntKind.wrap_i64,IntKind.wrap_i64];omega
 have hcall:(callFunc (ρ.f 277) #[.int .i64 (IntKind.i64.wrap (IntKind.i64.wrap 0+(n:Int)))]).run P w.drew = .ok (.value (.slice (some ⟨w.drew.heap.size,0,none⟩) n cs.size)) (w.drew.drew.drew.alloc (.cells cs (ρ.t 5))):=by
  rw [hw,run_callFunc_extern L.f277 (by kernel_rfl) (by kernel_rfl) (by kernel_rfl) (e:=Extern.BytealgMakeNoZero.makeNoZero #[(ρ.t 3)] #[(ρ.t 37)]) (by kernel_rfl),hrun];rfl
 have hlt:b<w.heap.size:=(Array.getElem?_eq_some_iff.1 hbk).1;have c1:w.drew.cell? ⟨b,1,none⟩=some (.slice none 0 0):=by
  have:w.drew.heap[b]?=_:=hbk;rw [Lib.cell_of_heap this]; rfl
 have c2:(w.alloc (.cells cs (ρ.t 5))).cell? ⟨b,1,none⟩=some (.slice none 0 0):=by
  have:(w.alloc (.cells cs (ρ.t 5))).heap[b]?=_:=(Lib.alloc_old w _ b hlt).trans hbk;rw [Lib.cell_of_heap this]; rfl
 have f2:(w.alloc (.cells cs (ρ.t 5))).frozen? ⟨b,1,none⟩=false:=Lib.frozen_of_heap ((Lib.alloc_old w _ b hlt).trans hbk) 1;have hcopy:∀W:World,(Builtin.copy_ #[(ρ.t 37),(ρ.t 37)] (ρ.t 3) #[.slice (some ⟨w.heap.size,0,none⟩) 0 cs.size,.slice none 0 0]).run P W = .ok (goInt 0) W :=
  fun W=>run_copy_none W (ρ.t 37) (ρ.t 37) (ρ.t 3) (ρ.t 5) _ _ 0 cs.size 0 0 L.t37 X.sizeByte rfl
 clear hw
 have hsz:cs.size≤maxLen:=hmax (by unfold maxLen; omega);have mixed:=L.mixed;have t72:=L.t72; have a72:=L.a72; have z72:=L.z72; have v72:=L.v72; have u72:=run_underlying L.t72;have t70:=L.t70; have a70:=L.a70; have z70:=L.z70; have v70:=L.v70; have u70:=run_underlying L.t70;have t37:=L.t37; have a37:=L.a37; have z37:=L.z37; have v37:=L.v37; have u37:=run_underlying L.t37;have t3:=L.t3; have a3:=L.a3; have z3:=L.z3; have v3:=L.v3; have u3:=run_underlying L.t3;have t5:=X.t5; have a5:=X.a5; have z5:=X.z5; have v5:=X.v5; have u5:=run_underlying X.t5;have HF:Hid (n≤cs.size∧cs.size≤maxLen):=⟨hle,hsz⟩
 clear hle hsz hmax
 go_enter L.f241,Body.n241_ntmps ρ
 go_wp2
 go_region_o
 all_goals (go_wp2; go_end0; exact ⟨rfl,cs,3,HF.out.1,HF.out.2,rfl⟩)
set_option maxHeartbeats 2000000 in
set_option maxRecDepth 1000000 in
theorem Grow_run(L:Lays.n165 P ρ)(X:Builder.Extra P ρ)(b n:Nat)(w:World) (hbk:w.heap[b]?=some (.cells #[.pointer none,.slice none 0 0] (ρ.t 72) (0,0))) (h0:0<n) (hn:n≤281474976710656) :
  Calls P (ρ.f 165) #[ptrB b,.int .i64 n] w fun e w'=>e = .returned (.tuple #[])∧∃(cs:Array Value) (k:Nat),n≤cs.size∧cs.size≤maxLen∧w'=(((w.setCell ⟨b,0,none⟩ (ptrB b)).setCell ⟨b,1,none⟩ (.slice (some ⟨w.heap.size,0,none⟩) 0 cs.size)).alloc (.cells cs (ρ.t 5))).drewN k:=by
 have hbk1:(w.setCell ⟨b,0,none⟩ (ptrB b)).heap[b]?=some (.cells #[ptrB b,.slice none 0 0] (ρ.t 72) (0,0)):=by
  simp [World.setCell,Array.getElem?_modify,hbk]
 have c1:(w.setCell ⟨b,0,none⟩ (ptrB b)).cell? ⟨b,1,none⟩=some (.slice none 0 0):=by rw [Lib.cell_of_heap hbk1]; rfl
 have mixed:=L.mixed;have t72:=L.t72; have a72:=L.a72; have z72:=L.z72; have v72:=L.v72; have u72:=run_underlying L.t72;have t70:=L.t70; have a70:=L.a70; have z70:=L.z70; have v70:=L.v70; have u70:=run_underlying L.t70;have t37:=L.t37; have a37:=L.a37; have z37:=L.z37; have v37:=L.v37; have u37:=run_underlying L.t37;have t3:=L.t3; have a3:=L.a3; have z3:=L.z3; have v3:=L.v3; have u3:=run_underlying L.t3;have t9:=L.t9; have a9:=L.a9; have z9:=L.z9; have v9:=L.v9; have u9:=run_underlying L.t9;have t4:=L.t4; have a4:=L.a4; have z4:=L.z4; have v4:=L.v4; have u4:=run_underlying L.t4;have t5:=X.t5; have a5:=X.a5; have z5:=X.z5; have v5:=X.v5; have u5:=run_underlying X.t5;have e240:∀args w,(callFunc (ρ.f 240) args).run P w = .ok (.enter (ρ.f 240) args) w:=Qbs L.f240 (by kernel_rfl) rfl
 have e241:∀args w,(callFunc (ρ.f 241) args).run P w = .ok (.enter (ρ.f 241) args) w:=Qbs L.f241 (by kernel_rfl) rfl;have hg2:=grow_run (P:=P) { L with } X b n (w.setCell ⟨b,0,none⟩ (ptrB b)).drew hbk1 hn
 go_enter L.f165,Body.n165_ntmps ρ
 have c1':(w.setCell ⟨b,0,none⟩ (ptrB b)).drew.cell? ⟨b,1,none⟩=some (.slice none 0 0):=c1
 go_wp2_with (go_at_fn (ρ.f 240); refine (Any.Builder_copyCheck_fresh { L with } X.toX72 b w (by rw [Lib.cell_of_heap hbk]; rfl) (by simp [World.shape?,hbk]) (Lib.frozen_of_heap hbk 0)).mono ?_; rintro e w' ⟨rfl,rfl⟩)
 go_region_o
 all_goals go_wp2_with (go_at_fn (ρ.f 241); refine hg2.mono ?_; rintro e w' ⟨rfl,cs,k,h1,h2,rfl⟩)
 all_goals first
  | (go_end0; exact ⟨rfl,cs,1+k,h1,h2,rfl⟩)
  | (exfalso; omega)
end
end Go.Proofs.YtfeklaffeigilaaDoor
namespace Go.Proofs.YtfeklaffeigilaaDoor
open Go.Shelf Go.RowKit
set_option linter.unusedVariables false
set_option linter.unusedSimpArgs false
section
variable {X:Nat→Prop} {φ:Phi} {w:World}
abbrev bxN:Ob:=.box 71 [.pl .nilp,.pl (.sl .nil 0 [])]
abbrev bxU(o:Nat):Ob:=.box 71 [.bp 0 0,.own o]
theorem bu_open{H:Hp}{a p:AV}(hH:HR X φ H w)(h:hget H 0=some (.box 71 [p,a])):∃l b u0 u1,φ 0 = .at false l∧l.A=some (b,0)∧w.heap[b]?=some (.cells #[u0,u1] 71 (0,0))∧VR w (YOf X φ) φ p u0∧oneA p=true∧VR w (YOf X φ) φ a u1∧oneA a=true:=by
 obtain ⟨z,l,hl,hO⟩:=hH.ob 0 _ h;simp only [OR] at hO;obtain ⟨rfl,b,cs,hA,hg,hv⟩:=hO;simp only [VRL] at hv;obtain ⟨u0,_,rfl,h1,h2,u1,_,rfl,h3,h4,rfl⟩:=hv;exact ⟨l,b,u0,u1,hl,hA,hg,h2,h1,h4,h3⟩
theorem bu_ptr{l:Loc}{b:Nat}{v:Value}(hl:φ 0 = .at false l)(hA:l.A=some (b,0))(h:VR w (YOf X φ) φ (.bp 0 0) v):v=ptrB b:=by
 simp only [VR] at h;obtain ⟨b',hA',rfl⟩:=h.2.2 _ l hl;rw [hA] at hA'; cases hA'; rfl
theorem vr_ptr{w':World}{Y:Nat→Prop}{φ':Phi}{l:Loc}{b:Nat}(hl:φ' 0 = .at false l)(hA:l.A=some (b,0)):VR w' Y φ' (.bp 0 0) (ptrB b):=by
 simp only [VR];exact ⟨rfl,(by rw [hl]; intro h; cases h),fun z l' h'=>by rw [hl] at h'; cases h'; exact ⟨b,hA,rfl⟩⟩
theorem vr_own{w':World}{Y:Nat→Prop}{φ':Phi}{o:Nat}{l:Loc}(hl:φ' o = .at false l):VR w' Y φ' (.own o) (.slice (l.addr 0) l.n l.c):=by
 simp only [VR];exact ⟨rfl,(by rw [hl]; intro h; cases h),fun z l' h'=>by rw [hl] at h'; cases h'; rfl⟩
theorem set_heap{w:World}{b i:Nat}{v:Value}{cs:Array Value}{t:TypeId}{fz:Nat×Nat}(hg:w.heap[b]?=some (.cells cs t fz)):(w.setCell ⟨b,i,none⟩ v).heap[b]?=some (.cells (cs.setIfInBounds i v) t fz):=by
 simp [World.setCell,Array.getElem?_modify,hg]
theorem Qcd{w:World}{b k i:Nat}{v:Value}(h:k≠b):(w.setCell ⟨b,i,none⟩ v).heap[k]?=w.heap[k]?:=by
 simp [World.setCell,Array.getElem?_modify,Ne.symm h]
theorem set_size{w:World}{a:Addr}{v:Value} : (w.setCell a v).heap.size=w.heap.size:=by simp [World.setCell]
theorem bu_new{s:ByteArray}{arr:Array Value}{W:World}{l:Loc}{b:Nat}(hH:HR X φ [some bxN] w)(hl:φ 0 = .at false l)(hA:l.A=some (b,0))(hb:b<w.heap.size)
  (h1:s.size≤arr.size) (h2:arr.size≤maxLen) (h4:arr.toList.take s.size=s.data.toList.map fun b=>Value.int .u8 b.toNat)
  (w1:W.os=w.os) (w2:W.tape=w.tape) (w3:W.output=w.output) (w4:w.drawn≤W.drawn) (w5:w.heap.size<W.heap.size) (w6:∀k,k<w.heap.size→k≠b→W.heap[k]?=w.heap[k]?)
  (w7:W.heap[b]?=some (.cells #[ptrB b,.slice (some ⟨w.heap.size,0,none⟩) s.size arr.size] 71 (0,0))) (w8:W.heap[w.heap.size]?=some (.cells arr 5 (0,0))) :
  ∃φ',HR X φ' [some (bxU 1),some (.brow 5 s)] W∧Ev φ w φ' W∧∀k,k<1→φ k = .fresh→φ' k = .fresh:=by
 let l2:Loc:=⟨some (w.heap.size,0),s.size,arr.size,1⟩
 have hf:φ 1 = .fresh:=hH.fresh 1 (Nat.le_refl _);have p0:(φ.set 1 (.at false l2)) 0 = .at false l:=by rw [Phi.set_ne (by omega)]; exact hl
 have p1:(φ.set 1 (.at false l2)) 1 = .at false l2:=Phi.set_self;have blk:∀k,blkOf (φ.set 1 (.at false l2)) k→blkOf φ k∨k=w.heap.size:=fun k ⟨o,l',p,ho,hA'⟩=>by
  by_cases e:o=1
  ·subst e; rw [p1] at ho; cases ho; cases hA'; exact .inr rfl
  ·rw [Phi.set_ne e] at ho; exact .inl ⟨o,l',p,ho,hA'⟩
 have ev:Ev φ w (φ.set 1 (.at false l2)) W:=by
  refine ⟨w1,w2,⟨w3,w4⟩,Nat.le_of_lt w5,fun k hk hn=>w6 k hk fun e=>hn ⟨0,l,0,hl,by rw [e]; exact hA⟩,fun k hk hc=>?_,fun o ho=>.inl ?_⟩
  ·rcases blk k hc with h | h
   ·exact h
   ·omega
  ·refine Phi.set_ne fun e=>ho ?_;rw [e]; exact hf
 refine ⟨φ.set 1 (.at false l2),?_,ev,fun k hk e=>by rw [Phi.set_ne (by omega)]; exact e⟩;refine hH.next ev (fun o ho=>?_) (fun o z l' ho=>?_) (fun o y hy=>?_) (fun o l' b' p ho hA'=>?_)
 ·rw [Phi.set_ne (by simp at ho; omega)]; exact hH.fresh o (by simp at ho ⊢; omega)
 ·by_cases e:o=1
  ·exact ⟨.brow 5 s,by rw [e]; rfl⟩
  ·rw [Phi.set_ne e] at ho;have:=hH.lt ho;obtain rfl:o=0:=by simp at this; exact this
   exact ⟨bxU 1,rfl⟩
 ·match o,hy with
  | 0,hy =>
   obtain rfl:y=bxU 1:=by simpa [hget] using hy.symm
   refine .inr ⟨false,l,p0,?_⟩;simp only [OR];refine ⟨trivial,b,[ptrB b,.slice (some ⟨w.heap.size,0,none⟩) s.size arr.size],hA,w7,?_⟩;simp only [VRL];refine ⟨_,_,rfl,rfl,vr_ptr p0 hA,_,_,rfl,rfl,?_,rfl⟩;have:=vr_own (w':=W) (Y:=YOf X (φ.set 1 (.at false l2))) p1;simpa [Loc.addr,l2] using this
  | 1,hy =>
   obtain rfl:y = .brow 5 s:=by simpa [hget] using hy.symm
   refine .inr ⟨false,l2,p1,?_⟩;simp only [OR];exact ⟨trivial,rfl,w.heap.size,arr,rfl,w8,rfl,h1,h2,rfl,h4⟩
  | o+2,hy=>simp [hget] at hy
 ·by_cases e:o=1
  ·subst e; rw [p1] at ho; cases ho; cases hA';refine .inr ⟨fun hx=>by have:=hH.xlt _ hx; omega,w5,fun o' l2' p2 ho' hA2=>?_⟩
   by_cases e':o'=1
   ·exact e'
   ·rw [Phi.set_ne e'] at ho';have:=(hH.out o' l2' _ p2 ho' hA2).2; omega
  ·rw [Phi.set_ne e] at ho; exact .inl ho
theorem ret_mk{H H':Hp}{v:AV}{v':Value}{φ':Phi}{w':World}{e:Ending}(he:e = .returned v')(hv:VR w' (YOf X φ') φ' v v')(hH:HR X φ' H' w')(ev:Ev φ w φ' w')(hl:H.length≤H'.length)(hf:∀k,k<H.length→φ k = .fresh→φ' k = .fresh):Ret X φ H w [(v,H')] e w' :=
 ⟨_,List.mem_singleton.2 rfl,v',φ',he,hv,hH,ev,hl,hf⟩
end
theorem ws_new{s:ByteArray}(h0:0<s.size)(h1:s.size≤140737488355328):Qs Tryd.prog true 32 [.bp 0 0,.pl (.str s)] [some bxN] (.tup [.pl (.int .i64 (s.size:Int)),.pl .nili]) [some (bxU 1),some (.brow 5 s)]:=by
 refine ⟨Qbs Tryd.func32 (by kernel_rfl) rfl,⟨(fun (h:true=false)=>by cases h),fun _ X φ w vs hH hvs=>?_⟩⟩;simp only [VRT] at hvs;obtain ⟨v0,_,rfl,hv0,v1,_,rfl,hv1,rfl⟩:=hvs;simp only [VR,PR] at hv1;subst hv1;obtain ⟨l,b,u0,u1,hl,hA,hg,hu0,_,hu1,_⟩:=bu_open hH rfl;obtain rfl:=bu_ptr hl hA hv0;simp only [VR,PR,flOk] at hu0 hu1;subst hu0;obtain ⟨A,c,rfl,_,_,⟨rfl,rfl⟩,_⟩:=hu1;have hlt:b<w.heap.size:=(Array.getElem?_eq_some_iff.1 hg).1;have g1:(w.setCell ⟨b,0,none⟩ (ptrB b)).heap[b]?=some (.cells #[ptrB b,.slice none 0 0] 71 (0,0)):=set_heap hg;obtain ⟨i0,hi,hz0,hz1,hz2⟩:=info_parts bu_x.infoByte;have hap:=fun ty=>run_append_nil_string (P:=Tryd.prog) (w.setCell ⟨b,0,none⟩ (ptrB b)) 69 9 ty 5 i0 (.int .u8 0) Tryd.underlying69 Tryd.underlying9 hi hz0 s h0 (by omega) (by rw [hz2]; omega)
 have hrun:=ws_run (P:=Tryd.prog) (ρ:=bu_r) { bu_l with } bu_x b s w (w.setCell ⟨b,0,none⟩ (ptrB b)) _ (.slice none 0 0) _ _ _
  (Any.Builder_copyCheck_fresh { bu_l with } bu_x.toX72 b w (by rw [Lib.cell_of_heap hg]; rfl) (by simp [World.shape?,hg]; rfl) (Lib.frozen_of_heap hg 0)) g1 hap (by
   show ((w.setCell ⟨b,0,none⟩ (ptrB b)).drew.alloc _).heap[b]?=_;rw [Lib.alloc_old _ _ _ (by show b<(w.setCell ⟨b,0,none⟩ (ptrB b)).heap.size; rw [set_size]; exact hlt)]; exact g1)
 refine hrun.mono fun e w' ⟨he,hw⟩=>?_;subst hw;have hge:=grownCap_ge (w.setCell ⟨b,0,none⟩ (ptrB b)) s.size 0 5;have hle:grownCap (w.setCell ⟨b,0,none⟩ (ptrB b)) s.size 0 5≤maxLen:=grownCap_le_maxLen _ s.size 0 5 (by unfold maxLen; omega);generalize grownCap (w.setCell ⟨b,0,none⟩ (ptrB b)) s.size 0 5=cap at hge hle ⊢;have hs1:(w.setCell ⟨b,0,none⟩ (ptrB b)).heap.size=w.heap.size:=set_size;obtain ⟨arr,harr⟩:∃arr:Array Value,arr=s.data.map (fun b=>Value.int .u8 b.toNat)++Builtin.zeroCells (Value.int .u8 0).cells (cap-s.size):=⟨_,rfl⟩;have has:arr.size=cap:=by
  have:(Value.int IntKind.u8 0).cells.size=1:=rfl;rw [harr,Array.size_append,size_zeroCells,this,Array.size_map];show s.size+_=_;omega
 have hat:arr.toList.take s.size=s.data.toList.map fun b=>Value.int .u8 b.toNat:=by
  rw [harr,Array.toList_append,Array.toList_map,List.take_left' (by rw [List.length_map]; rfl)]
 rw [←harr];obtain ⟨φ',k1,k2,k3⟩:=bu_new (W:=(((w.setCell ⟨b,0,none⟩ (ptrB b)).drew.alloc (.cells arr 5)).setCell ⟨b,1,none⟩ (.slice (some ⟨(w.setCell ⟨b,0,none⟩ (ptrB b)).heap.size,0,none⟩) s.size cap))) hH hl hA hlt (by rw [has]; exact hge) (by rw [has]; exact hle) hat rfl rfl rfl (Nat.le_succ _)
  (by rw [set_size]; show w.heap.size<((w.setCell ⟨b,0,none⟩ (ptrB b)).heap.push _).size; rw [Array.size_push,hs1]; omega)
  (fun k hk hne=>by
   rw [Qcd hne,Lib.alloc_old _ _ _ (by show k<(w.setCell ⟨b,0,none⟩ (ptrB b)).heap.size; rw [hs1]; exact hk)];exact Qcd hne)
  (by
   have:((w.setCell ⟨b,0,none⟩ (ptrB b)).drew.alloc (.cells arr 5)).heap[b]?=some (.cells #[ptrB b,.slice none 0 0] 71 (0,0)):=by
    rw [Lib.alloc_old _ _ _ (by show b<(w.setCell ⟨b,0,none⟩ (ptrB b)).heap.size; rw [hs1]; exact hlt)]; exact g1
   rw [set_heap this,hs1,has]; rfl)
  (by
   rw [Qcd (by omega),←hs1];exact heap_alloc_new _ _)
 exact ret_mk he (by simp only [VR,VRT,PR]; exact ⟨_,rfl,_,_,rfl,rfl,_,_,rfl,rfl,rfl⟩) k1 k2 (by simp) k3
end Go.Proofs.YtfeklaffeigilaaDoor
namespace Go.Proofs.YtfeklaffeigilaaDoor
open Go.Shelf Go.RowKit
set_option linter.unusedVariables false
set_option linter.unusedSimpArgs false
theorem ws_more{t s:ByteArray}(h1:t.size+s.size≤140737488355328):Qs Tryd.prog true 32 [.bp 0 0,.pl (.str s)] [some (bxU 1),some (.brow 5 t)] (.tup [.pl (.int .i64 (s.size:Int)),.pl .nili]) [some (bxU 2),none,some (.brow 5 (scat t s))]:=by
 refine ⟨Qbs Tryd.func32 (by kernel_rfl) rfl,⟨(fun (h:true=false)=>by cases h),fun _ X φ w vs hH hvs=>?_⟩⟩;simp only [VRT] at hvs;obtain ⟨v0,_,rfl,hv0,v1,_,rfl,hv1,rfl⟩:=hvs;simp only [VR,PR] at hv1;subst hv1;obtain ⟨l,b,u0,u1,hl,hA,hg,hu0,_,hu1,_⟩:=bu_open hH rfl;obtain rfl:=bu_ptr hl hA hv0;obtain rfl:=bu_ptr hl hA hu0;obtain ⟨z,l1,hl1,hO⟩:=hH.ob 1 _ rfl;simp only [OR] at hO;obtain ⟨rfl,q1,g,cs,hA1,hg1,q2,q3,q4,q5,q6⟩:=hO;simp only [VR] at hu1;obtain rfl:=hu1.2.2 _ l1 hl1;have hbg:b≠g:=fun e=>by
  subst e;have:=hH.inj 0 1 l l1 b 0 0 hl hl1 hA hA1;cases this
 have ha:l1.addr 0=some ⟨g,0,none⟩:=by simp [Loc.addr,hA1]
 rw [ha,q2] at hg;have hlt:b<w.heap.size:=(Array.getElem?_eq_some_iff.1 hg).1;have hltg:g<w.heap.size:=(Array.getElem?_eq_some_iff.1 hg1).1;obtain ⟨i0,hi,hz0,hz1,hz2⟩:=info_parts bu_x.infoByte;have hsz:(scat t s).size=t.size+s.size:=by
  show ((t.data.toList++s.data.toList).toArray).size=_;rw [List.size_toArray,List.length_append]; rfl
 -- what the append gives
 obtain ⟨A,c,W,arr,g2,hap,hA2,hor,hW1,hW2,hW3,hW4,hW5,hW6,hW7,hc1,hc2,hc3,hc4⟩:∃(A:Option Addr) (c:Nat) (W:World) (arr:Array Value) (g2:Nat),(∀ty,(Builtin.append_ #[69,9] ty #[.slice (some ⟨g,0,none⟩) t.size l1.c,.string s]).run Tryd.prog w = .ok (.slice A (t.size+s.size) c) W)∧A=some ⟨g2,0,none⟩ ∧
   (g2=g∨(g2=w.heap.size∧w.heap.size<W.heap.size))∧W.os=w.os∧W.tape=w.tape∧W.output=w.output∧w.drawn≤W.drawn∧w.heap.size≤W.heap.size∧(∀k,k<w.heap.size→k≠g→W.heap[k]?=w.heap[k]?)∧W.heap[g2]?=some (.cells arr 5 (0,0)) ∧
   t.size+s.size≤c∧c≤maxLen∧arr.size=c∧arr.toList.take (t.size+s.size)=(scat t s).data.toList.map fun b=>Value.int .u8 b.toNat:=by
  have hcat:((scat t s).data.toList.map fun b=>Value.int .u8 b.toNat)=(t.data.toList.map fun b=>Value.int .u8 b.toNat)++Lib.strCells s:=by
   show ((t.data.toList++s.data.toList).map fun b=>Value.int .u8 b.toNat)=_;rw [List.map_append]; rfl
  by_cases hroom:t.size+s.size≤l1.c
  ·have hap:=fun ty=>Lib.run_append_room_string (P:=Tryd.prog) w 69 9 ty 5 i0 Tryd.underlying69 Tryd.underlying9 hi hz1 g t.size l1.c cs hg1 s hroom (by omega);refine ⟨_,_,_,_,g,hap,rfl,.inl rfl,rfl,rfl,rfl,Nat.le_refl _,by simp [World.setRow],fun k _ hk=>by simp [World.setRow,Array.getElem?_modify,Ne.symm hk],by simp [World.setRow,Array.getElem?_modify,hg1]; rfl,hroom,q4,?_,?_⟩
   ·rw [List.size_toArray,List.length_append,List.length_append,List.length_take,Lib.strCells_length,List.length_drop,Array.length_toList]; omega
   ·rw [hcat,←q6];show (cs.toList.take t.size++(Lib.strCells s++cs.toList.drop (t.size+s.size))).take (t.size+s.size)=_;rw [←List.append_assoc,List.take_left' (by rw [List.length_append,List.length_take,Lib.strCells_length,Array.length_toList]; omega)]
  ·have hap:=fun ty=>Lib.run_append_grow_string (P:=Tryd.prog) w 69 9 ty 5 i0 (.int .u8 0) Tryd.underlying69 Tryd.underlying9 hi hz0 ⟨g,0,none⟩ t.size l1.c (t.data.toList.map fun b=>Value.int .u8 b.toNat) (by rw [List.length_map,hz1,Nat.mul_one]; rfl) (fun j v hj=>by
    have e:(⟨g,0,none⟩:Addr).add j=⟨g,j,none⟩:=by unfold Addr.add; split<;>simp_all
    rw [e,Lib.cell_of_heap hg1,←Array.getElem?_toList];rw [←q6,List.getElem?_take] at hj
    split at hj
    ·exact hj
    ·cases hj) s (by omega) (by omega) (growslice_fits (by omega) (by rw [hz2]; omega))
   have hge:=grownCap_ge w (t.size+s.size) l1.c 5;have hle:grownCap w (t.size+s.size) l1.c 5≤maxLen:=grownCap_le_maxLen _ _ _ 5 (by unfold maxLen; omega);refine ⟨_,_,_,_,w.heap.size,hap,rfl,.inr ⟨rfl,by show w.heap.size<(w.heap.push _).size; rw [Array.size_push]; omega⟩,rfl,rfl,rfl,Nat.le_succ _,by show w.heap.size≤(w.heap.push _).size; rw [Array.size_push]; omega,fun k hk _=>Lib.alloc_old w.drew _ k hk,heap_alloc_new w.drew _,hge,hle,?_,?_⟩
   ·have:(Value.int IntKind.u8 0).cells.size=1:=rfl;simp only [Array.size_append,List.size_toArray,size_zeroCells,this,List.length_map,Lib.strCells_length];show t.size+s.size+_=_;omega
   ·rw [hcat,Array.toList_append,Array.toList_append,List.take_left' (by simp only [List.length_append,List.length_map,Lib.strCells_length]; rfl)]
 subst hA2;have hWb:W.heap[b]?=some (.cells #[ptrB b,.slice (some ⟨g,0,none⟩) t.size l1.c] 71 (0,0)):=by rw [hW6 b hlt hbg]; exact hg
 have hrun:=ws_run (P:=Tryd.prog) (ρ:=bu_r) { bu_l with } bu_x b s w w W (.slice (some ⟨g,0,none⟩) t.size l1.c) _ _ _
  (Any.Builder_copyCheck_used { bu_l with } bu_x.toX72 b w (by rw [Lib.cell_of_heap hg]; rfl)) hg hap hWb
 refine hrun.mono fun e w' ⟨he,hw⟩=>?_;subst hw;have hg2b:g2≠b:=by rcases hor with e | ⟨e,_⟩<;>rw [e]<;>omega
 let l2:Loc:=⟨some (g2,0),(scat t s).size,c,1⟩
 obtain ⟨m1,m2⟩:=hH.move (w':=W) hH.free hl1 l2 (.brow 5 (scat t s)) hW1 hW2 ⟨hW3,hW4⟩ hW5 (fun k hk hn=>hW6 k hk fun e=>hn 0 (by rw [e]; exact hA1)) (fun b' p' h=>by
  cases h;rcases hor with e | ⟨e,h⟩
  ·exact .inl ⟨0,by rw [e]; exact hA1⟩
  ·exact .inr ⟨by rw [e]; exact Nat.le_refl _,by rw [e]; exact h⟩) (fun _=>by
  simp only [OR];exact ⟨trivial,rfl,g2,arr,rfl,hW7,rfl,by show (scat t s).size≤c; rw [hsz]; exact hc1,hc2,hc3,by rw [hsz]; exact hc4⟩)
 have p0:((φ.set 1 .dead).set 2 (.at false l2)) 0 = .at false l:=by rw [Phi.set_ne (by omega),Phi.set_ne (by omega)]; exact hl
 have p2:((φ.set 1 .dead).set 2 (.at false l2)) 2 = .at false l2:=Phi.set_self;have m3:=m1.write (w':=W.setCell ⟨b,1,none⟩ (.slice (some ⟨g2,0,none⟩) (t.size+s.size) c)) (x:=bxU 2) p0 hA rfl rfl ⟨rfl,Nat.le_refl _⟩ set_size (fun k h=>Qcd h) (by
  simp only [OR];refine ⟨trivial,b,[ptrB b,.slice (some ⟨g2,0,none⟩) (t.size+s.size) c],hA,set_heap hWb,?_⟩;simp only [VRL];refine ⟨_,_,rfl,rfl,vr_ptr p0 hA,_,_,rfl,rfl,?_,rfl⟩;have:=vr_own (w':=W.setCell ⟨b,1,none⟩ (.slice (some ⟨g2,0,none⟩) (t.size+s.size) c)) (Y:=YOf X ((φ.set 1 .dead).set 2 (.at false l2))) p2;simpa [Loc.addr,l2,hsz] using this)
 have e3:=Ev.write (w:=W) (w':=W.setCell ⟨b,1,none⟩ (.slice (some ⟨g2,0,none⟩) (t.size+s.size) c)) p0 hA rfl rfl ⟨rfl,Nat.le_refl _⟩ set_size (fun k h=>Qcd h);exact ret_mk he (by simp only [VR,VRT,PR]; exact ⟨_,rfl,_,_,rfl,rfl,_,_,rfl,rfl,rfl⟩) m3 (m2.trans e3) (by simp) (fun k hk e=>by
  have hk:k<2:=hk;rw [Phi.set_ne (by omega),Phi.set_ne (fun e2=>by rw [e2,hl1] at e; cases e)]; exact e)
theorem ws_str{t:ByteArray}(h0:0<t.size):Qs Tryd.prog true 34 [.bp 0 0] [some (bxU 1),some (.brow 5 t)] (.pl (.str t)) [some (bxU 1),none]:=by
 refine ⟨Qbs Tryd.func34 (by kernel_rfl) rfl,⟨(fun (h:true=false)=>by cases h),fun _ X φ w vs hH hvs=>?_⟩⟩;simp only [VRT] at hvs;obtain ⟨v0,_,rfl,hv0,rfl⟩:=hvs;obtain ⟨l,b,u0,u1,hl,hA,hg,hu0,_,hu1,_⟩:=bu_open hH rfl;obtain rfl:=bu_ptr hl hA hv0;obtain ⟨z,l1,hl1,hO⟩:=hH.ob 1 _ rfl;simp only [OR] at hO;obtain ⟨rfl,q1,g,cs,hA1,hg1,q2,q3,q4,q5,q6⟩:=hO;simp only [VR] at hu1;obtain rfl:=hu1.2.2 _ l1 hl1;have hbg:b≠g:=fun e=>by
  subst e;have:=hH.inj 0 1 l l1 b 0 0 hl hl1 hA hA1;cases this
 have ha:l1.addr 0=some ⟨g,0,none⟩:=by simp [Loc.addr,hA1]
 rw [ha,q2] at hg;have hlen:t.data.toList.length=t.size:=rfl;have hrun:=str_run (P:=Tryd.prog) (ρ:=bu_r) { bu_l with } bu_x b g l1.c u0 cs t.data.toList w (fun e=>by rw [e] at hlen; simp at hlen; omega) (by rw [hlen]; exact hg) hg1 (by rw [hlen,←q2]; exact q3) q4 q5 (by rw [hlen]; exact q6);refine hrun.mono fun e w' ⟨he,hw⟩=>?_;subst hw;have hfz:∀k,k≠g→(w.drew.freeze ⟨g,0,none⟩ t.data.toList.length).heap[k]?=w.heap[k]?:=fun k hk=>by
  unfold World.freeze
  split
  ·rfl
  ·show (w.heap.modify g _)[k]?=_;rw [Array.getElem?_modify,if_neg (Ne.symm hk)]
 have hfs:(w.drew.freeze ⟨g,0,none⟩ t.data.toList.length).heap.size=w.heap.size:=by
  unfold World.freeze
  split
  ·rfl
  ·show (w.heap.modify g _).size=_;rw [Array.size_modify]
 have hfo:(w.drew.freeze ⟨g,0,none⟩ t.data.toList.length).os=w.os∧(w.drew.freeze ⟨g,0,none⟩ t.data.toList.length).tape=w.tape∧(w.drew.freeze ⟨g,0,none⟩ t.data.toList.length).output=w.output∧w.drawn≤(w.drew.freeze ⟨g,0,none⟩ t.data.toList.length).drawn:=by
  unfold World.freeze
  split<;>exact ⟨rfl,rfl,rfl,Nat.le_succ _⟩
 have blk:∀k,blkOf (φ.set 1 .dead) k→blkOf φ k:=fun k ⟨o,l',p,ho,hA'⟩=>by
  by_cases e:o=1
  ·subst e; rw [Phi.set_self] at ho; cases ho
  ·rw [Phi.set_ne e] at ho; exact ⟨o,l',p,ho,hA'⟩
 have ev:Ev φ w (φ.set 1 .dead) (w.drew.freeze ⟨g,0,none⟩ t.data.toList.length):=by
  refine ⟨hfo.1,hfo.2.1,⟨hfo.2.2.1,hfo.2.2.2⟩,by rw [hfs]; exact Nat.le_refl _,fun k hk hn=>hfz k fun e=>hn ⟨1,l1,0,hl1,by rw [e]; exact hA1⟩,fun k _ hc=>blk k hc,fun o ho=>?_⟩
  by_cases e:o=1
  ·subst e; exact .inr (.inl Phi.set_self)
  ·exact .inl (Phi.set_ne e)
 refine ret_mk (v':=.string ⟨t.data.toList.toArray⟩) he (by simp only [VR,PR]) (hH.next ev (fun o ho=>?_) (fun o z l' ho=>?_) (fun o y hy=>?_) (fun o l' b' p ho hA'=>?_)) ev (by simp) (fun k hk e=>by
  rw [Phi.set_ne (fun e2=>by rw [e2,hl1] at e; cases e)]; exact e)
 ·have h2:2≤o:=ho;rw [Phi.set_ne (by omega)]; exact hH.fresh o ho
 ·by_cases e:o=1
  ·subst e; rw [Phi.set_self] at ho; cases ho
  ·rw [Phi.set_ne e] at ho;have:=hH.lt ho;obtain rfl:o=0:=by simp only [List.length_cons,List.length_nil] at this; omega
   exact ⟨bxU 1,rfl⟩
 ·match o,hy with
  | 0,hy =>
   obtain rfl:y=bxU 1:=by simpa [hget] using hy.symm
   refine .inl ⟨rfl,Phi.set_ne (by omega),fun l' b' p hl' hA'=>?_⟩;rw [hl] at hl'; cases hl';rw [hA] at hA'; cases hA';exact hfz b hbg
  | 1,hy=>simp [hget] at hy
  | o+2,hy=>simp [hget] at hy
 ·by_cases e:o=1
  ·subst e; rw [Phi.set_self] at ho; cases ho
  ·rw [Phi.set_ne e] at ho; exact .inl ho
theorem ws_grow{n:Int}(h0:0<n)(h1:n≤281474976710656):Qs Tryd.prog true 57 [.bp 0 0,.pl (.int .i64 n)] [some bxN] (.tup []) [some (bxU 1),some (.brow 5 ⟨#[]⟩)]:=by
 refine ⟨Qbs Tryd.func57 (by kernel_rfl) rfl,⟨(fun (h:true=false)=>by cases h),fun _ X φ w vs hH hvs=>?_⟩⟩;simp only [VRT] at hvs;obtain ⟨v0,_,rfl,hv0,v1,_,rfl,hv1,rfl⟩:=hvs;simp only [VR,PR] at hv1;subst hv1;obtain ⟨l,b,u0,u1,hl,hA,hg,hu0,_,hu1,_⟩:=bu_open hH rfl;obtain rfl:=bu_ptr hl hA hv0;simp only [VR,PR,flOk] at hu0 hu1;subst hu0;obtain ⟨A,c,rfl,_,_,⟨rfl,rfl⟩,_⟩:=hu1;obtain ⟨m,rfl⟩:∃m:Nat,n=(m:Int):=⟨n.toNat,by omega⟩;have hlt:b<w.heap.size:=(Array.getElem?_eq_some_iff.1 hg).1;have hrun:=Grow_run (P:=Tryd.prog) (ρ:=bu_r) { bu_l with } bu_x b m w hg (by omega) (by omega);refine hrun.mono fun e w' ⟨he,arr,k,h2,h3,hw⟩=>?_;subst hw;have g1:(w.setCell ⟨b,0,none⟩ (ptrB b)).heap[b]?=some (.cells #[ptrB b,.slice none 0 0] 71 (0,0)):=set_heap hg
 have hs1:((w.setCell ⟨b,0,none⟩ (ptrB b)).setCell ⟨b,1,none⟩ (.slice (some ⟨w.heap.size,0,none⟩) 0 arr.size)).heap.size=w.heap.size:=by rw [set_size,set_size]
 obtain ⟨φ',k1,k2,k3⟩:=bu_new (s:=⟨#[]⟩) (W:=((((w.setCell ⟨b,0,none⟩ (ptrB b)).setCell ⟨b,1,none⟩ (.slice (some ⟨w.heap.size,0,none⟩) 0 arr.size)).alloc (.cells arr 5)).drewN k)) (arr:=arr) hH hl hA hlt (Nat.zero_le _) h3 rfl rfl rfl rfl (Nat.le_add_right _ _)
  (by show w.heap.size<(((w.setCell ⟨b,0,none⟩ (ptrB b)).setCell ⟨b,1,none⟩ (.slice (some ⟨w.heap.size,0,none⟩) 0 arr.size)).heap.push _).size; rw [Array.size_push,hs1]; omega)
  (fun j hj hne=>by
   show (((w.setCell ⟨b,0,none⟩ (ptrB b)).setCell ⟨b,1,none⟩ (.slice (some ⟨w.heap.size,0,none⟩) 0 arr.size)).alloc (.cells arr 5)).heap[j]?=_;rw [Lib.alloc_old _ _ _ (by rw [hs1]; exact hj),Qcd hne,Qcd hne])
  (by
   show (((w.setCell ⟨b,0,none⟩ (ptrB b)).setCell ⟨b,1,none⟩ (.slice (some ⟨w.heap.size,0,none⟩) 0 arr.size)).alloc (.cells arr 5)).heap[b]?=_;rw [Lib.alloc_old _ _ _ (by rw [hs1]; exact hlt),set_heap g1]; rfl)
  (by
   have:=heap_alloc_new ((w.setCell ⟨b,0,none⟩ (ptrB b)).setCell ⟨b,1,none⟩ (.slice (some ⟨w.heap.size,0,none⟩) 0 arr.size)) (.cells arr 5);rw [hs1] at this;exact this)
 exact ret_mk he (by simp only [VR,VRT]; exact ⟨_,rfl,rfl⟩) k1 k2 (by simp) k3
def Qz(n:Int):ByteArray:=⟨(Lib.itoa n).toArray⟩
theorem itoa_call{n:Int}(h0:-9223372036854775808≤n)(h1:n≤9223372036854775807):Qs Tryd.prog false 31 [.pl (.int .i64 n)] [] (.pl (.str (Qz n))) []:=by
 refine ⟨Qbs Tryd.func31 (by kernel_rfl) rfl,fun _=>rfl,fun _ X φ w vs hH hvs=>?_⟩;simp only [VRT] at hvs;obtain ⟨v0,_,rfl,hv0,rfl⟩:=hvs;simp only [VR,PR] at hv0;subst hv0;have hφ:φ=Qby:=funext fun o=>hH.fresh o (Nat.zero_le _);subst hφ;obtain ⟨_,t,fr,htab⟩:=hH.xlt.tab _ (show _∈tabL from List.mem_singleton.2 rfl);refine (Any.strconv_Itoa it_l n h0 h1 w ?_).mono fun e w' ⟨he,k,os,hw⟩=>?_
 ·unfold Lib.TabIs World.var?;rw [it_l.m17];simp only [Option.bind_some];have:w.heap[it_r.g 17]?=_:=htab;rw [this]; rfl
 ·subst hw;have ev:Ev Qby w Qby (Sort.grow (w.drewN k) os):=⟨rfl,rfl,⟨rfl,Nat.le_add_right _ _⟩,by show w.heap.size≤(w.heap++os).size; rw [Array.size_append]; omega,fun j hj _=>by show (w.heap++os)[j]?=_; rw [Array.getElem?_append_left hj],fun b _ hc=>absurd hc (noBlk b),fun o ho=>absurd rfl ho⟩;exact ret_mk he (by simp only [VR,PR]; rfl) (hH.next ev hH.fresh hH.live (fun o x hx=>by simp [hget] at hx) (fun o l b p h=>by cases h)) ev (Nat.le_refl _) (fun _ _ h=>h)
end Go.Proofs.YtfeklaffeigilaaDoor
namespace Go.Proofs.YtfeklaffeigilaaDoor
set_option linter.unusedVariables false
set_option linter.unusedSimpArgs false
set_option maxRecDepth 100000
open Go.RowKit
structure Qa where
 Account:ByteArray
 Ccy:ByteArray
 In:Int
 Out:Int
def Qa.cells(x:Qa):List PV:=[.str x.Account,.str x.Ccy,.int .i64 x.In,.int .i64 x.Out]
theorem Qa.cells_eq(x y:Qa):(Qa.cells x=Qa.cells y)=(x=y):=propext ⟨fun h=>by
 cases x; cases y
 simp_all [Qa.cells],fun h=>by rw [h]⟩
theorem Qa.map_eq(x y:List Qa):(x.map Qa.cells=y.map Qa.cells)=(x=y):=map_eq_of fun a b h=>by rwa [Qa.cells_eq] at h
structure Qd where
 From:Int
 To:Int
 Known:Int
 Rows:List Qa
def Qd.cells(x:Qd):List PV:=[.int .i64 x.From,.int .i64 x.To,.int .i64 x.Known,.sl .any 4 (x.Rows.map Qa.cells)]
theorem Qd.cells_eq(x y:Qd):(Qd.cells x=Qd.cells y)=(x=y):=propext ⟨fun h=>by
 cases x; cases y
 simp_all [Qd.cells,Qa.cells,Qa.cells_eq,Qa.map_eq],fun h=>by rw [h]⟩
theorem Qd.map_eq(x y:List Qd):(x.map Qd.cells=y.map Qd.cells)=(x=y):=map_eq_of fun a b h=>by rwa [Qd.cells_eq] at h
structure Key_ where
 account:ByteArray
 ccy:ByteArray
def Key_.cells(x:Key_):List PV:=[.str x.account,.str x.ccy]
theorem Key_.cells_eq(x y:Key_):(Key_.cells x=Key_.cells y)=(x=y):=propext ⟨fun h=>by
 cases x; cases y
 simp_all [Key_.cells],fun h=>by rw [h]⟩
theorem Key_.map_eq(x y:List Key_):(x.map Key_.cells=y.map Key_.cells)=(x=y):=map_eq_of fun a b h=>by rwa [Key_.cells_eq] at h
structure Qh where
 Account:ByteArray
 Ccy:ByteArray
 Amount:Int
def Qh.cells(x:Qh):List PV:=[.str x.Account,.str x.Ccy,.int .i64 x.Amount]
theorem Qh.cells_eq(x y:Qh):(Qh.cells x=Qh.cells y)=(x=y):=propext ⟨fun h=>by
 cases x; cases y
 simp_all [Qh.cells],fun h=>by rw [h]⟩
theorem Qh.map_eq(x y:List Qh):(x.map Qh.cells=y.map Qh.cells)=(x=y):=map_eq_of fun a b h=>by rwa [Qh.cells_eq] at h
structure Qg where
 Day:Int
 Text:ByteArray
 Lines:List Qh
def Qg.cells(x:Qg):List PV:=[.int .i64 x.Day,.str x.Text,.sl .any 3 (x.Lines.map Qh.cells)]
theorem Qg.cells_eq(x y:Qg):(Qg.cells x=Qg.cells y)=(x=y):=propext ⟨fun h=>by
 cases x; cases y
 simp_all [Qg.cells,Qh.cells,Qh.cells_eq,Qh.map_eq],fun h=>by rw [h]⟩
theorem Qg.map_eq(x y:List Qg):(x.map Qg.cells=y.map Qg.cells)=(x=y):=map_eq_of fun a b h=>by rwa [Qg.cells_eq] at h
structure Qp where
 Records:List Qg
def Qp.cells(x:Qp):List PV:=[.sl .any 3 (x.Records.map Qg.cells)]
theorem Qp.cells_eq(x y:Qp):(Qp.cells x=Qp.cells y)=(x=y):=propext ⟨fun h=>by
 cases x; cases y
 simp_all [Qp.cells,Qg.cells,Qg.cells_eq,Qg.map_eq],fun h=>by rw [h]⟩
theorem Qp.map_eq(x y:List Qp):(x.map Qp.cells=y.map Qp.cells)=(x=y):=map_eq_of fun a b h=>by rwa [Qp.cells_eq] at h
structure Qm where
 name:ByteArray
 ccy:ByteArray
def Qm.cells(x:Qm):List PV:=[.str x.name,.str x.ccy]
theorem Qm.cells_eq(x y:Qm):(Qm.cells x=Qm.cells y)=(x=y):=propext ⟨fun h=>by
 cases x; cases y
 simp_all [Qm.cells],fun h=>by rw [h]⟩
theorem Qm.map_eq(x y:List Qm):(x.map Qm.cells=y.map Qm.cells)=(x=y):=map_eq_of fun a b h=>by rwa [Qm.cells_eq] at h
structure Qt where
 e0:Int
 e1:Int
 e2:Int
 e3:Int
 e4:Int
 e5:Int
 e6:Int
 e7:Int
 e8:Int
 e9:Int
 e10:Int
 e11:Int
 e12:Int
def Qt.cells(x:Qt):List PV:=[.int .i64 x.e0,.int .i64 x.e1,.int .i64 x.e2,.int .i64 x.e3,.int .i64 x.e4,.int .i64 x.e5,.int .i64 x.e6,.int .i64 x.e7,.int .i64 x.e8,.int .i64 x.e9,.int .i64 x.e10,.int .i64 x.e11,.int .i64 x.e12]
theorem Qt.cells_eq(x y:Qt):(Qt.cells x=Qt.cells y)=(x=y):=propext ⟨fun h=>by
 cases x; cases y
 simp_all [Qt.cells],fun h=>by rw [h]⟩
theorem Qt.map_eq(x y:List Qt):(x.map Qt.cells=y.map Qt.cells)=(x=y):=map_eq_of fun a b h=>by rwa [Qt.cells_eq] at h
def Key_.eqb(x y:Key_):Bool:=seq x.account y.account&&seq x.ccy y.ccy
theorem Key_.eqb_ok(x y:Key_):eqV cfg.ty 115 (.agg (Key_.cells x)) (.agg (Key_.cells y))=some (Key_.eqb x y):=by
 unfold Key_.eqb;have e:eqV cfg.ty 115 (.agg (Key_.cells x)) (.agg (Key_.cells y))=(match some (decide (x.account.data.toList=y.account.data.toList)) with | some true=>(match some (decide (x.ccy.data.toList=y.ccy.data.toList)) with | some true=>(some true) | some false=>some false | none=>none) | some false=>some false | none=>none):=by kernel_rfl
 rw [e]
 try simp only [seq]
 cases decide (x.account.data.toList=y.account.data.toList)<;>cases decide (x.ccy.data.toList=y.ccy.data.toList)<;>rfl
def Qa.eqb(x y:Qa):Bool:=seq x.Account y.Account&&seq x.Ccy y.Ccy&&decide (x.In=y.In)&&decide (x.Out=y.Out)
theorem Qa.eqb_ok(x y:Qa):eqV cfg.ty 39 (.agg (Qa.cells x)) (.agg (Qa.cells y))=some (Qa.eqb x y):=by
 unfold Qa.eqb;have e:eqV cfg.ty 39 (.agg (Qa.cells x)) (.agg (Qa.cells y))=(match some (decide (x.Account.data.toList=y.Account.data.toList)) with | some true=>(match some (decide (x.Ccy.data.toList=y.Ccy.data.toList)) with | some true=>(match some (decide (x.In=y.In)) with | some true=>(match some (decide (x.Out=y.Out)) with | some true=>(some true) | some false=>some false | none=>none) | some false=>some false | none=>none) | some false=>some false | none=>none) | some false=>some false | none=>none):=by kernel_rfl
 rw [e]
 try simp only [seq]
 cases decide (x.Account.data.toList=y.Account.data.toList)<;>cases decide (x.Ccy.data.toList=y.Ccy.data.toList)<;>cases decide (x.In=y.In)<;>cases decide (x.Out=y.Out)<;>rfl
def Qm.eqb(x y:Qm):Bool:=seq x.name y.name&&seq x.ccy y.ccy
theorem key_9:KeyOK cfg 9 pStr seq:=key_str (fun _ _=>by kernel_rfl) (fun _=>by kernel_rfl)
theorem Key_.eqb_eq{x y:Key_}(h:Key_.eqb x y=true):x=y:=by
 cases x; cases y;simp only [Key_.eqb,Bool.and_eq_true,decide_eq_true_eq,beq_iff_eq] at h;simp only [Key_.mk.injEq];refine ⟨?_,?_⟩<;>first | exact seq_eq' (by simp_all) | simp_all
theorem key_115:KeyOK cfg 115 (pAgg Key_.cells) Key_.eqb:=⟨fun a b=>Key_.eqb_ok a b,fun _=>by kernel_rfl,fun a b h=>Key_.eqb_eq h,fun a=>by simp [pAgg,Key_.cells,eqC,eqCL,eqC1,kindEq]⟩
def Qq:ByteArray:=⟨#[114,101,112,111,114,116,32]⟩
def str_0:ByteArray:=⟨#[48]⟩
def Qbh:ByteArray:=⟨#[10]⟩
def Ql:ByteArray:=⟨#[32]⟩
def Qao:ByteArray:=⟨#[114,101,112,111,114,116]⟩
def Qae:ByteArray:=⟨#[]⟩
def ti39:TI:=⟨.struct [(9,0),(9,1),(3,2),(3,3)],4,48,[.str ByteArray.empty,.str ByteArray.empty,.int .i64 0,.int .i64 0]⟩
def ti9:TI:=⟨.str,1,16,[.str ByteArray.empty]⟩
def ti3:TI:=⟨.int .i64,1,8,[.int .i64 0]⟩
def ti5:TI:=⟨.int .u8,1,1,[.int .u8 0]⟩
def ti22:TI:=⟨.sl 39,1,24,[.sl .nil 0 []]⟩
def ti24:TI:=⟨.struct [(3,0),(3,1),(3,2),(22,3)],4,48,[.int .i64 0,.int .i64 0,.int .i64 0,.sl .nil 0 []]⟩
def Qa.ok(x:Qa):Prop:=(fun s:ByteArray=>s.size≤maxLen) x.Account∧(fun s:ByteArray=>s.size≤maxLen) x.Ccy∧(okInt .i64) x.In∧(okInt .i64) x.Out∧True
def Qd.ok(x:Qd):Prop:=(okInt .i64) x.From∧(okInt .i64) x.To∧(okInt .i64) x.Known∧(fun l:List Qa=>l.length≤maxLen∧∀x∈l,Qa.ok x) x.Rows∧True
def Key_.ok(x:Key_):Prop:=(fun s:ByteArray=>s.size≤maxLen) x.account∧(fun s:ByteArray=>s.size≤maxLen) x.ccy∧True
def Qh.ok(x:Qh):Prop:=(fun s:ByteArray=>s.size≤maxLen) x.Account∧(fun s:ByteArray=>s.size≤maxLen) x.Ccy∧(okInt .i64) x.Amount∧True
def Qg.ok(x:Qg):Prop:=(okInt .i64) x.Day∧(fun s:ByteArray=>s.size≤maxLen) x.Text∧(fun l:List Qh=>l.length≤maxLen∧∀x∈l,Qh.ok x) x.Lines∧True
def Qp.ok(x:Qp):Prop:=(fun l:List Qg=>l.length≤maxLen∧∀x∈l,Qg.ok x) x.Records∧True
def Qm.ok(x:Qm):Prop:=(fun s:ByteArray=>s.size≤maxLen) x.name∧(fun s:ByteArray=>s.size≤maxLen) x.ccy∧True
def Qt.ok(x:Qt):Prop:=(okInt .i64) x.e0∧(okInt .i64) x.e1∧(okInt .i64) x.e2∧(okInt .i64) x.e3∧(okInt .i64) x.e4∧(okInt .i64) x.e5∧(okInt .i64) x.e6∧(okInt .i64) x.e7∧(okInt .i64) x.e8∧(okInt .i64) x.e9∧(okInt .i64) x.e10∧(okInt .i64) x.e11∧(okInt .i64) x.e12∧True
theorem of_3{d:Nat}{ps:List PV}(h:WT cfg.ty (d+1) 3 ps):∃x:Int,ps=(cInt .i64) x∧(okInt .i64) x:=by
 obtain ⟨n,rfl,k⟩:=wt_int (ti:=ti3) (by kernel_rfl) rfl h;exact ⟨n,rfl,k⟩
theorem of_9{d:Nat}{ps:List PV}(h:WT cfg.ty (d+1) 9 ps):∃x:ByteArray,ps=cStr x∧(fun s:ByteArray=>s.size≤maxLen) x:=by
 obtain ⟨n,rfl,k⟩:=wt_str (ti:=ti9) (by kernel_rfl) rfl h;exact ⟨n,rfl,k⟩
theorem of_39{d:Nat}{ps:List PV}(h:WT cfg.ty (d+2) 39 ps):∃x:Qa,ps=Qa.cells x∧Qa.ok x:=by
 have g:=wt_struct (ti:=ti39) (by kernel_rfl) rfl h
 clear h
 obtain ⟨_,_,_,rfl,_,_,h0,g0⟩:=g;obtain ⟨x0,rfl,k0⟩:=of_9 h0;obtain ⟨_,_,_,rfl,_,_,h1,g1⟩:=g0;obtain ⟨x1,rfl,k1⟩:=of_9 h1;obtain ⟨_,_,_,rfl,_,_,h2,g2⟩:=g1;obtain ⟨x2,rfl,k2⟩:=of_3 h2;obtain ⟨_,_,_,rfl,_,_,h3,g3⟩:=g2;obtain ⟨x3,rfl,k3⟩:=of_3 h3;have e:_=[]:=g3;subst e;exact ⟨⟨x0,x1,x2,x3⟩,rfl,k0,k1,k2,k3,trivial⟩
theorem of_22{d:Nat}{ps:List PV}(h:WT cfg.ty (d+3) 22 ps):∃x:List Qa,ps=(cLst 4 Qa.cells) x∧(fun l:List Qa=>l.length≤maxLen∧∀x∈l,Qa.ok x) x:=by
 obtain ⟨te,es,e1,rfl,hl,hh⟩:=wt_sl (ti:=ti22) (by kernel_rfl) rfl h;obtain rfl:te=ti39:=Qc (e1.symm.trans (by kernel_rfl:cfg.ty 39=some ti39));obtain ⟨xs,rfl,hx⟩:=list_of (c:=Qa.cells) (ok:=Qa.ok) (fun ps h=>of_39 h) es (fun c hc=>(hh c hc).2);exact ⟨xs,rfl,by simpa using hl,hx⟩
theorem of_24{d:Nat}{ps:List PV}(h:WT cfg.ty (d+4) 24 ps):∃x:Qd,ps=Qd.cells x∧Qd.ok x:=by
 have g:=wt_struct (ti:=ti24) (by kernel_rfl) rfl h
 clear h
 obtain ⟨_,_,_,rfl,_,_,h0,g0⟩:=g;obtain ⟨x0,rfl,k0⟩:=of_3 h0;obtain ⟨_,_,_,rfl,_,_,h1,g1⟩:=g0;obtain ⟨x1,rfl,k1⟩:=of_3 h1;obtain ⟨_,_,_,rfl,_,_,h2,g2⟩:=g1;obtain ⟨x2,rfl,k2⟩:=of_3 h2;obtain ⟨_,_,_,rfl,_,_,h3,g3⟩:=g2;obtain ⟨x3,rfl,k3⟩:=of_22 h3;have e:_=[]:=g3;subst e;exact ⟨⟨x0,x1,x2,x3⟩,rfl,k0,k1,k2,k3,trivial⟩
theorem arg_24{p:PV}(h:WV cfg.ty 4 24 p):∃x:Qd,p = .agg (Qd.cells x)∧Qd.ok x:=by
 obtain ⟨cs,rfl,g⟩:=wv_row (ti:=ti24) (by kernel_rfl) rfl h;obtain ⟨x,rfl,k⟩:=of_24 (d:=0) g;exact ⟨x,rfl,k⟩
end Go.Proofs.YtfeklaffeigilaaDoor
namespace Go.Proofs.YtfeklaffeigilaaDoor
set_option linter.unusedVariables false
set_option linter.unusedSimpArgs false
set_option maxRecDepth 100000
open Go.RowKit
noncomputable def c9:Code:=Tryd.f9.body.getD .skip
inductive f9n2O where
 | exit0
 | ret
def f9n2E(ba1:Qd):f9n2O→Ex×Tr×Hp
 | .exit0=>((.exit 0),mkS [],[])
 | .ret=>(.ret,mkS [(2,(jB true))],[])
def f9n2S(ba1:Qd)(v25:Int):Tr×Hp:=(mkS [(1,(.bp 0 0)),(3,(jI v25))],[some (.box 24 ((Qd.cells ba1).map .pl))])
noncomputable def f9n2:Nat→Qd→Int→Option f9n2O
 | 0,_,_=>none
 | f+1,ba1,v25 =>
  bif decide (v25<(ba1.Rows.length:Int)) then
   (at? ba1.Rows v25).bind fun x32 =>
   bif decide (300<(x32.Account.size:Int)) then
    some .ret
   else
    bif decide (300<(x32.Ccy.size:Int)) then
     some .ret
    else
     (f9n2 f ba1 (wr64 (v25+1)))
  else
   some .exit0
theorem f9n2_ok:∀(f:Nat)(ba1:Qd)(v25:Int){o:f9n2O},f9n2 f ba1 v25=some o→TL Tryd.prog Tryd.f9.ntmps 0 f (cL (cL (Qj 1 (cL (Qj 2 c9))))) (f9n2S ba1 v25) (·=f9n2E ba1 o)
 | 0,_,_,o,h=>by rw [f9n2] at h; cases h
 | f+1,ba1,v25,o,h=>by
  rw [f9n2] at h;refine TL.body (K:=fun s=>∃v25:Int,s=(f9n2S ba1 v25)∧f9n2 f ba1 v25=some o) ?_ (by rintro _ ⟨v25,rfl,hk⟩; exact f9n2_ok f _ _ hk);rcases Qf h with ⟨h27,h⟩|⟨h27,h⟩
  ·obtain ⟨x32,h33,h⟩:=Qb h;rcases Qf h with ⟨h34,h⟩|⟨h34,h⟩
   ·obtain rfl:=Qc h;exact rK Qe 2 [([],[],[(3,.val (jI (ba1.Rows.length:Int)))]),(jT [9,10,11,12,13,14,15,16],[(3,.idx (Int.toNat v25) (Qa.cells x32)),(17,.bool true)],[]),j3] [some true,none] [] [] [2] .ret ((f9n2E ba1 .ret).2) (ap (Qx (xs:=ba1.Rows) (c:=Qa.cells)) (ap h27 (ap (Qi h33).1 (ap (Qu Qa.cells (Qi h33).2) (ap h34 (ap4 h34 (ap4 h34 an))))))) (Qy.out rfl rfl)
   ·rcases Qf h with ⟨h35,h⟩|⟨h35,h⟩
    ·obtain rfl:=Qc h;exact rK Qe 2 [([],[],[(3,.val (jI (ba1.Rows.length:Int)))]),(jF [9,10,11,12,13,14,15,16],[(3,.idx (Int.toNat v25) (Qa.cells x32)),(12,.idx (Int.toNat v25) (Qa.cells x32)),(17,.bool false)],[]),j3] [some true,some true] [] [] [2] .ret ((f9n2E ba1 .ret).2) (ap (Qx (xs:=ba1.Rows) (c:=Qa.cells)) (ap h27 (ap (Qi h33).1 (ap (Qu Qa.cells (Qi h33).2) (ap4 h34 (ap (Qi h33).1 (ap (Qu Qa.cells (Qi h33).2) (ap h34 (ap4 h34 (ap h35 an)))))))))) (Qy.out rfl rfl)
    ·exact rE Qe [([],[],[(3,.val (jI (ba1.Rows.length:Int)))]),(jF [9,10,11,12,13,14,15,16],[(3,.idx (Int.toNat v25) (Qa.cells x32)),(12,.idx (Int.toNat v25) (Qa.cells x32)),(17,.bool false)],[]),j3] [some true,some false] [] [0] [1,3] (.norm,(f9n2S ba1 (wr64 (v25+1)))) (ap (Qx (xs:=ba1.Rows) (c:=Qa.cells)) (ap h27 (ap (Qi h33).1 (ap (Qu Qa.cells (Qi h33).2) (ap4 h34 (ap (Qi h33).1 (ap (Qu Qa.cells (Qi h33).2) (ap h34 (ap4 h34 (ap h35 an)))))))))) (Qy.norm ⟨(wr64 (v25+1)),rfl,h⟩)
  ·obtain rfl:=Qc h;exact rK Qe 1 [([],[],[(3,.val (jI (ba1.Rows.length:Int)))])] [some false] [] [] [] (.exit 0) ((f9n2E ba1 .exit0).2) (ap (Qx (xs:=ba1.Rows) (c:=Qa.cells)) (ap h27 an)) (Qy.out rfl rfl)
noncomputable def f9n2L(ba1:Qd):List Qa→Int→Option f9n2O
 | [],v25 =>
  some .exit0
 | x0::rest,v25 =>
  bif decide (300<(x0.Account.size:Int)) then
   some .ret
  else
   bif decide (300<(x0.Ccy.size:Int)) then
    some .ret
   else
    (f9n2L ba1 rest (v25+1))
theorem f9n2L_eq(ba1:Qd):∀(rest:List Qa)(f k:Nat),ba1.Rows.drop k=rest→ba1.Rows.length≤maxLen→rest.length<f→f9n2 f ba1 (k:Int)=f9n2L ba1 rest (k:Int)
 | _,0,_,_,_,hf=>absurd hf (Nat.not_lt_zero _)
 | [],f+1,k,hd,hm,hf=>by
  have hk:¬((k:Int)<(ba1.Rows.length:Int)):=by have:=Qah hd; omega
  rw [f9n2,f9n2L];simp only [decide_eq_false hk,cond_false]
 | x0::rest,f+1,k,hd,hm,hf=>by
  obtain ⟨hx,hlt,hd'⟩:=Qap hd;have hk:(k:Int)<(ba1.Rows.length:Int):=by omega
  have hw:wr64 ((k:Int)+1)=(k:Int)+1:=wr64_of (by omega) (by unfold maxLen at hm; omega);have ih:f9n2 f ba1 ((k:Int)+1)=f9n2L ba1 rest ((k:Int)+1):=f9n2L_eq ba1 rest f (k+1) hd' hm (by simpa using hf);rw [f9n2,f9n2L];simp only [decide_eq_true hk,cond_true,at_nat,hx,Option.bind_some,hw,ih]
theorem f9n2_run(ba1:Qd)(hm:ba1.Rows.length≤maxLen):f9n2 FUEL ba1 0=f9n2L ba1 ba1.Rows 0:=f9n2L_eq ba1 ba1.Rows FUEL 0 List.drop_zero hm (Qcf hm)
inductive f9n1O where
 | norm
 | ret
def f9n1E(ba1:Qd):f9n1O→Ex×Tr×Hp
 | .norm=>(.norm,mkS [],[])
 | .ret=>(.ret,mkS [(2,(jB true))],[])
def f9n1S(ba1:Qd):Tr×Hp:=(mkS [(1,(.bp 0 0))],[some (.box 24 ((Qd.cells ba1).map .pl))])
noncomputable def f9n1(ba1:Qd):Option f9n1O :=
 (f9n2 FUEL ba1 0).bind fun o36=>match o36 with
 | .exit0=>some .norm
 | .ret=>some .ret
theorem f9n1_ok(ba1:Qd){o:f9n1O}(h:f9n1 ba1=some o):T Tryd.prog Tryd.f9.ntmps 0 (cL (Qj 2 c9)) (f9n1S ba1) (·=f9n1E ba1 o):=by
 unfold f9n1 at h;refine rN Qe 1 [j3] [] [] [0] [1,3] (f9n2S ba1 0) an ?_;obtain ⟨o36,h37,h⟩:=Qb h;cases o36 with
 | exit0 =>
  obtain rfl:=Qc h;exact T.last' (T.bl (i:=0) (by kernel_rfl) (by kernel_rfl) (f9n2_ok FUEL ba1 0 h37)) (tds:=[]) (m:=[]) (keep:=[]) (st2:=(f9n1E ba1 .norm).2) (by kernel_rfl) an rfl
 | ret =>
  obtain rfl:=Qc h;exact T.last' (T.bl (i:=0) (by kernel_rfl) (by kernel_rfl) (f9n2_ok FUEL ba1 0 h37)) (tds:=[]) (m:=[]) (keep:=[2]) (st2:=(f9n1E ba1 .ret).2) (by kernel_rfl) an rfl
inductive f9n0O where
 | ret (v40:Bool)
def f9n0E(a1:Qd):f9n0O→Ex×Tr×Hp
 | .ret v40=>(.ret,mkS [(2,(jB v40))],[])
def f9n0S(a1:Qd):Tr×Hp:=(Qbd [(jA Qd.cells a1)] 0 .leaf,[])
noncomputable def f9n0(a1:Qd):Option f9n0O :=
 bif decide (100<(a1.Rows.length:Int)) then
  some (.ret true)
 else
  (f9n1 a1).bind fun o38=>match o38 with
  | .norm=>some (.ret false)
  | .ret=>some (.ret true)
theorem f9n0_ok(a1:Qd){o:f9n0O}(h:f9n0 a1=some o):T Tryd.prog Tryd.f9.ntmps 0 c9 (f9n0S a1) (·=f9n0E a1 o):=by
 unfold f9n0 at h;rcases Qf h with ⟨h3,h⟩|⟨h3,h⟩
 ·obtain rfl:=Qc h;exact rK Qe 2 [j3,([],[],[(2,.val (jI (a1.Rows.length:Int)))]),j3] [some true] [] [] [2] .ret ((f9n0E a1 (.ret true)).2) (ap (Qx (xs:=a1.Rows) (c:=Qa.cells)) (ap h3 an)) rfl
 ·refine rN Qe 2 [j3,([],[],[(2,.val (jI (a1.Rows.length:Int)))])] [some false] [] [0] [1] (f9n1S a1) (ap (Qx (xs:=a1.Rows) (c:=Qa.cells)) (ap h3 an)) ?_;obtain ⟨o38,h39,h⟩:=Qb h;cases o38 with
  | norm =>
   refine T.oneN (by kernel_rfl) (f9n1_ok a1 h39) (st2:=(f9n1E a1 .norm).2) rfl ?_;obtain rfl:=Qc h;exact rE Qe [j3] [] [] [] [2] (.ret,(f9n0E a1 (.ret false)).2) an rfl
  | ret =>
   obtain rfl:=Qc h;exact T.oneX' (by kernel_rfl) (f9n1_ok a1 h39) (tds:=[]) (m:=[]) (keep:=[2]) (st2:=(f9n0E a1 (.ret true)).2) (by kernel_rfl) an rfl rfl
noncomputable def f9(a1:Qd):Option Bool:=(f9n0 a1).bind fun o=>match o with
 | .ret v40=>some v40
theorem f9_ok(a1:Qd){r:Bool}(h:f9 a1=some r):Qs Tryd.prog false 9 [(jA Qd.cells a1)] [] (jB r) []:=by
 unfold f9 at h;obtain ⟨o,ho,h⟩:=Qb h;cases o with
 | ret v40 =>
  obtain rfl:=Qc h;exact Qs.plain Qe (f:=Tryd.f9) (c:=c9) (by kernel_rfl) (by kernel_rfl) (by kernel_rfl) (by kernel_rfl) ((f9n0_ok a1 ho).mono fun r e=>by subst e; exact ⟨.inl rfl,(jB v40),(jB v40),by kernel_rfl,by kernel_rfl,((Wk.refl _):Wk (jB v40) (jB v40))⟩)

noncomputable def c39:Code:=Tryd.f39.body.getD .skip
inductive f39n0O where
 | ret (v7:Bool)
def f39n0E(a1 a2:Int):f39n0O→Ex×Tr×Hp
 | .ret v7=>(.ret,mkS [(4,(jB v7))],[])
def f39n0S(a1 a2:Int):Tr×Hp:=(Qbd [(jI a1),(jI a2)] 0 .leaf,[])
noncomputable def f39n0(a1 a2:Int):Option f39n0O :=
 bif decide (0≤a1) then
  bif decide (a1≤a2) then
   some (.ret (decide (a2≤100000)))
  else
   some (.ret false)
 else
  some (.ret false)
theorem f39n0_ok(a1 a2:Int){o:f39n0O}(h:f39n0 a1 a2=some o):T Tryd.prog Tryd.f39.ntmps 0 c39 (f39n0S a1 a2) (·=f39n0E a1 a2 o):=by
 unfold f39n0 at h;rcases Qf h with ⟨h5,h⟩|⟨h5,h⟩
 ·rcases Qf h with ⟨h6,h⟩|⟨h6,h⟩
  ·obtain rfl:=Qc h;exact rE Qe [j3,(jT [3,4,5,8,9],[(6,.bool true),(10,.bool true)],[])] [] [] [] [4] (.ret,(f39n0E a1 a2 (.ret (decide (a2≤100000)))).2) (ap4 h5 (ap3 h6 an)) rfl
  ·obtain rfl:=Qc h;exact rE Qe [j3,(jF [8,9]++jT [3,4,5],[(6,.bool true),(10,.bool false)],[])] [] [] [] [4] (.ret,(f39n0E a1 a2 (.ret false)).2) (ap4 h5 (ap3 h6 an)) rfl
 ·obtain rfl:=Qc h;exact rE Qe [j3,(jF [3,4,5],[(6,.bool false)],[])] [] [] [] [4] (.ret,(f39n0E a1 a2 (.ret false)).2) (ap4 h5 an) rfl
noncomputable def f39(a1 a2:Int):Option Bool:=(f39n0 a1 a2).bind fun o=>match o with
 | .ret v7=>some v7
theorem f39_ok(a1 a2:Int){r:Bool}(h:f39 a1 a2=some r):Qs Tryd.prog false 39 [(jI a1),(jI a2)] [] (jB r) []:=by
 unfold f39 at h;obtain ⟨o,ho,h⟩:=Qb h;cases o with
 | ret v7 =>
  obtain rfl:=Qc h;exact Qs.plain Qe (f:=Tryd.f39) (c:=c39) (by kernel_rfl) (by kernel_rfl) (by kernel_rfl) (by kernel_rfl) ((f39n0_ok a1 a2 ho).mono fun r e=>by subst e; exact ⟨.inl rfl,(jB v7),(jB v7),by kernel_rfl,by kernel_rfl,((Wk.refl _):Wk (jB v7) (jB v7))⟩)

noncomputable def c60:Code:=Tryd.f60.body.getD .skip
inductive f60n0O where
 | ret (v10:Bool)
def f60n0E(a1:Int):f60n0O→Ex×Tr×Hp
 | .ret v10=>(.ret,mkS [(2,(jB v10))],[])
def f60n0S(a1:Int):Tr×Hp:=(Qbd [(.pl (.int .u8 a1))] 0 .leaf,[])
noncomputable def f60n0(a1:Int):Option f60n0O :=
 bif decide (97≤a1) then
  bif decide (a1≤122) then
   some (.ret true)
  else
   bif decide (65≤a1) then
    some (.ret (decide (a1≤90)))
   else
    some (.ret false)
 else
  bif decide (65≤a1) then
   some (.ret (decide (a1≤90)))
  else
   some (.ret false)
theorem f60n0_ok(a1:Int){o:f60n0O}(h:f60n0 a1=some o):T Tryd.prog Tryd.f60.ntmps 0 c60 (f60n0S a1) (·=f60n0E a1 o):=by
 unfold f60n0 at h;rcases Qf h with ⟨h6,h⟩|⟨h6,h⟩
 ·rcases Qf h with ⟨h7,h⟩|⟨h7,h⟩
  ·obtain rfl:=Qc h;exact rE Qe [j3,(jT [3,4,7,8,9,12],[(5,.bool true),(13,.bool true)],[])] [] [] [] [2] (.ret,(f60n0E a1 (.ret true)).2) (ap3 h6 (ap h7 (ap4 h7 an))) rfl
  ·rcases Qf h with ⟨h8,h⟩|⟨h8,h⟩
   ·obtain rfl:=Qc h;exact rE Qe [j3,(jF [7,8,9,12]++jT [3,4,10,11],[(5,.bool true),(12,.bool true),(13,.bool false)],[])] [] [] [] [2] (.ret,(f60n0E a1 (.ret (decide (a1≤90)))).2) (ap3 h6 (ap3 h7 (ap2 h8 (ap h7 (ap h8 (ap h7 an)))))) rfl
   ·obtain rfl:=Qc h;exact rE Qe [j3,(jF [7,8,9,10,11,12]++jT [3,4],[(5,.bool true),(12,.bool false),(13,.bool false)],[])] [] [] [] [2] (.ret,(f60n0E a1 (.ret false)).2) (ap3 h6 (ap3 h7 (ap2 h8 (ap h7 (ap h8 (ap h7 an)))))) rfl
 ·rcases Qf h with ⟨h9,h⟩|⟨h9,h⟩
  ·obtain rfl:=Qc h;exact rE Qe [j3,(jF [3,4]++jT [10,11],[(5,.bool false),(12,.bool true)],[])] [] [] [] [2] (.ret,(f60n0E a1 (.ret (decide (a1≤90)))).2) (ap3 h6 (ap3 h9 an)) rfl
  ·obtain rfl:=Qc h;exact rE Qe [j3,(jF [3,4,10,11],[(5,.bool false),(12,.bool false)],[])] [] [] [] [2] (.ret,(f60n0E a1 (.ret false)).2) (ap3 h6 (ap3 h9 an)) rfl
noncomputable def f60(a1:Int):Option Bool:=(f60n0 a1).bind fun o=>match o with
 | .ret v10=>some v10
theorem f60_ok(a1:Int){r:Bool}(h:f60 a1=some r):Qs Tryd.prog false 60 [(.pl (.int .u8 a1))] [] (jB r) []:=by
 unfold f60 at h;obtain ⟨o,ho,h⟩:=Qb h;cases o with
 | ret v10 =>
  obtain rfl:=Qc h;exact Qs.plain Qe (f:=Tryd.f60) (c:=c60) (by kernel_rfl) (by kernel_rfl) (by kernel_rfl) (by kernel_rfl) ((f60n0_ok a1 ho).mono fun r e=>by subst e; exact ⟨.inl rfl,(jB v10),(jB v10),by kernel_rfl,by kernel_rfl,((Wk.refl _):Wk (jB v10) (jB v10))⟩)

noncomputable def c40:Code:=Tryd.f40.body.getD .skip
inductive f40n3O where
 | norm (v148:Bool)
def f40n3E(bb1:ByteArray)(bc2:UInt8)(bd3:Int):f40n3O→Ex×Tr×Hp
 | .norm v148=>(.norm,mkS [(0,(jS bb1)),(20,(jI (bb1.size:Int))),(21,(jI bd3)),(45,(jB v148))],[])
def f40n3S(bb1:ByteArray)(bc2:UInt8)(bd3:Int):Tr×Hp:=(mkS [(0,(jS bb1)),(4,(.pl (.int .u8 (bc2.toNat:Int)))),(20,(jI (bb1.size:Int))),(21,(jI bd3))],[])
noncomputable def f40n3(bb1:ByteArray)(bc2:UInt8)(bd3:Int):Option f40n3O :=
 (f60 (bc2.toNat:Int)).bind fun x141 =>
 bif x141 then
  some (.norm false)
 else
  bif decide ((bc2.toNat:Int)<48) then
   bif decide ((bc2.toNat:Int)=95) then
    some (.norm false)
   else
    some (.norm (!(decide ((bc2.toNat:Int)=45))))
  else
   bif decide (57<(bc2.toNat:Int)) then
    bif decide ((bc2.toNat:Int)=95) then
     some (.norm false)
    else
     some (.norm (!(decide ((bc2.toNat:Int)=45))))
   else
    some (.norm false)
theorem f40n3_ok(bb1:ByteArray)(bc2:UInt8)(bd3:Int){o:f40n3O}(h:f40n3 bb1 bc2 bd3=some o):T Tryd.prog Tryd.f40.ntmps 0 (cL (Qj 2 (cL (cL (Qj 2 (cL (cL (Qj 1 (cL (Qj 2 c40)))))))))) (f40n3S bb1 bc2 bd3) (·=f40n3E bb1 bc2 bd3 o):=by
 unfold f40n3 at h;obtain ⟨x141,h142,h⟩:=Qb h;rcases Qf h with ⟨h143,h⟩|⟨h143,h⟩
 ·obtain rfl:=Qc h;exact rE Qe [(jF [4,5,6,9],[jH 1 (jB x141),(10,.bool false)],[])] [] [] [] [0,20,21,45] (.norm,(f40n3E bb1 bc2 bd3 (.norm false)).2) (ap (Qo h143) (ap4 (Qo h143) (ap (f60_ok (bc2.toNat:Int) h142) an))) rfl
 ·rcases Qf h with ⟨h144,h⟩|⟨h144,h⟩
  ·rcases Qf h with ⟨h145,h⟩|⟨h145,h⟩
   ·obtain rfl:=Qc h;exact rE Qe [(jF [16,17]++jT [4,5,6,7,8,9],[jH 1 (jB x141),(9,.bool true),(10,.bool true),(18,.bool false)],[])] [] [] [] [0,20,21,45] (.norm,(f40n3E bb1 bc2 bd3 (.norm false)).2) (ap3 (Qag h143) (ap2 h144 (ap (Qag h143) (ap h144 (ap (Qag h143) (ap3 (Qo h145) (ap (f60_ok (bc2.toNat:Int) h142) an))))))) rfl
   ·obtain rfl:=Qc h;exact rE Qe [(jT [4,5,6,7,8,9,16,17],[jH 1 (jB x141),(9,.bool true),(10,.bool true),(18,.bool true)],[])] [] [] [] [0,20,21,45] (.norm,(f40n3E bb1 bc2 bd3 (.norm (!(decide ((bc2.toNat:Int)=45))))).2) (ap3 (Qag h143) (ap2 h144 (ap (Qag h143) (ap h144 (ap (Qag h143) (ap3 (Qag h145) (ap (f60_ok (bc2.toNat:Int) h142) an))))))) rfl
  ·rcases Qf h with ⟨h146,h⟩|⟨h146,h⟩
   ·rcases Qf h with ⟨h147,h⟩|⟨h147,h⟩
    ·obtain rfl:=Qc h;exact rE Qe [(jF [7,8,16,17]++jT [4,5,6,9,12,13],[jH 1 (jB x141),(9,.bool false),(10,.bool true),(14,.bool true),(18,.bool false)],[])] [] [] [] [0,20,21,45] (.norm,(f40n3E bb1 bc2 bd3 (.norm false)).2) (ap3 (Qag h143) (ap2 h144 (ap (Qag h143) (ap h144 (ap (Qag h143) (ap3 h146 (ap3 (Qo h147) (ap (f60_ok (bc2.toNat:Int) h142) an)))))))) rfl
    ·obtain rfl:=Qc h;exact rE Qe [(jF [7,8]++jT [4,5,6,9,12,13,16,17],[jH 1 (jB x141),(9,.bool false),(10,.bool true),(14,.bool true),(18,.bool true)],[])] [] [] [] [0,20,21,45] (.norm,(f40n3E bb1 bc2 bd3 (.norm (!(decide ((bc2.toNat:Int)=45))))).2) (ap3 (Qag h143) (ap2 h144 (ap (Qag h143) (ap h144 (ap (Qag h143) (ap3 h146 (ap3 (Qag h147) (ap (f60_ok (bc2.toNat:Int) h142) an)))))))) rfl
   ·obtain rfl:=Qc h;exact rE Qe [(jF [7,8,12,13]++jT [4,5,6,9],[jH 1 (jB x141),(9,.bool false),(10,.bool true),(14,.bool false)],[])] [] [] [] [0,20,21,45] (.norm,(f40n3E bb1 bc2 bd3 (.norm false)).2) (ap3 (Qag h143) (ap2 h144 (ap (Qag h143) (ap h144 (ap (Qag h143) (ap3 h146 (ap (f60_ok (bc2.toNat:Int) h142) an))))))) rfl
inductive f40n2O where
 | norm
 | ret
def f40n2E(bb1:ByteArray)(bd2:Int):f40n2O→Ex×Tr×Hp
 | .norm=>(.norm,mkS [(0,(jS bb1)),(20,(jI (bb1.size:Int))),(21,(jI bd2))],[])
 | .ret=>(.ret,mkS [(2,(jB false))],[])
def f40n2S(bb1:ByteArray)(bd2:Int):Tr×Hp:=(mkS [(0,(jS bb1)),(20,(jI (bb1.size:Int))),(21,(jI bd2))],[])
noncomputable def f40n2(bb1:ByteArray)(bd2:Int):Option f40n2O :=
 (at? bb1.data.toList bd2).bind fun x125 =>
 (f40n3 bb1 x125 bd2).bind fun o149=>match o149 with
 | .norm v151=>bif v151 then
   some .ret
  else
   some .norm
theorem f40n2_ok(bb1:ByteArray)(bd2:Int){o:f40n2O}(h:f40n2 bb1 bd2=some o):T Tryd.prog Tryd.f40.ntmps 0 (cL (Qj 2 (cL (cL (Qj 1 (cL (Qj 2 c40))))))) (f40n2S bb1 bd2) (·=f40n2E bb1 bd2 o):=by
 unfold f40n2 at h;refine T.block' (i:=1) (by kernel_rfl) ?_;obtain ⟨x125,h126,h⟩:=Qb h;refine rN Qe 2 [j3,([],[(2,.byte (Int.toNat bd2) x125)],[])] [] [] [] [0,4,20,21] (f40n3S bb1 x125 bd2) (ap (Qi h126).1 (ap (Qi h126).2 an)) ?_;obtain ⟨o149,h150,h⟩:=Qb h;cases o149 with
 | norm v151 =>
  refine T.oneN (by kernel_rfl) (f40n3_ok bb1 x125 bd2 h150) (st2:=(f40n3E bb1 x125 bd2 (.norm v151)).2) rfl ?_;rcases Qf h with ⟨h153,h⟩|⟨h153,h⟩
  ·obtain rfl:=Qc h;exact rE Qe [j3] [some true] [] [] [2] (.ret,(f40n2E bb1 bd2 .ret).2) (ap h153 an) rfl
  ·obtain rfl:=Qc h;exact rE Qe [] [some false] [] [] [0,20,21] (.norm,(f40n2E bb1 bd2 .norm).2) (ap h153 an) rfl
inductive f40n4O where
 | exit0
 | ret
def f40n4E(bb1:ByteArray):f40n4O→Ex×Tr×Hp
 | .exit0=>((.exit 0),mkS [],[])
 | .ret=>(.ret,mkS [(2,(jB false))],[])
def f40n4S(bb1:ByteArray)(v109:Int):Tr×Hp:=(mkS [(0,(jS bb1)),(20,(jI (bb1.size:Int))),(21,(jI v109))],[])
noncomputable def f40n4:Nat→ByteArray→Int→Option f40n4O
 | 0,_,_=>none
 | f+1,bb1,v109 =>
  bif decide (v109<(bb1.size:Int)) then
   (f40n2 bb1 v109).bind fun o154=>match o154 with
   | .norm=>(f40n4 f bb1 (wr64 (v109+1)))
   | .ret=>some .ret
  else
   some .exit0
theorem f40n4_ok:∀(f:Nat)(bb1:ByteArray)(v109:Int){o:f40n4O},f40n4 f bb1 v109=some o→TL Tryd.prog Tryd.f40.ntmps 0 f (cL (cL (Qj 1 (cL (Qj 2 c40))))) (f40n4S bb1 v109) (·=f40n4E bb1 o)
 | 0,_,_,o,h=>by rw [f40n4] at h; cases h
 | f+1,bb1,v109,o,h=>by
  rw [f40n4] at h;refine TL.body (K:=fun s=>∃v109:Int,s=(f40n4S bb1 v109)∧f40n4 f bb1 v109=some o) ?_ (by rintro _ ⟨v109,rfl,hk⟩; exact f40n4_ok f _ _ hk);rcases Qf h with ⟨h111,h⟩|⟨h111,h⟩
  ·refine rN Qe 2 [j3] [some true] [] [] [0,20,21] (f40n2S bb1 v109) (ap h111 an) ?_;obtain ⟨o154,h155,h⟩:=Qb h;cases o154 with
   | norm =>
    refine T.oneN (by kernel_rfl) (f40n2_ok bb1 v109 h155) (st2:=(f40n2E bb1 v109 .norm).2) rfl ?_;exact rE Qe [j3] [] [] [] [0,20,21] (.norm,(f40n4S bb1 (wr64 (v109+1)))) an (Qy.norm ⟨(wr64 (v109+1)),rfl,h⟩)
   | ret =>
    obtain rfl:=Qc h;exact T.oneX' (by kernel_rfl) (f40n2_ok bb1 v109 h155) (tds:=[]) (m:=[]) (keep:=[2]) (st2:=(f40n4E bb1 .ret).2) (by kernel_rfl) an rfl (Qy.out rfl rfl)
  ·obtain rfl:=Qc h;exact rK Qe 2 [j3] [some false] [] [] [] (.exit 0) ((f40n4E bb1 .exit0).2) (ap h111 an) (Qy.out rfl rfl)
inductive f40n1O where
 | norm
 | ret
def f40n1E(bb1:ByteArray):f40n1O→Ex×Tr×Hp
 | .norm=>(.norm,mkS [],[])
 | .ret=>(.ret,mkS [(2,(jB false))],[])
def f40n1S(bb1:ByteArray):Tr×Hp:=(mkS [(0,(jS bb1))],[])
noncomputable def f40n1(bb1:ByteArray):Option f40n1O :=
 (f40n4 FUEL bb1 0).bind fun o156=>match o156 with
 | .exit0=>some .norm
 | .ret=>some .ret
theorem f40n1_ok(bb1:ByteArray){o:f40n1O}(h:f40n1 bb1=some o):T Tryd.prog Tryd.f40.ntmps 0 (cL (Qj 2 c40)) (f40n1S bb1) (·=f40n1E bb1 o):=by
 unfold f40n1 at h;refine rN Qe 1 [j3] [] [] [] [0,20,21] (f40n4S bb1 0) an ?_;obtain ⟨o156,h157,h⟩:=Qb h;cases o156 with
 | exit0 =>
  obtain rfl:=Qc h;exact T.last' (T.bl (i:=0) (by kernel_rfl) (by kernel_rfl) (f40n4_ok FUEL bb1 0 h157)) (tds:=[]) (m:=[]) (keep:=[]) (st2:=(f40n1E bb1 .norm).2) (by kernel_rfl) an rfl
 | ret =>
  obtain rfl:=Qc h;exact T.last' (T.bl (i:=0) (by kernel_rfl) (by kernel_rfl) (f40n4_ok FUEL bb1 0 h157)) (tds:=[]) (m:=[]) (keep:=[2]) (st2:=(f40n1E bb1 .ret).2) (by kernel_rfl) an rfl
inductive f40n0O where
 | ret (v160:Bool)
def f40n0E(a1:ByteArray):f40n0O→Ex×Tr×Hp
 | .ret v160=>(.ret,mkS [(2,(jB v160))],[])
def f40n0S(a1:ByteArray):Tr×Hp:=(Qbd [(jS a1)] 0 .leaf,[])
noncomputable def f40n0(a1:ByteArray):Option f40n0O :=
 bif decide ((a1.size:Int)<1) then
  some (.ret false)
 else
  bif decide (40<(a1.size:Int)) then
   some (.ret false)
  else
   (at? a1.data.toList 0).bind fun x11 =>
   (f60 (x11.toNat:Int)).bind fun x13 =>
   bif x13 then
    (f40n1 a1).bind fun o158=>match o158 with
    | .norm=>some (.ret true)
    | .ret=>some (.ret false)
   else
    some (.ret false)
theorem f40n0_ok(a1:ByteArray){o:f40n0O}(h:f40n0 a1=some o):T Tryd.prog Tryd.f40.ntmps 0 c40 (f40n0S a1) (·=f40n0E a1 o):=by
 unfold f40n0 at h;rcases Qf h with ⟨h9,h⟩|⟨h9,h⟩
 ·obtain rfl:=Qc h;exact rK Qe 2 [j3,(jT [4,5,6],[(7,.bool true)],[]),j3] [none] [] [] [2] .ret ((f40n0E a1 (.ret false)).2) (ap4 h9 an) rfl
 ·rcases Qf h with ⟨h10,h⟩|⟨h10,h⟩
  ·obtain rfl:=Qc h;exact rK Qe 2 [j3,(jF [4,5,6]++jT [9,10,11,12],[(7,.bool false),(13,.bool true)],[]),j3] [none] [] [] [2] .ret ((f40n0E a1 (.ret false)).2) (ap4 h9 (ap h10 (ap4 h10 an))) rfl
  ·obtain ⟨x11,h12,h⟩:=Qb h;obtain ⟨x13,h14,h⟩:=Qb h;rcases Qf h with ⟨h15,h⟩|⟨h15,h⟩
   ·refine rN Qe 2 [j3,(jF [4,5,6,9,10,11,12],[(7,.bool false),(10,.byte (Int.toNat 0) x11),jH 11 (jB x13),(13,.bool false)],[])] [some false] [] [] [0] (f40n1S a1) (ap4 h9 (ap2 h10 (ap (Qi h12).1 (ap (Qi h12).2 (ap3 h10 (ap (f60_ok (x11.toNat:Int) h14) (ap (Qo h15) an))))))) ?_;obtain ⟨o158,h159,h⟩:=Qb h;cases o158 with
    | norm =>
     refine T.oneN (by kernel_rfl) (f40n1_ok a1 h159) (st2:=(f40n1E a1 .norm).2) rfl ?_;obtain rfl:=Qc h;exact rE Qe [j3] [] [] [] [2] (.ret,(f40n0E a1 (.ret true)).2) an rfl
    | ret =>
     obtain rfl:=Qc h;exact T.oneX' (by kernel_rfl) (f40n1_ok a1 h159) (tds:=[]) (m:=[]) (keep:=[2]) (st2:=(f40n0E a1 (.ret false)).2) (by kernel_rfl) an rfl rfl
   ·obtain rfl:=Qc h;exact rK Qe 2 [j3,(jF [4,5,6,9,10,11,12],[(7,.bool false),(10,.byte (Int.toNat 0) x11),jH 11 (jB x13),(13,.bool false)],[]),j3] [some true] [] [] [2] .ret ((f40n0E a1 (.ret false)).2) (ap4 h9 (ap2 h10 (ap (Qi h12).1 (ap (Qi h12).2 (ap3 h10 (ap (f60_ok (x11.toNat:Int) h14) (ap (Qag h15) an))))))) rfl
noncomputable def f40(a1:ByteArray):Option Bool:=(f40n0 a1).bind fun o=>match o with
 | .ret v160=>some v160
theorem Qal(a1:ByteArray){r:Bool}(h:f40 a1=some r):Qs Tryd.prog false 40 [(jS a1)] [] (jB r) []:=by
 unfold f40 at h;obtain ⟨o,ho,h⟩:=Qb h;cases o with
 | ret v160 =>
  obtain rfl:=Qc h;exact Qs.plain Qe (f:=Tryd.f40) (c:=c40) (by kernel_rfl) (by kernel_rfl) (by kernel_rfl) (by kernel_rfl) ((f40n0_ok a1 ho).mono fun r e=>by subst e; exact ⟨.inl rfl,(jB v160),(jB v160),by kernel_rfl,by kernel_rfl,((Wk.refl _):Wk (jB v160) (jB v160))⟩)

noncomputable def c80:Code:=Tryd.f80.body.getD .skip
inductive f80n0O where
 | ret
def f80n0E(a1:ByteArray):f80n0O→Ex×Tr×Hp
 | .ret=>(.ret,mkS [(2,(.pl (.bool (!(seq a1 a1)))))],[])
def f80n0S(a1:ByteArray):Tr×Hp:=(Qbd [(jS a1)] 0 .leaf,[])
noncomputable def f80n0(a1:ByteArray):Option f80n0O :=
 some .ret
theorem f80n0_ok(a1:ByteArray){o:f80n0O}(h:f80n0 a1=some o):T Tryd.prog Tryd.f80.ntmps 0 c80 (f80n0S a1) (·=f80n0E a1 o):=by
 unfold f80n0 at h;obtain rfl:=Qc h;exact rE Qe [j3,j3] [] [] [] [2] (.ret,(f80n0E a1 .ret).2) an rfl
noncomputable def f80(a1:ByteArray):Option Bool:=(f80n0 a1).bind fun o=>match o with
 | .ret=>some (!(seq a1 a1))
theorem f80_ok(a1:ByteArray){r:Bool}(h:f80 a1=some r):Qs Tryd.prog false 80 [(jS a1)] [] (jB r) []:=by
 unfold f80 at h;obtain ⟨o,ho,h⟩:=Qb h;cases o with
 | ret =>
  obtain rfl:=Qc h;exact Qs.plain Qe (f:=Tryd.f80) (c:=c80) (by kernel_rfl) (by kernel_rfl) (by kernel_rfl) (by kernel_rfl) ((f80n0_ok a1 ho).mono fun r e=>by subst e; exact ⟨.inl rfl,(.pl (.bool (!(seq a1 a1)))),(.pl (.bool (!(seq a1 a1)))),by kernel_rfl,by kernel_rfl,((Wk.refl _):Wk (.pl (.bool (!(seq a1 a1)))) (.pl (.bool (!(seq a1 a1)))))⟩)

noncomputable def c62:Code:=Tryd.f62.body.getD .skip
inductive f62n0O where
 | ret (v21:Int)
def f62n0E(a1 a2:ByteArray):f62n0O→Ex×Tr×Hp
 | .ret v21=>(.ret,mkS [(4,(jI v21))],[])
def f62n0S(a1 a2:ByteArray):Tr×Hp:=(Qbd [(jS a1),(jS a2)] 0 .leaf,[])
noncomputable def f62n0(a1 a2:ByteArray):Option f62n0O :=
 (f80 a1).bind fun x5 =>
 (f80 a2).bind fun x9 =>
 bif x5 then
  bif x9 then
   some (.ret 0)
  else
   some (.ret (-1))
 else
  bif x9 then
   some (.ret 1)
  else
   bif (slt a1 a2) then
    some (.ret (-1))
   else
    bif (slt a1 a2||seq a1 a2) then
     some (.ret 0)
    else
     some (.ret 1)
theorem f62n0_ok(a1 a2:ByteArray){o:f62n0O}(h:f62n0 a1 a2=some o):T Tryd.prog Tryd.f62.ntmps 0 c62 (f62n0S a1 a2) (·=f62n0E a1 a2 o):=by
 unfold f62n0 at h;obtain ⟨x5,h6,h⟩:=Qb h;obtain ⟨x9,h10,h⟩:=Qb h;rcases Qf h with ⟨h13,h⟩|⟨h13,h⟩
 ·rcases Qf h with ⟨h14,h⟩|⟨h14,h⟩
  ·obtain rfl:=Qc h;exact rK Qe 4 [j3,([],[jH 1 (jB x5)],[]),([],[jH 1 (jB x9)],[]),j3,j3,j3] [some true,some true] [] [] [4] .ret ((f62n0E a1 a2 (.ret 0)).2) (ap (f80_ok a1 h6) (ap (f80_ok a2 h10) (ap h13 (ap h14 an)))) rfl
  ·obtain rfl:=Qc h;exact rK Qe 4 [j3,([],[jH 1 (jB x5)],[]),([],[jH 1 (jB x9)],[]),j3,j3,j3] [some true,some false] [] [] [4] .ret ((f62n0E a1 a2 (.ret (-1))).2) (ap (f80_ok a1 h6) (ap (f80_ok a2 h10) (ap h13 (ap h14 an)))) rfl
 ·rcases Qf h with ⟨h16,h⟩|⟨h16,h⟩
  ·obtain rfl:=Qc h;exact rK Qe 5 [j3,([],[jH 1 (jB x5)],[]),([],[jH 1 (jB x9)],[]),j3,j3,j3] [some false,some true] [] [] [4] .ret ((f62n0E a1 a2 (.ret 1)).2) (ap (f80_ok a1 h6) (ap (f80_ok a2 h10) (ap h13 (ap h16 an)))) rfl
  ·rcases Qf h with ⟨h18,h⟩|⟨h18,h⟩
   ·obtain rfl:=Qc h;exact rK Qe 6 [j3,([],[jH 1 (jB x5)],[]),([],[jH 1 (jB x9)],[]),j3,j3,j3,j3] [some false,some false,some true] [] [] [4] .ret ((f62n0E a1 a2 (.ret (-1))).2) (ap (f80_ok a1 h6) (ap (f80_ok a2 h10) (ap h13 (ap h16 (ap h18 an))))) rfl
   ·rcases Qf h with ⟨h20,h⟩|⟨h20,h⟩
    ·obtain rfl:=Qc h;exact rE Qe [j3,([],[jH 1 (jB x5)],[]),([],[jH 1 (jB x9)],[]),j3,j3,j3,j3,j3] [some false,some false,some false,some false] [] [] [4] (.ret,(f62n0E a1 a2 (.ret 0)).2) (ap (f80_ok a1 h6) (ap (f80_ok a2 h10) (ap h13 (ap h16 (ap h18 (ap (Qo h20) an)))))) rfl
    ·obtain rfl:=Qc h;exact rK Qe 7 [j3,([],[jH 1 (jB x5)],[]),([],[jH 1 (jB x9)],[]),j3,j3,j3,j3,j3] [some false,some false,some false,some true] [] [] [4] .ret ((f62n0E a1 a2 (.ret 1)).2) (ap (f80_ok a1 h6) (ap (f80_ok a2 h10) (ap h13 (ap h16 (ap h18 (ap (Qag h20) an)))))) rfl
noncomputable def f62(a1 a2:ByteArray):Option Int:=(f62n0 a1 a2).bind fun o=>match o with
 | .ret v21=>some v21
theorem f62_ok(a1 a2:ByteArray){r:Int}(h:f62 a1 a2=some r):Qs Tryd.prog false 62 [(jS a1),(jS a2)] [] (jI r) []:=by
 unfold f62 at h;obtain ⟨o,ho,h⟩:=Qb h;cases o with
 | ret v21 =>
  obtain rfl:=Qc h;exact Qs.plain Qe (f:=Tryd.f62) (c:=c62) (by kernel_rfl) (by kernel_rfl) (by kernel_rfl) (by kernel_rfl) ((f62n0_ok a1 a2 ho).mono fun r e=>by subst e; exact ⟨.inl rfl,(jI v21),(jI v21),by kernel_rfl,by kernel_rfl,((Wk.refl _):Wk (jI v21) (jI v21))⟩)

noncomputable def c61:Code:=Tryd.f61.body.getD .skip
inductive f61n2O where
 | exit0
 | ret (v28:Int)
def f61n2E(bf1:List Int):f61n2O→Ex×Tr×Hp
 | .exit0=>((.exit 0),mkS [(3,(jI 0))],[])
 | .ret v28=>(.ret,mkS [(2,(jI v28))],[])
def f61n2S(bf1:List Int)(v19:Int):Tr×Hp:=(mkS [(3,(jI 0)),(6,(.pl (.sl .any 1 (bf1.map (cInt .i64))))),(7,(jI (bf1.length:Int))),(8,(jI v19))],[])
noncomputable def f61n2:Nat→List Int→Int→Option f61n2O
 | 0,_,_=>none
 | f+1,bf1,v19 =>
  bif decide (v19<(bf1.length:Int)) then
   (at? bf1 v19).bind fun x25 =>
   bif decide (x25=0) then
    (f61n2 f bf1 (wr64 (v19+1)))
   else
    some (.ret x25)
  else
   some .exit0
theorem f61n2_ok:∀(f:Nat)(bf1:List Int)(v19:Int){o:f61n2O},f61n2 f bf1 v19=some o→TL Tryd.prog Tryd.f61.ntmps 0 f (cL (cL (Qj 1 (cL (Qj 2 c61))))) (f61n2S bf1 v19) (·=f61n2E bf1 o)
 | 0,_,_,o,h=>by rw [f61n2] at h; cases h
 | f+1,bf1,v19,o,h=>by
  rw [f61n2] at h;refine TL.body (K:=fun s=>∃v19:Int,s=(f61n2S bf1 v19)∧f61n2 f bf1 v19=some o) ?_ (by rintro _ ⟨v19,rfl,hk⟩; exact f61n2_ok f _ _ hk);rcases Qf h with ⟨h21,h⟩|⟨h21,h⟩
  ·obtain ⟨x25,h26,h⟩:=Qb h;rcases Qf h with ⟨h27,h⟩|⟨h27,h⟩
   ·exact rE Qe [j3,([],[(0,.idx (Int.toNat v19) ((cInt .i64) x25))],[]),j3,j3] [some true,some false] [] [] [3,6,7,8] (.norm,(f61n2S bf1 (wr64 (v19+1)))) (ap h21 (ap (Qi h26).1 (ap (Qu (cInt .i64) (Qi h26).2) (ap (Qo h27) an)))) (Qy.norm ⟨(wr64 (v19+1)),rfl,h⟩)
   ·obtain rfl:=Qc h;exact rK Qe 3 [j3,([],[(0,.idx (Int.toNat v19) ((cInt .i64) x25))],[]),j3,j3] [some true,some true] [] [] [2] .ret ((f61n2E bf1 (.ret x25)).2) (ap h21 (ap (Qi h26).1 (ap (Qu (cInt .i64) (Qi h26).2) (ap (Qag h27) an)))) (Qy.out rfl rfl)
  ·obtain rfl:=Qc h;exact rK Qe 2 [j3] [some false] [] [] [3] (.exit 0) ((f61n2E bf1 .exit0).2) (ap h21 an) (Qy.out rfl rfl)
noncomputable def f61n2L(bf1:List Int):List Int→Int→Option f61n2O
 | [],v19 =>
  some .exit0
 | x0::rest,v19 =>
  bif decide (x0=0) then
   (f61n2L bf1 rest (v19+1))
  else
   some (.ret x0)
theorem f61n2L_eq(bf1:List Int):∀(rest:List Int)(f k:Nat),bf1.drop k=rest→bf1.length≤maxLen→rest.length<f→f61n2 f bf1 (k:Int)=f61n2L bf1 rest (k:Int)
 | _,0,_,_,_,hf=>absurd hf (Nat.not_lt_zero _)
 | [],f+1,k,hd,hm,hf=>by
  have hk:¬((k:Int)<(bf1.length:Int)):=by have:=Qah hd; omega
  rw [f61n2,f61n2L];simp only [decide_eq_false hk,cond_false]
 | x0::rest,f+1,k,hd,hm,hf=>by
  obtain ⟨hx,hlt,hd'⟩:=Qap hd;have hk:(k:Int)<(bf1.length:Int):=by omega
  have hw:wr64 ((k:Int)+1)=(k:Int)+1:=wr64_of (by omega) (by unfold maxLen at hm; omega);have ih:f61n2 f bf1 ((k:Int)+1)=f61n2L bf1 rest ((k:Int)+1):=f61n2L_eq bf1 rest f (k+1) hd' hm (by simpa using hf);rw [f61n2,f61n2L];simp only [decide_eq_true hk,cond_true,at_nat,hx,Option.bind_some,hw,ih]
theorem f61n2_run(bf1:List Int)(hm:bf1.length≤maxLen):f61n2 FUEL bf1 0=f61n2L bf1 bf1 0:=f61n2L_eq bf1 bf1 FUEL 0 List.drop_zero hm (Qcf hm)
inductive f61n1O where
 | norm
 | ret (v32:Int)
def f61n1E(bf1:List Int):f61n1O→Ex×Tr×Hp
 | .norm=>(.norm,mkS [(3,(jI 0))],[])
 | .ret v32=>(.ret,mkS [(2,(jI v32))],[])
def f61n1S(bf1:List Int):Tr×Hp:=(mkS [(0,(.pl (.sl .any 1 (bf1.map (cInt .i64))))),(3,(jI 0))],[])
noncomputable def f61n1(bf1:List Int):Option f61n1O :=
 (f61n2 FUEL bf1 0).bind fun o29=>match o29 with
 | .exit0=>some .norm
 | .ret v31=>some (.ret v31)
theorem f61n1_ok(bf1:List Int){o:f61n1O}(h:f61n1 bf1=some o):T Tryd.prog Tryd.f61.ntmps 0 (cL (Qj 2 c61)) (f61n1S bf1) (·=f61n1E bf1 o):=by
 unfold f61n1 at h;refine rN Qe 1 [([],[],[(1,.val (jI (bf1.length:Int)))])] [] [] [] [3,6,7,8] (f61n2S bf1 0) (ap (Qx (xs:=bf1) (c:=(cInt .i64))) an) ?_;obtain ⟨o29,h30,h⟩:=Qb h;cases o29 with
 | exit0 =>
  obtain rfl:=Qc h;exact T.last' (T.bl (i:=0) (by kernel_rfl) (by kernel_rfl) (f61n2_ok FUEL bf1 0 h30)) (tds:=[]) (m:=[]) (keep:=[3]) (st2:=(f61n1E bf1 .norm).2) (by kernel_rfl) an rfl
 | ret v31 =>
  obtain rfl:=Qc h;exact T.last' (T.bl (i:=0) (by kernel_rfl) (by kernel_rfl) (f61n2_ok FUEL bf1 0 h30)) (tds:=[]) (m:=[]) (keep:=[2]) (st2:=(f61n1E bf1 (.ret v31)).2) (by kernel_rfl) an rfl
inductive f61n0O where
 | ret (v36:Int)
def f61n0E(a1:List Int):f61n0O→Ex×Tr×Hp
 | .ret v36=>(.ret,mkS [(2,(jI v36))],[])
def f61n0S(a1:List Int):Tr×Hp:=(Qbd [(.pl (.sl .any 1 (a1.map (cInt .i64))))] 0 .leaf,[])
noncomputable def f61n0(a1:List Int):Option f61n0O :=
 (f61n1 a1).bind fun o33=>match o33 with
 | .norm=>some (.ret 0)
 | .ret v35=>some (.ret v35)
theorem f61n0_ok(a1:List Int){o:f61n0O}(h:f61n0 a1=some o):T Tryd.prog Tryd.f61.ntmps 0 c61 (f61n0S a1) (·=f61n0E a1 o):=by
 unfold f61n0 at h;refine rN Qe 2 [j3,j3] [] [] [] [0,3] (f61n1S a1) an ?_;obtain ⟨o33,h34,h⟩:=Qb h;cases o33 with
 | norm =>
  refine T.oneN (by kernel_rfl) (f61n1_ok a1 h34) (st2:=(f61n1E a1 .norm).2) rfl ?_;obtain rfl:=Qc h;exact rE Qe [j3] [] [] [] [2] (.ret,(f61n0E a1 (.ret 0)).2) an rfl
 | ret v35 =>
  obtain rfl:=Qc h;exact T.oneX' (by kernel_rfl) (f61n1_ok a1 h34) (tds:=[]) (m:=[]) (keep:=[2]) (st2:=(f61n0E a1 (.ret v35)).2) (by kernel_rfl) an rfl rfl
noncomputable def f61(a1:List Int):Option Int:=(f61n0 a1).bind fun o=>match o with
 | .ret v36=>some v36
theorem f61_ok(a1:List Int){r:Int}(h:f61 a1=some r):Qs Tryd.prog false 61 [(.pl (.sl .any 1 (a1.map (cInt .i64))))] [] (jI r) []:=by
 unfold f61 at h;obtain ⟨o,ho,h⟩:=Qb h;cases o with
 | ret v36 =>
  obtain rfl:=Qc h;exact Qs.plain Qe (f:=Tryd.f61) (c:=c61) (by kernel_rfl) (by kernel_rfl) (by kernel_rfl) (by kernel_rfl) ((f61n0_ok a1 ho).mono fun r e=>by subst e; exact ⟨.inl rfl,(jI v36),(jI v36),by kernel_rfl,by kernel_rfl,((Wk.refl _):Wk (jI v36) (jI v36))⟩)

noncomputable def c41:Code:=Tryd.f41.body.getD .skip
inductive f41n0O where
 | ret (v15:Int)
def f41n0E(a1 a2:Qa):f41n0O→Ex×Tr×Hp
 | .ret v15=>(.ret,mkS [(4,(jI v15))],[])
def f41n0S(a1 a2:Qa):Tr×Hp:=(Qbd [(jA Qa.cells a1),(jA Qa.cells a2)] 0 .leaf,[])
noncomputable def f41n0(a1 a2:Qa):Option f41n0O :=
 (f62 a1.Account a2.Account).bind fun x9 =>
 (f62 a1.Ccy a2.Ccy).bind fun x11 =>
 (f61 [x9,x11]).bind fun x13 =>
 some (.ret x13)
theorem f41n0_ok(a1 a2:Qa){o:f41n0O}(h:f41n0 a1 a2=some o):T Tryd.prog Tryd.f41.ntmps 0 c41 (f41n0S a1 a2) (·=f41n0E a1 a2 o):=by
 unfold f41n0 at h;obtain ⟨x9,h10,h⟩:=Qb h;obtain ⟨x11,h12,h⟩:=Qb h;obtain ⟨x13,h14,h⟩:=Qb h;obtain rfl:=Qc h
 exact rE Qe [j3,([],[jH 4 (jI x9),jH 9 (jI x11),jH 11 (jI x13)],[])] [] [] [] [4] (.ret,(f41n0E a1 a2 (.ret x13)).2) (ap (Qaf (e:=⟨false,62,[(jS a1.Account),(jS a2.Account)],[],(jI x9),[]⟩) (f:=⟨false,62,[(jS a1.Ccy),(jS a2.Ccy)],[],(jI x11),[]⟩) (fun k=>by simp only [jL,jS,jI,jB,jA,Qa.cells_eq,Qa.map_eq,Qd.cells_eq,Qd.map_eq,Key_.cells_eq,Key_.map_eq,Qh.cells_eq,Qh.map_eq,Qg.cells_eq,Qg.map_eq,Qp.cells_eq,Qp.map_eq,Qm.cells_eq,Qm.map_eq,Qt.cells_eq,Qt.map_eq,List.cons.injEq,AV.pl.injEq,PV.str.injEq,PV.int.injEq,PV.bool.injEq,PV.agg.injEq,PV.sl.injEq,and_true,true_and] at k; have e0:x9=x11:=Option.some.inj (by rw [←h10,←h12]; first | exact congrArg _ k | (obtain ⟨k1,_⟩:=k; simp only [k1]; done) | simp only [k]); exact ⟨by rw [e0],rfl⟩)) (ap (f62_ok a1.Account a2.Account h10) (ap (f62_ok a1.Ccy a2.Ccy h12) (ap (f61_ok [x9,x11] h14) an)))) rfl
noncomputable def f41(a1 a2:Qa):Option Int:=(f41n0 a1 a2).bind fun o=>match o with
 | .ret v15=>some v15
theorem f41_ok(a1 a2:Qa){r:Int}(h:f41 a1 a2=some r):Qs Tryd.prog false 41 [(jA Qa.cells a1),(jA Qa.cells a2)] [] (jI r) []:=by
 unfold f41 at h;obtain ⟨o,ho,h⟩:=Qb h;cases o with
 | ret v15 =>
  obtain rfl:=Qc h;exact Qs.plain Qe (f:=Tryd.f41) (c:=c41) (by kernel_rfl) (by kernel_rfl) (by kernel_rfl) (by kernel_rfl) ((f41n0_ok a1 a2 ho).mono fun r e=>by subst e; exact ⟨.inl rfl,(jI v15),(jI v15),by kernel_rfl,by kernel_rfl,((Wk.refl _):Wk (jI v15) (jI v15))⟩)

noncomputable def c15:Code:=Tryd.f15.body.getD .skip
inductive f15n4O where
 | norm (v396:Bool)
def f15n4E(bd1 bd2 bd3:Int)(ba4:Qd)(bg5:List (ByteArray×Int))(be6:Qa):f15n4O→Ex×Tr×Hp
 | .norm v396=>(.norm,mkS [(1,(.bp 0 0)),(3,(jI bd1)),(4,(jI bd2)),(5,(.mp 1)),(7,(.bp 2 0)),(28,(jL 4 Qa.cells ba4.Rows)),(29,(jI (ba4.Rows.length:Int))),(30,(jI bd3)),(93,(jB v396))],[some (.box 24 ((Qd.cells ba4).map .pl)),some (.map (bg5.map (mkv pStr (pInt .i64)))),some (.box 39 ((Qa.cells be6).map .pl))])
def f15n4S(bd1 bd2 bd3:Int)(ba4:Qd)(bg5:List (ByteArray×Int))(be6:Qa):Tr×Hp:=(mkS [(1,(.bp 0 0)),(3,(jI bd1)),(4,(jI bd2)),(5,(.mp 1)),(6,(jI bd3)),(7,(.bp 2 0)),(28,(jL 4 Qa.cells ba4.Rows)),(29,(jI (ba4.Rows.length:Int))),(30,(jI bd3))],[some (.box 24 ((Qd.cells ba4).map .pl)),some (.map (bg5.map (mkv pStr (pInt .i64)))),some (.box 39 ((Qa.cells be6).map .pl))])
noncomputable def f15n4(bd1 bd2 bd3:Int)(ba4:Qd)(bg5:List (ByteArray×Int))(be6:Qa):Option f15n4O :=
 (f40 be6.Account).bind fun x372 =>
 bif x372 then
  (f40 be6.Ccy).bind fun x375 =>
  bif x375 then
   bif decide (0<bd3) then
    (at? ba4.Rows (wr64 (bd3-1))).bind fun x379 =>
    (f41 x379 be6).bind fun x381 =>
    bif decide (0≤x381) then
     some (.norm true)
    else
     bif decide (be6.In<0) then
      some (.norm true)
     else
      bif decide (be6.Out<0) then
       some (.norm true)
      else
       bif decide (be6.In=0) then
        bif decide (be6.Out=0) then
         some (.norm true)
        else
         bif (decide ((wr64 (4503599627370496000-bd1))<be6.In)) then
          some (.norm true)
         else
          some (.norm (decide ((wr64 (4503599627370496000-bd2))<be6.Out)))
       else
        bif (decide ((wr64 (4503599627370496000-bd1))<be6.In)) then
         some (.norm true)
        else
         some (.norm (decide ((wr64 (4503599627370496000-bd2))<be6.Out)))
   else
    bif decide (be6.In<0) then
     some (.norm true)
    else
     bif decide (be6.Out<0) then
      some (.norm true)
     else
      bif decide (be6.In=0) then
       bif decide (be6.Out=0) then
        some (.norm true)
       else
        bif (decide ((wr64 (4503599627370496000-bd1))<be6.In)) then
         some (.norm true)
        else
         some (.norm (decide ((wr64 (4503599627370496000-bd2))<be6.Out)))
      else
       bif (decide ((wr64 (4503599627370496000-bd1))<be6.In)) then
        some (.norm true)
       else
        some (.norm (decide ((wr64 (4503599627370496000-bd2))<be6.Out)))
  else
   some (.norm true)
 else
  some (.norm true)
theorem f15n4_ok(bd1 bd2 bd3:Int)(ba4:Qd)(bg5:List (ByteArray×Int))(be6:Qa){o:f15n4O}(h:f15n4 bd1 bd2 bd3 ba4 bg5 be6=some o):T Tryd.prog Tryd.f15.ntmps 0 (cL (Qj 0 (cL (Qj 1 (cL (cL (Qj 2 (cL (cL (Qj 1 (cL (Qj 4 c15)))))))))))) (f15n4S bd1 bd2 bd3 ba4 bg5 be6) (·=f15n4E bd1 bd2 bd3 ba4 bg5 be6 o):=by
 unfold f15n4 at h;obtain ⟨x372,h373,h⟩:=Qb h;rcases Qf h with ⟨h374,h⟩|⟨h374,h⟩
 ·obtain ⟨x375,h376,h⟩:=Qb h;rcases Qf h with ⟨h377,h⟩|⟨h377,h⟩
  ·rcases Qf h with ⟨h378,h⟩|⟨h378,h⟩
   ·obtain ⟨x379,h380,h⟩:=Qb h;obtain ⟨x381,h382,h⟩:=Qb h;rcases Qf h with ⟨h383,h⟩|⟨h383,h⟩
    ·obtain rfl:=Qc h
     exact rE Qe [(jF [5,6,7,8,11,12,13,23]++jT [14,15,16,17,18,19,20,21,22,26,27,28],[jH 2 (jB x372),jH 7 (jB x375),(9,.bool false),(18,.idx (Int.toNat (wr64 (bd3-1))) (Qa.cells x379)),jH 21 (jI x381),(23,.bool true),(24,.bool false),(29,.bool true)],[])] [] [] [0,1,2] [1,3,4,5,7,28,29,30,93] (.norm,(f15n4E bd1 bd2 bd3 ba4 bg5 be6 (.norm true)).2) (ap (Qo h374) (ap4 (Qo h374) (ap3 (Qo h377) (ap h378 (ap4 h378 (ap (Qi h380).1 (ap (Qu Qa.cells (Qi h380).2) (ap4 h378 (ap (Qo h377) (ap h378 (ap (Qo h377) (ap4 h383 (ap (Qaf (e:=⟨false,40,[(jS be6.Account)],[],(jB x372),[]⟩) (f:=⟨false,40,[(jS be6.Ccy)],[],(jB x375),[]⟩) (fun k=>by simp only [jL,jS,jI,jB,jA,Qa.cells_eq,Qa.map_eq,Qd.cells_eq,Qd.map_eq,Key_.cells_eq,Key_.map_eq,Qh.cells_eq,Qh.map_eq,Qg.cells_eq,Qg.map_eq,Qp.cells_eq,Qp.map_eq,Qm.cells_eq,Qm.map_eq,Qt.cells_eq,Qt.map_eq,List.cons.injEq,AV.pl.injEq,PV.str.injEq,PV.int.injEq,PV.bool.injEq,PV.agg.injEq,PV.sl.injEq,and_true,true_and] at k; have e0:x372=x375:=Option.some.inj (by rw [←h373,←h376]; first | exact congrArg _ k | (obtain ⟨k1,_⟩:=k; simp only [k1]; done) | simp only [k]); exact ⟨by rw [e0],rfl⟩)) (ap (Qal be6.Account h373) (ap (Qal be6.Ccy h376) (ap (f41_ok x379 be6 h382) an)))))))))))))))) rfl
    ·rcases Qf h with ⟨h384,h⟩|⟨h384,h⟩
     ·obtain rfl:=Qc h
      exact rE Qe [(jF [5,6,7,8,11,12,13,23,26,27,28]++jT [14,15,16,17,18,19,20,21,22,31,32,33],[jH 2 (jB x372),jH 7 (jB x375),(9,.bool false),(18,.idx (Int.toNat (wr64 (bd3-1))) (Qa.cells x379)),jH 21 (jI x381),(23,.bool true),(24,.bool false),(29,.bool false),(34,.bool true)],[])] [] [] [0,1,2] [1,3,4,5,7,28,29,30,93] (.norm,(f15n4E bd1 bd2 bd3 ba4 bg5 be6 (.norm true)).2) (ap (Qo h374) (ap4 (Qo h374) (ap3 (Qo h377) (ap h378 (ap4 h378 (ap (Qi h380).1 (ap (Qu Qa.cells (Qi h380).2) (ap4 h378 (ap (Qo h377) (ap h378 (ap (Qo h377) (ap4 h383 (ap4 h384 (ap (Qaf (e:=⟨false,40,[(jS be6.Account)],[],(jB x372),[]⟩) (f:=⟨false,40,[(jS be6.Ccy)],[],(jB x375),[]⟩) (fun k=>by simp only [jL,jS,jI,jB,jA,Qa.cells_eq,Qa.map_eq,Qd.cells_eq,Qd.map_eq,Key_.cells_eq,Key_.map_eq,Qh.cells_eq,Qh.map_eq,Qg.cells_eq,Qg.map_eq,Qp.cells_eq,Qp.map_eq,Qm.cells_eq,Qm.map_eq,Qt.cells_eq,Qt.map_eq,List.cons.injEq,AV.pl.injEq,PV.str.injEq,PV.int.injEq,PV.bool.injEq,PV.agg.injEq,PV.sl.injEq,and_true,true_and] at k; have e0:x372=x375:=Option.some.inj (by rw [←h373,←h376]; first | exact congrArg _ k | (obtain ⟨k1,_⟩:=k; simp only [k1]; done) | simp only [k]); exact ⟨by rw [e0],rfl⟩)) (ap (Qal be6.Account h373) (ap (Qal be6.Ccy h376) (ap (f41_ok x379 be6 h382) an))))))))))))))))) rfl
     ·rcases Qf h with ⟨h385,h⟩|⟨h385,h⟩
      ·obtain rfl:=Qc h
       exact rE Qe [(jF [5,6,7,8,11,12,13,23,26,27,28,31,32,33]++jT [14,15,16,17,18,19,20,21,22,36,37,38,39,43],[jH 2 (jB x372),jH 7 (jB x375),(9,.bool false),(18,.idx (Int.toNat (wr64 (bd3-1))) (Qa.cells x379)),jH 21 (jI x381),(23,.bool true),(24,.bool false),(29,.bool false),(34,.bool false),(44,.bool true)],[])] [] [] [0,1,2] [1,3,4,5,7,28,29,30,93] (.norm,(f15n4E bd1 bd2 bd3 ba4 bg5 be6 (.norm true)).2) (ap (Qo h374) (ap4 (Qo h374) (ap3 (Qo h377) (ap h378 (ap4 h378 (ap (Qi h380).1 (ap (Qu Qa.cells (Qi h380).2) (ap4 h378 (ap (Qo h377) (ap h378 (ap (Qo h377) (ap4 h383 (ap4 h384 (ap2 h385 (ap4 h385 (ap (Qaf (e:=⟨false,40,[(jS be6.Account)],[],(jB x372),[]⟩) (f:=⟨false,40,[(jS be6.Ccy)],[],(jB x375),[]⟩) (fun k=>by simp only [jL,jS,jI,jB,jA,Qa.cells_eq,Qa.map_eq,Qd.cells_eq,Qd.map_eq,Key_.cells_eq,Key_.map_eq,Qh.cells_eq,Qh.map_eq,Qg.cells_eq,Qg.map_eq,Qp.cells_eq,Qp.map_eq,Qm.cells_eq,Qm.map_eq,Qt.cells_eq,Qt.map_eq,List.cons.injEq,AV.pl.injEq,PV.str.injEq,PV.int.injEq,PV.bool.injEq,PV.agg.injEq,PV.sl.injEq,and_true,true_and] at k; have e0:x372=x375:=Option.some.inj (by rw [←h373,←h376]; first | exact congrArg _ k | (obtain ⟨k1,_⟩:=k; simp only [k1]; done) | simp only [k]); exact ⟨by rw [e0],rfl⟩)) (ap (Qal be6.Account h373) (ap (Qal be6.Ccy h376) (ap (f41_ok x379 be6 h382) an))))))))))))))))))) rfl
      ·rcases Qf h with ⟨h386,h⟩|⟨h386,h⟩
       ·rcases Qf h with ⟨h387,h⟩|⟨h387,h⟩
        ·obtain rfl:=Qc h
         exact rE Qe [(jF [5,6,7,8,11,12,13,23,26,27,28,31,32,33,36,37,38,39,43]++jT [14,15,16,17,18,19,20,21,22,40,41,42,46,47,48,49,50],[jH 2 (jB x372),jH 7 (jB x375),(9,.bool false),(18,.idx (Int.toNat (wr64 (bd3-1))) (Qa.cells x379)),jH 21 (jI x381),(23,.bool true),(24,.bool false),(29,.bool false),(34,.bool false),(43,.bool true),(44,.bool false),(51,.bool true)],[])] [] [] [0,1,2] [1,3,4,5,7,28,29,30,93] (.norm,(f15n4E bd1 bd2 bd3 ba4 bg5 be6 (.norm true)).2) (ap (Qo h374) (ap4 (Qo h374) (ap3 (Qo h377) (ap h378 (ap4 h378 (ap (Qi h380).1 (ap (Qu Qa.cells (Qi h380).2) (ap4 h378 (ap (Qo h377) (ap h378 (ap (Qo h377) (ap4 h383 (ap4 h384 (ap4 h385 (ap3 h386 (ap h385 (ap h386 (ap h385 (ap2 h387 (ap4 h387 (ap (Qaf (e:=⟨false,40,[(jS be6.Account)],[],(jB x372),[]⟩) (f:=⟨false,40,[(jS be6.Ccy)],[],(jB x375),[]⟩) (fun k=>by simp only [jL,jS,jI,jB,jA,Qa.cells_eq,Qa.map_eq,Qd.cells_eq,Qd.map_eq,Key_.cells_eq,Key_.map_eq,Qh.cells_eq,Qh.map_eq,Qg.cells_eq,Qg.map_eq,Qp.cells_eq,Qp.map_eq,Qm.cells_eq,Qm.map_eq,Qt.cells_eq,Qt.map_eq,List.cons.injEq,AV.pl.injEq,PV.str.injEq,PV.int.injEq,PV.bool.injEq,PV.agg.injEq,PV.sl.injEq,and_true,true_and] at k; have e0:x372=x375:=Option.some.inj (by rw [←h373,←h376]; first | exact congrArg _ k | (obtain ⟨k1,_⟩:=k; simp only [k1]; done) | simp only [k]); exact ⟨by rw [e0],rfl⟩)) (ap (Qal be6.Account h373) (ap (Qal be6.Ccy h376) (ap (f41_ok x379 be6 h382) an)))))))))))))))))))))))) rfl
        ·rcases Qf h with ⟨h388,h⟩|⟨h388,h⟩
         ·obtain rfl:=Qc h
          exact rE Qe [(jF [5,6,7,8,11,12,13,23,26,27,28,31,32,33,36,37,38,39,43,46,47,48,49,50]++jT [14,15,16,17,18,19,20,21,22,40,41,42,53,54,55,56,57],[jH 2 (jB x372),jH 7 (jB x375),(9,.bool false),(18,.idx (Int.toNat (wr64 (bd3-1))) (Qa.cells x379)),jH 21 (jI x381),(23,.bool true),(24,.bool false),(29,.bool false),(34,.bool false),(43,.bool true),(44,.bool false),(51,.bool false),(58,.bool true)],[])] [] [] [0,1,2] [1,3,4,5,7,28,29,30,93] (.norm,(f15n4E bd1 bd2 bd3 ba4 bg5 be6 (.norm true)).2) (ap (Qo h374) (ap4 (Qo h374) (ap3 (Qo h377) (ap h378 (ap4 h378 (ap (Qi h380).1 (ap (Qu Qa.cells (Qi h380).2) (ap4 h378 (ap (Qo h377) (ap h378 (ap (Qo h377) (ap4 h383 (ap4 h384 (ap4 h385 (ap3 h386 (ap h385 (ap h386 (ap h385 (ap2 h387 (ap4 h387 (ap2 h388 (ap4 h388 (ap (Qaf (e:=⟨false,40,[(jS be6.Account)],[],(jB x372),[]⟩) (f:=⟨false,40,[(jS be6.Ccy)],[],(jB x375),[]⟩) (fun k=>by simp only [jL,jS,jI,jB,jA,Qa.cells_eq,Qa.map_eq,Qd.cells_eq,Qd.map_eq,Key_.cells_eq,Key_.map_eq,Qh.cells_eq,Qh.map_eq,Qg.cells_eq,Qg.map_eq,Qp.cells_eq,Qp.map_eq,Qm.cells_eq,Qm.map_eq,Qt.cells_eq,Qt.map_eq,List.cons.injEq,AV.pl.injEq,PV.str.injEq,PV.int.injEq,PV.bool.injEq,PV.agg.injEq,PV.sl.injEq,and_true,true_and] at k; have e0:x372=x375:=Option.some.inj (by rw [←h373,←h376]; first | exact congrArg _ k | (obtain ⟨k1,_⟩:=k; simp only [k1]; done) | simp only [k]); exact ⟨by rw [e0],rfl⟩)) (ap (Qal be6.Account h373) (ap (Qal be6.Ccy h376) (ap (f41_ok x379 be6 h382) an)))))))))))))))))))))))))) rfl
         ·obtain rfl:=Qc h
          exact rE Qe [(jF [5,6,7,8,11,12,13,23,26,27,28,31,32,33,36,37,38,39,43,46,47,48,49,50,53,54,55,56,57]++jT [14,15,16,17,18,19,20,21,22,40,41,42],[jH 2 (jB x372),jH 7 (jB x375),(9,.bool false),(18,.idx (Int.toNat (wr64 (bd3-1))) (Qa.cells x379)),jH 21 (jI x381),(23,.bool true),(24,.bool false),(29,.bool false),(34,.bool false),(43,.bool true),(44,.bool false),(51,.bool false),(58,.bool false)],[])] [] [] [0,1,2] [1,3,4,5,7,28,29,30,93] (.norm,(f15n4E bd1 bd2 bd3 ba4 bg5 be6 (.norm (decide ((wr64 (4503599627370496000-bd2))<be6.Out)))).2) (ap (Qo h374) (ap4 (Qo h374) (ap3 (Qo h377) (ap h378 (ap4 h378 (ap (Qi h380).1 (ap (Qu Qa.cells (Qi h380).2) (ap4 h378 (ap (Qo h377) (ap h378 (ap (Qo h377) (ap4 h383 (ap4 h384 (ap4 h385 (ap3 h386 (ap h385 (ap h386 (ap h385 (ap2 h387 (ap4 h387 (ap2 h388 (ap4 h388 (ap (Qaf (e:=⟨false,40,[(jS be6.Account)],[],(jB x372),[]⟩) (f:=⟨false,40,[(jS be6.Ccy)],[],(jB x375),[]⟩) (fun k=>by simp only [jL,jS,jI,jB,jA,Qa.cells_eq,Qa.map_eq,Qd.cells_eq,Qd.map_eq,Key_.cells_eq,Key_.map_eq,Qh.cells_eq,Qh.map_eq,Qg.cells_eq,Qg.map_eq,Qp.cells_eq,Qp.map_eq,Qm.cells_eq,Qm.map_eq,Qt.cells_eq,Qt.map_eq,List.cons.injEq,AV.pl.injEq,PV.str.injEq,PV.int.injEq,PV.bool.injEq,PV.agg.injEq,PV.sl.injEq,and_true,true_and] at k; have e0:x372=x375:=Option.some.inj (by rw [←h373,←h376]; first | exact congrArg _ k | (obtain ⟨k1,_⟩:=k; simp only [k1]; done) | simp only [k]); exact ⟨by rw [e0],rfl⟩)) (ap (Qal be6.Account h373) (ap (Qal be6.Ccy h376) (ap (f41_ok x379 be6 h382) an)))))))))))))))))))))))))) rfl
       ·rcases Qf h with ⟨h389,h⟩|⟨h389,h⟩
        ·obtain rfl:=Qc h
         exact rE Qe [(jF [5,6,7,8,11,12,13,23,26,27,28,31,32,33,36,37,38,39,40,41,42,43]++jT [14,15,16,17,18,19,20,21,22,53,54,55,56,57],[jH 2 (jB x372),jH 7 (jB x375),(9,.bool false),(18,.idx (Int.toNat (wr64 (bd3-1))) (Qa.cells x379)),jH 21 (jI x381),(23,.bool true),(24,.bool false),(29,.bool false),(34,.bool false),(43,.bool false),(44,.bool false),(58,.bool true)],[])] [] [] [0,1,2] [1,3,4,5,7,28,29,30,93] (.norm,(f15n4E bd1 bd2 bd3 ba4 bg5 be6 (.norm true)).2) (ap (Qo h374) (ap4 (Qo h374) (ap3 (Qo h377) (ap h378 (ap4 h378 (ap (Qi h380).1 (ap (Qu Qa.cells (Qi h380).2) (ap4 h378 (ap (Qo h377) (ap h378 (ap (Qo h377) (ap4 h383 (ap4 h384 (ap4 h385 (ap3 h386 (ap h385 (ap h386 (ap h385 (ap2 h389 (ap4 h389 (ap (Qaf (e:=⟨false,40,[(jS be6.Account)],[],(jB x372),[]⟩) (f:=⟨false,40,[(jS be6.Ccy)],[],(jB x375),[]⟩) (fun k=>by simp only [jL,jS,jI,jB,jA,Qa.cells_eq,Qa.map_eq,Qd.cells_eq,Qd.map_eq,Key_.cells_eq,Key_.map_eq,Qh.cells_eq,Qh.map_eq,Qg.cells_eq,Qg.map_eq,Qp.cells_eq,Qp.map_eq,Qm.cells_eq,Qm.map_eq,Qt.cells_eq,Qt.map_eq,List.cons.injEq,AV.pl.injEq,PV.str.injEq,PV.int.injEq,PV.bool.injEq,PV.agg.injEq,PV.sl.injEq,and_true,true_and] at k; have e0:x372=x375:=Option.some.inj (by rw [←h373,←h376]; first | exact congrArg _ k | (obtain ⟨k1,_⟩:=k; simp only [k1]; done) | simp only [k]); exact ⟨by rw [e0],rfl⟩)) (ap (Qal be6.Account h373) (ap (Qal be6.Ccy h376) (ap (f41_ok x379 be6 h382) an)))))))))))))))))))))))) rfl
        ·obtain rfl:=Qc h
         exact rE Qe [(jF [5,6,7,8,11,12,13,23,26,27,28,31,32,33,36,37,38,39,40,41,42,43,53,54,55,56,57]++jT [14,15,16,17,18,19,20,21,22],[jH 2 (jB x372),jH 7 (jB x375),(9,.bool false),(18,.idx (Int.toNat (wr64 (bd3-1))) (Qa.cells x379)),jH 21 (jI x381),(23,.bool true),(24,.bool false),(29,.bool false),(34,.bool false),(43,.bool false),(44,.bool false),(58,.bool false)],[])] [] [] [0,1,2] [1,3,4,5,7,28,29,30,93] (.norm,(f15n4E bd1 bd2 bd3 ba4 bg5 be6 (.norm (decide ((wr64 (4503599627370496000-bd2))<be6.Out)))).2) (ap (Qo h374) (ap4 (Qo h374) (ap3 (Qo h377) (ap h378 (ap4 h378 (ap (Qi h380).1 (ap (Qu Qa.cells (Qi h380).2) (ap4 h378 (ap (Qo h377) (ap h378 (ap (Qo h377) (ap4 h383 (ap4 h384 (ap4 h385 (ap3 h386 (ap h385 (ap h386 (ap h385 (ap2 h389 (ap4 h389 (ap (Qaf (e:=⟨false,40,[(jS be6.Account)],[],(jB x372),[]⟩) (f:=⟨false,40,[(jS be6.Ccy)],[],(jB x375),[]⟩) (fun k=>by simp only [jL,jS,jI,jB,jA,Qa.cells_eq,Qa.map_eq,Qd.cells_eq,Qd.map_eq,Key_.cells_eq,Key_.map_eq,Qh.cells_eq,Qh.map_eq,Qg.cells_eq,Qg.map_eq,Qp.cells_eq,Qp.map_eq,Qm.cells_eq,Qm.map_eq,Qt.cells_eq,Qt.map_eq,List.cons.injEq,AV.pl.injEq,PV.str.injEq,PV.int.injEq,PV.bool.injEq,PV.agg.injEq,PV.sl.injEq,and_true,true_and] at k; have e0:x372=x375:=Option.some.inj (by rw [←h373,←h376]; first | exact congrArg _ k | (obtain ⟨k1,_⟩:=k; simp only [k1]; done) | simp only [k]); exact ⟨by rw [e0],rfl⟩)) (ap (Qal be6.Account h373) (ap (Qal be6.Ccy h376) (ap (f41_ok x379 be6 h382) an)))))))))))))))))))))))) rfl
   ·rcases Qf h with ⟨h390,h⟩|⟨h390,h⟩
    ·obtain rfl:=Qc h
     exact rE Qe [(jF [5,6,7,8,11,12,13,14,15,16,17,18,19,20,21,22,23]++jT [31,32,33],[jH 2 (jB x372),jH 7 (jB x375),(9,.bool false),(23,.bool false),(24,.bool false),(34,.bool true)],[])] [] [] [0,1,2] [1,3,4,5,7,28,29,30,93] (.norm,(f15n4E bd1 bd2 bd3 ba4 bg5 be6 (.norm true)).2) (ap (Qo h374) (ap4 (Qo h374) (ap3 (Qo h377) (ap h378 (ap4 h378 (ap4 h378 (ap (Qo h377) (ap h378 (ap (Qo h377) (ap4 h390 (ap (Qaf (e:=⟨false,40,[(jS be6.Account)],[],(jB x372),[]⟩) (f:=⟨false,40,[(jS be6.Ccy)],[],(jB x375),[]⟩) (fun k=>by simp only [jL,jS,jI,jB,jA,Qa.cells_eq,Qa.map_eq,Qd.cells_eq,Qd.map_eq,Key_.cells_eq,Key_.map_eq,Qh.cells_eq,Qh.map_eq,Qg.cells_eq,Qg.map_eq,Qp.cells_eq,Qp.map_eq,Qm.cells_eq,Qm.map_eq,Qt.cells_eq,Qt.map_eq,List.cons.injEq,AV.pl.injEq,PV.str.injEq,PV.int.injEq,PV.bool.injEq,PV.agg.injEq,PV.sl.injEq,and_true,true_and] at k; have e0:x372=x375:=Option.some.inj (by rw [←h373,←h376]; first | exact congrArg _ k | (obtain ⟨k1,_⟩:=k; simp only [k1]; done) | simp only [k]); exact ⟨by rw [e0],rfl⟩)) (ap (Qal be6.Account h373) (ap (Qal be6.Ccy h376) an))))))))))))) rfl
    ·rcases Qf h with ⟨h391,h⟩|⟨h391,h⟩
     ·obtain rfl:=Qc h
      exact rE Qe [(jF [5,6,7,8,11,12,13,14,15,16,17,18,19,20,21,22,23,31,32,33]++jT [36,37,38,39,43],[jH 2 (jB x372),jH 7 (jB x375),(9,.bool false),(23,.bool false),(24,.bool false),(34,.bool false),(44,.bool true)],[])] [] [] [0,1,2] [1,3,4,5,7,28,29,30,93] (.norm,(f15n4E bd1 bd2 bd3 ba4 bg5 be6 (.norm true)).2) (ap (Qo h374) (ap4 (Qo h374) (ap3 (Qo h377) (ap h378 (ap4 h378 (ap4 h378 (ap (Qo h377) (ap h378 (ap (Qo h377) (ap4 h390 (ap2 h391 (ap4 h391 (ap (Qaf (e:=⟨false,40,[(jS be6.Account)],[],(jB x372),[]⟩) (f:=⟨false,40,[(jS be6.Ccy)],[],(jB x375),[]⟩) (fun k=>by simp only [jL,jS,jI,jB,jA,Qa.cells_eq,Qa.map_eq,Qd.cells_eq,Qd.map_eq,Key_.cells_eq,Key_.map_eq,Qh.cells_eq,Qh.map_eq,Qg.cells_eq,Qg.map_eq,Qp.cells_eq,Qp.map_eq,Qm.cells_eq,Qm.map_eq,Qt.cells_eq,Qt.map_eq,List.cons.injEq,AV.pl.injEq,PV.str.injEq,PV.int.injEq,PV.bool.injEq,PV.agg.injEq,PV.sl.injEq,and_true,true_and] at k; have e0:x372=x375:=Option.some.inj (by rw [←h373,←h376]; first | exact congrArg _ k | (obtain ⟨k1,_⟩:=k; simp only [k1]; done) | simp only [k]); exact ⟨by rw [e0],rfl⟩)) (ap (Qal be6.Account h373) (ap (Qal be6.Ccy h376) an))))))))))))))) rfl
     ·rcases Qf h with ⟨h392,h⟩|⟨h392,h⟩
      ·rcases Qf h with ⟨h393,h⟩|⟨h393,h⟩
       ·obtain rfl:=Qc h
        exact rE Qe [(jF [5,6,7,8,11,12,13,14,15,16,17,18,19,20,21,22,23,31,32,33,36,37,38,39,43]++jT [40,41,42,46,47,48,49,50],[jH 2 (jB x372),jH 7 (jB x375),(9,.bool false),(23,.bool false),(24,.bool false),(34,.bool false),(43,.bool true),(44,.bool false),(51,.bool true)],[])] [] [] [0,1,2] [1,3,4,5,7,28,29,30,93] (.norm,(f15n4E bd1 bd2 bd3 ba4 bg5 be6 (.norm true)).2) (ap (Qo h374) (ap4 (Qo h374) (ap3 (Qo h377) (ap h378 (ap4 h378 (ap4 h378 (ap (Qo h377) (ap h378 (ap (Qo h377) (ap4 h390 (ap4 h391 (ap3 h392 (ap h391 (ap h392 (ap h391 (ap2 h393 (ap4 h393 (ap (Qaf (e:=⟨false,40,[(jS be6.Account)],[],(jB x372),[]⟩) (f:=⟨false,40,[(jS be6.Ccy)],[],(jB x375),[]⟩) (fun k=>by simp only [jL,jS,jI,jB,jA,Qa.cells_eq,Qa.map_eq,Qd.cells_eq,Qd.map_eq,Key_.cells_eq,Key_.map_eq,Qh.cells_eq,Qh.map_eq,Qg.cells_eq,Qg.map_eq,Qp.cells_eq,Qp.map_eq,Qm.cells_eq,Qm.map_eq,Qt.cells_eq,Qt.map_eq,List.cons.injEq,AV.pl.injEq,PV.str.injEq,PV.int.injEq,PV.bool.injEq,PV.agg.injEq,PV.sl.injEq,and_true,true_and] at k; have e0:x372=x375:=Option.some.inj (by rw [←h373,←h376]; first | exact congrArg _ k | (obtain ⟨k1,_⟩:=k; simp only [k1]; done) | simp only [k]); exact ⟨by rw [e0],rfl⟩)) (ap (Qal be6.Account h373) (ap (Qal be6.Ccy h376) an)))))))))))))))))))) rfl
       ·rcases Qf h with ⟨h394,h⟩|⟨h394,h⟩
        ·obtain rfl:=Qc h
         exact rE Qe [(jF [5,6,7,8,11,12,13,14,15,16,17,18,19,20,21,22,23,31,32,33,36,37,38,39,43,46,47,48,49,50]++jT [40,41,42,53,54,55,56,57],[jH 2 (jB x372),jH 7 (jB x375),(9,.bool false),(23,.bool false),(24,.bool false),(34,.bool false),(43,.bool true),(44,.bool false),(51,.bool false),(58,.bool true)],[])] [] [] [0,1,2] [1,3,4,5,7,28,29,30,93] (.norm,(f15n4E bd1 bd2 bd3 ba4 bg5 be6 (.norm true)).2) (ap (Qo h374) (ap4 (Qo h374) (ap3 (Qo h377) (ap h378 (ap4 h378 (ap4 h378 (ap (Qo h377) (ap h378 (ap (Qo h377) (ap4 h390 (ap4 h391 (ap3 h392 (ap h391 (ap h392 (ap h391 (ap2 h393 (ap4 h393 (ap2 h394 (ap4 h394 (ap (Qaf (e:=⟨false,40,[(jS be6.Account)],[],(jB x372),[]⟩) (f:=⟨false,40,[(jS be6.Ccy)],[],(jB x375),[]⟩) (fun k=>by simp only [jL,jS,jI,jB,jA,Qa.cells_eq,Qa.map_eq,Qd.cells_eq,Qd.map_eq,Key_.cells_eq,Key_.map_eq,Qh.cells_eq,Qh.map_eq,Qg.cells_eq,Qg.map_eq,Qp.cells_eq,Qp.map_eq,Qm.cells_eq,Qm.map_eq,Qt.cells_eq,Qt.map_eq,List.cons.injEq,AV.pl.injEq,PV.str.injEq,PV.int.injEq,PV.bool.injEq,PV.agg.injEq,PV.sl.injEq,and_true,true_and] at k; have e0:x372=x375:=Option.some.inj (by rw [←h373,←h376]; first | exact congrArg _ k | (obtain ⟨k1,_⟩:=k; simp only [k1]; done) | simp only [k]); exact ⟨by rw [e0],rfl⟩)) (ap (Qal be6.Account h373) (ap (Qal be6.Ccy h376) an)))))))))))))))))))))) rfl
        ·obtain rfl:=Qc h
         exact rE Qe [(jF [5,6,7,8,11,12,13,14,15,16,17,18,19,20,21,22,23,31,32,33,36,37,38,39,43,46,47,48,49,50,53,54,55,56,57]++jT [40,41,42],[jH 2 (jB x372),jH 7 (jB x375),(9,.bool false),(23,.bool false),(24,.bool false),(34,.bool false),(43,.bool true),(44,.bool false),(51,.bool false),(58,.bool false)],[])] [] [] [0,1,2] [1,3,4,5,7,28,29,30,93] (.norm,(f15n4E bd1 bd2 bd3 ba4 bg5 be6 (.norm (decide ((wr64 (4503599627370496000-bd2))<be6.Out)))).2) (ap (Qo h374) (ap4 (Qo h374) (ap3 (Qo h377) (ap h378 (ap4 h378 (ap4 h378 (ap (Qo h377) (ap h378 (ap (Qo h377) (ap4 h390 (ap4 h391 (ap3 h392 (ap h391 (ap h392 (ap h391 (ap2 h393 (ap4 h393 (ap2 h394 (ap4 h394 (ap (Qaf (e:=⟨false,40,[(jS be6.Account)],[],(jB x372),[]⟩) (f:=⟨false,40,[(jS be6.Ccy)],[],(jB x375),[]⟩) (fun k=>by simp only [jL,jS,jI,jB,jA,Qa.cells_eq,Qa.map_eq,Qd.cells_eq,Qd.map_eq,Key_.cells_eq,Key_.map_eq,Qh.cells_eq,Qh.map_eq,Qg.cells_eq,Qg.map_eq,Qp.cells_eq,Qp.map_eq,Qm.cells_eq,Qm.map_eq,Qt.cells_eq,Qt.map_eq,List.cons.injEq,AV.pl.injEq,PV.str.injEq,PV.int.injEq,PV.bool.injEq,PV.agg.injEq,PV.sl.injEq,and_true,true_and] at k; have e0:x372=x375:=Option.some.inj (by rw [←h373,←h376]; first | exact congrArg _ k | (obtain ⟨k1,_⟩:=k; simp only [k1]; done) | simp only [k]); exact ⟨by rw [e0],rfl⟩)) (ap (Qal be6.Account h373) (ap (Qal be6.Ccy h376) an)))))))))))))))))))))) rfl
      ·rcases Qf h with ⟨h395,h⟩|⟨h395,h⟩
       ·obtain rfl:=Qc h
        exact rE Qe [(jF [5,6,7,8,11,12,13,14,15,16,17,18,19,20,21,22,23,31,32,33,36,37,38,39,40,41,42,43]++jT [53,54,55,56,57],[jH 2 (jB x372),jH 7 (jB x375),(9,.bool false),(23,.bool false),(24,.bool false),(34,.bool false),(43,.bool false),(44,.bool false),(58,.bool true)],[])] [] [] [0,1,2] [1,3,4,5,7,28,29,30,93] (.norm,(f15n4E bd1 bd2 bd3 ba4 bg5 be6 (.norm true)).2) (ap (Qo h374) (ap4 (Qo h374) (ap3 (Qo h377) (ap h378 (ap4 h378 (ap4 h378 (ap (Qo h377) (ap h378 (ap (Qo h377) (ap4 h390 (ap4 h391 (ap3 h392 (ap h391 (ap h392 (ap h391 (ap2 h395 (ap4 h395 (ap (Qaf (e:=⟨false,40,[(jS be6.Account)],[],(jB x372),[]⟩) (f:=⟨false,40,[(jS be6.Ccy)],[],(jB x375),[]⟩) (fun k=>by simp only [jL,jS,jI,jB,jA,Qa.cells_eq,Qa.map_eq,Qd.cells_eq,Qd.map_eq,Key_.cells_eq,Key_.map_eq,Qh.cells_eq,Qh.map_eq,Qg.cells_eq,Qg.map_eq,Qp.cells_eq,Qp.map_eq,Qm.cells_eq,Qm.map_eq,Qt.cells_eq,Qt.map_eq,List.cons.injEq,AV.pl.injEq,PV.str.injEq,PV.int.injEq,PV.bool.injEq,PV.agg.injEq,PV.sl.injEq,and_true,true_and] at k; have e0:x372=x375:=Option.some.inj (by rw [←h373,←h376]; first | exact congrArg _ k | (obtain ⟨k1,_⟩:=k; simp only [k1]; done) | simp only [k]); exact ⟨by rw [e0],rfl⟩)) (ap (Qal be6.Account h373) (ap (Qal be6.Ccy h376) an)))))))))))))))))))) rfl
       ·obtain rfl:=Qc h
        exact rE Qe [(jF [5,6,7,8,11,12,13,14,15,16,17,18,19,20,21,22,23,31,32,33,36,37,38,39,40,41,42,43,53,54,55,56,57],[jH 2 (jB x372),jH 7 (jB x375),(9,.bool false),(23,.bool false),(24,.bool false),(34,.bool false),(43,.bool false),(44,.bool false),(58,.bool false)],[])] [] [] [0,1,2] [1,3,4,5,7,28,29,30,93] (.norm,(f15n4E bd1 bd2 bd3 ba4 bg5 be6 (.norm (decide ((wr64 (4503599627370496000-bd2))<be6.Out)))).2) (ap (Qo h374) (ap4 (Qo h374) (ap3 (Qo h377) (ap h378 (ap4 h378 (ap4 h378 (ap (Qo h377) (ap h378 (ap (Qo h377) (ap4 h390 (ap4 h391 (ap3 h392 (ap h391 (ap h392 (ap h391 (ap2 h395 (ap4 h395 (ap (Qaf (e:=⟨false,40,[(jS be6.Account)],[],(jB x372),[]⟩) (f:=⟨false,40,[(jS be6.Ccy)],[],(jB x375),[]⟩) (fun k=>by simp only [jL,jS,jI,jB,jA,Qa.cells_eq,Qa.map_eq,Qd.cells_eq,Qd.map_eq,Key_.cells_eq,Key_.map_eq,Qh.cells_eq,Qh.map_eq,Qg.cells_eq,Qg.map_eq,Qp.cells_eq,Qp.map_eq,Qm.cells_eq,Qm.map_eq,Qt.cells_eq,Qt.map_eq,List.cons.injEq,AV.pl.injEq,PV.str.injEq,PV.int.injEq,PV.bool.injEq,PV.agg.injEq,PV.sl.injEq,and_true,true_and] at k; have e0:x372=x375:=Option.some.inj (by rw [←h373,←h376]; first | exact congrArg _ k | (obtain ⟨k1,_⟩:=k; simp only [k1]; done) | simp only [k]); exact ⟨by rw [e0],rfl⟩)) (ap (Qal be6.Account h373) (ap (Qal be6.Ccy h376) an)))))))))))))))))))) rfl
  ·obtain rfl:=Qc h
   exact rE Qe [(jF [5,6,7,8]++jT [11,12,13,23],[jH 2 (jB x372),jH 7 (jB x375),(9,.bool false),(24,.bool true)],[])] [] [] [0,1,2] [1,3,4,5,7,28,29,30,93] (.norm,(f15n4E bd1 bd2 bd3 ba4 bg5 be6 (.norm true)).2) (ap (Qo h374) (ap4 (Qo h374) (ap (Qag h377) (ap4 (Qag h377) (ap (Qaf (e:=⟨false,40,[(jS be6.Account)],[],(jB x372),[]⟩) (f:=⟨false,40,[(jS be6.Ccy)],[],(jB x375),[]⟩) (fun k=>by simp only [jL,jS,jI,jB,jA,Qa.cells_eq,Qa.map_eq,Qd.cells_eq,Qd.map_eq,Key_.cells_eq,Key_.map_eq,Qh.cells_eq,Qh.map_eq,Qg.cells_eq,Qg.map_eq,Qp.cells_eq,Qp.map_eq,Qm.cells_eq,Qm.map_eq,Qt.cells_eq,Qt.map_eq,List.cons.injEq,AV.pl.injEq,PV.str.injEq,PV.int.injEq,PV.bool.injEq,PV.agg.injEq,PV.sl.injEq,and_true,true_and] at k; have e0:x372=x375:=Option.some.inj (by rw [←h373,←h376]; first | exact congrArg _ k | (obtain ⟨k1,_⟩:=k; simp only [k1]; done) | simp only [k]); exact ⟨by rw [e0],rfl⟩)) (ap (Qal be6.Account h373) (ap (Qal be6.Ccy h376) an))))))) rfl
 ·obtain rfl:=Qc h;exact rE Qe [(jT [5,6,7,8],[jH 2 (jB x372),(9,.bool true)],[])] [] [] [0,1,2] [1,3,4,5,7,28,29,30,93] (.norm,(f15n4E bd1 bd2 bd3 ba4 bg5 be6 (.norm true)).2) (ap (Qag h374) (ap4 (Qag h374) (ap (Qal be6.Account h373) an))) rfl
inductive f15n3O where
 | norm
 | ret
def f15n3E(bd1 bd2 bd3:Int)(ba4:Qd)(bg5:List (ByteArray×Int))(be6:Qa):f15n3O→Ex×Tr×Hp
 | .norm=>(.norm,mkS [(1,(.bp 0 0)),(3,(jI bd1)),(4,(jI bd2)),(5,(.mp 1)),(7,(.bp 2 0)),(28,(jL 4 Qa.cells ba4.Rows)),(29,(jI (ba4.Rows.length:Int))),(30,(jI bd3))],[some (.box 24 ((Qd.cells ba4).map .pl)),some (.map (bg5.map (mkv pStr (pInt .i64)))),some (.box 39 ((Qa.cells be6).map .pl))])
 | .ret=>(.ret,mkS [(2,(jI 8))],[])
def f15n3S(bd1 bd2 bd3:Int)(ba4:Qd)(bg5:List (ByteArray×Int))(be6:Qa):Tr×Hp:=(mkS [(1,(.bp 0 0)),(3,(jI bd1)),(4,(jI bd2)),(5,(.mp 1)),(6,(jI bd3)),(7,(.bp 2 0)),(28,(jL 4 Qa.cells ba4.Rows)),(29,(jI (ba4.Rows.length:Int))),(30,(jI bd3))],[some (.box 24 ((Qd.cells ba4).map .pl)),some (.map (bg5.map (mkv pStr (pInt .i64)))),some (.box 39 ((Qa.cells be6).map .pl))])
noncomputable def f15n3(bd1 bd2 bd3:Int)(ba4:Qd)(bg5:List (ByteArray×Int))(be6:Qa):Option f15n3O :=
 (f15n4 bd1 bd2 bd3 ba4 bg5 be6).bind fun o397=>match o397 with
 | .norm v399=>bif v399 then
   some .ret
  else
   some .norm
theorem f15n3_ok(bd1 bd2 bd3:Int)(ba4:Qd)(bg5:List (ByteArray×Int))(be6:Qa){o:f15n3O}(h:f15n3 bd1 bd2 bd3 ba4 bg5 be6=some o):T Tryd.prog Tryd.f15.ntmps 0 (cL (Qj 1 (cL (cL (Qj 2 (cL (cL (Qj 1 (cL (Qj 4 c15)))))))))) (f15n3S bd1 bd2 bd3 ba4 bg5 be6) (·=f15n3E bd1 bd2 bd3 ba4 bg5 be6 o):=by
 unfold f15n3 at h;refine rN Qe 0 [] [] [] [0,1,2] [1,3,4,5,6,7,28,29,30] (f15n4S bd1 bd2 bd3 ba4 bg5 be6) an ?_;obtain ⟨o397,h398,h⟩:=Qb h;cases o397 with
 | norm v399 =>
  refine T.oneN (by kernel_rfl) (f15n4_ok bd1 bd2 bd3 ba4 bg5 be6 h398) (st2:=(f15n4E bd1 bd2 bd3 ba4 bg5 be6 (.norm v399)).2) rfl ?_;rcases Qf h with ⟨h401,h⟩|⟨h401,h⟩
  ·obtain rfl:=Qc h;exact rE Qe [j3] [some true] [] [] [2] (.ret,(f15n3E bd1 bd2 bd3 ba4 bg5 be6 .ret).2) (ap h401 an) rfl
  ·obtain rfl:=Qc h;exact rE Qe [] [some false] [] [0,1,2] [1,3,4,5,7,28,29,30] (.norm,(f15n3E bd1 bd2 bd3 ba4 bg5 be6 .norm).2) (ap h401 an) rfl
inductive f15n2O where
 | norm (v404:Int) (v405:Int) (v406:List (ByteArray×Int))
 | ret
def f15n2E(bd1 bd2:Int)(ba3:Qd)(bd4:Int)(bg5:List (ByteArray×Int)):f15n2O→Ex×Tr×Hp
 | .norm v404 v405 v406=>(.norm,mkS [(1,(.bp 0 0)),(3,(jI v404)),(4,(jI v405)),(5,(.mp 1)),(28,(jL 4 Qa.cells ba3.Rows)),(29,(jI (ba3.Rows.length:Int))),(30,(jI bd4))],[some (.box 24 ((Qd.cells ba3).map .pl)),some (.map (v406.map (mkv pStr (pInt .i64))))])
 | .ret=>(.ret,mkS [(2,(jI 8))],[])
def f15n2S(bd1 bd2:Int)(ba3:Qd)(bd4:Int)(bg5:List (ByteArray×Int)):Tr×Hp:=(mkS [(1,(.bp 0 0)),(3,(jI bd1)),(4,(jI bd2)),(5,(.mp 1)),(28,(jL 4 Qa.cells ba3.Rows)),(29,(jI (ba3.Rows.length:Int))),(30,(jI bd4))],[some (.box 24 ((Qd.cells ba3).map .pl)),some (.map (bg5.map (mkv pStr (pInt .i64))))])
noncomputable def f15n2(bd1 bd2:Int)(ba3:Qd)(bd4:Int)(bg5:List (ByteArray×Int)):Option f15n2O :=
 (at? ba3.Rows bd4).bind fun x294 =>
 (f15n3 bd1 bd2 bd4 ba3 bg5 x294).bind fun o402=>match o402 with
 | .norm=>some (.norm (wr64 (bd1+x294.In)) (wr64 (bd2+x294.Out)) (mPut seq x294.Ccy (wr64 ((mGet seq 0 x294.Ccy bg5)+(wr64 (x294.In-x294.Out)))) bg5))
 | .ret=>some .ret
theorem f15n2_ok(bd1 bd2:Int)(ba3:Qd)(bd4:Int)(bg5:List (ByteArray×Int)){o:f15n2O}(h:f15n2 bd1 bd2 ba3 bd4 bg5=some o):T Tryd.prog Tryd.f15.ntmps 0 (cL (Qj 2 (cL (cL (Qj 1 (cL (Qj 4 c15))))))) (f15n2S bd1 bd2 ba3 bd4 bg5) (·=f15n2E bd1 bd2 ba3 bd4 bg5 o):=by
 unfold f15n2 at h;refine T.block' (i:=1) (by kernel_rfl) ?_;obtain ⟨x294,h295,h⟩:=Qb h;refine rN Qe 1 [([],[(1,.idx (Int.toNat bd4) (Qa.cells x294))],[])] [] [] [0,1,2] [1,3,4,5,6,7,28,29,30] (f15n3S bd1 bd2 bd4 ba3 bg5 x294) (ap (Qi h295).1 (ap (Qu Qa.cells (Qi h295).2) an)) ?_;obtain ⟨o402,h403,h⟩:=Qb h;cases o402 with
 | norm =>
  refine T.oneN (by kernel_rfl) (f15n3_ok bd1 bd2 bd4 ba3 bg5 x294 h403) (st2:=(f15n3E bd1 bd2 bd4 ba3 bg5 x294 .norm).2) rfl ?_;obtain rfl:=Qc h;exact rE Qe [j3,([],[(3,.look ((pInt .i64) (mGet seq 0 x294.Ccy bg5)) (mHas seq x294.Ccy bg5)),(10,.mset ((mPut seq x294.Ccy (wr64 ((mGet seq 0 x294.Ccy bg5)+(wr64 (x294.In-x294.Out)))) bg5).map (mkv pStr (pInt .i64))))],[])] [] [] [0,1] [1,3,4,5,28,29,30] (.norm,(f15n2E bd1 bd2 ba3 bd4 bg5 (.norm (wr64 (bd1+x294.In)) (wr64 (bd2+x294.Out)) (mPut seq x294.Ccy (wr64 ((mGet seq 0 x294.Ccy bg5)+(wr64 (x294.In-x294.Out)))) bg5))).2) (ap (look_map (vp:=(pInt .i64)) (e:=3) key_9 0 (by kernel_rfl) x294.Ccy bg5) (ap (mset_map (vp:=(pInt .i64)) key_9 x294.Ccy (wr64 ((mGet seq 0 x294.Ccy bg5)+(wr64 (x294.In-x294.Out)))) bg5) an)) rfl
 | ret =>
  obtain rfl:=Qc h;exact T.oneX' (by kernel_rfl) (f15n3_ok bd1 bd2 bd4 ba3 bg5 x294 h403) (tds:=[]) (m:=[]) (keep:=[2]) (st2:=(f15n2E bd1 bd2 ba3 bd4 bg5 .ret).2) (by kernel_rfl) an rfl rfl
inductive f15n5O where
 | exit0 (v412:List (ByteArray×Int))
 | ret
def f15n5E(ba1:Qd):f15n5O→Ex×Tr×Hp
 | .exit0 v412=>((.exit 0),mkS [(5,(.mp 0))],[some (.map (v412.map (mkv pStr (pInt .i64))))])
 | .ret=>(.ret,mkS [(2,(jI 8))],[])
def f15n5S(ba1:Qd)(v256 v257 v258:Int)(v259:List (ByteArray×Int)):Tr×Hp:=(mkS [(1,(.bp 0 0)),(3,(jI v256)),(4,(jI v257)),(5,(.mp 1)),(28,(jL 4 Qa.cells ba1.Rows)),(29,(jI (ba1.Rows.length:Int))),(30,(jI v258))],[some (.box 24 ((Qd.cells ba1).map .pl)),some (.map (v259.map (mkv pStr (pInt .i64))))])
noncomputable def f15n5:Nat→Qd→Int→Int→Int→List (ByteArray×Int)→Option f15n5O
 | 0,_,_,_,_,_=>none
 | f+1,ba1,v256,v257,v258,v259 =>
  bif decide (v258<(ba1.Rows.length:Int)) then
   (f15n2 v256 v257 ba1 v258 v259).bind fun o407=>match o407 with
   | .norm v409 v410 v411=>(f15n5 f ba1 v409 v410 (wr64 (v258+1)) v411)
   | .ret=>some .ret
  else
   some (.exit0 v259)
theorem f15n5_ok:∀(f:Nat)(ba1:Qd)(v256 v257 v258:Int)(v259:List (ByteArray×Int)){o:f15n5O},f15n5 f ba1 v256 v257 v258 v259=some o→TL Tryd.prog Tryd.f15.ntmps 0 f (cL (cL (Qj 1 (cL (Qj 4 c15))))) (f15n5S ba1 v256 v257 v258 v259) (·=f15n5E ba1 o)
 | 0,_,_,_,_,_,o,h=>by rw [f15n5] at h; cases h
 | f+1,ba1,v256,v257,v258,v259,o,h=>by
  rw [f15n5] at h;refine TL.body (K:=fun s=>∃v256:Int,∃v257:Int,∃v258:Int,∃v259:List (ByteArray×Int),s=(f15n5S ba1 v256 v257 v258 v259)∧f15n5 f ba1 v256 v257 v258 v259=some o) ?_ (by rintro _ ⟨v256,v257,v258,v259,rfl,hk⟩; exact f15n5_ok f _ _ _ _ _ hk);rcases Qf h with ⟨h261,h⟩|⟨h261,h⟩
  ·refine rN Qe 2 [j3] [some true] [] [0,1] [1,3,4,5,28,29,30] (f15n2S v256 v257 ba1 v258 v259) (ap h261 an) ?_;obtain ⟨o407,h408,h⟩:=Qb h;cases o407 with
   | norm v409 v410 v411 =>
    refine T.oneN (by kernel_rfl) (f15n2_ok v256 v257 ba1 v258 v259 h408) (st2:=(f15n2E v256 v257 ba1 v258 v259 (.norm v409 v410 v411)).2) rfl ?_;exact rE Qe [j3] [] [] [0,1] [1,3,4,5,28,29,30] (.norm,(f15n5S ba1 v409 v410 (wr64 (v258+1)) v411)) an (Qy.norm ⟨v409,v410,(wr64 (v258+1)),v411,rfl,h⟩)
   | ret =>
    obtain rfl:=Qc h;exact T.oneX' (by kernel_rfl) (f15n2_ok v256 v257 ba1 v258 v259 h408) (tds:=[]) (m:=[]) (keep:=[2]) (st2:=(f15n5E ba1 .ret).2) (by kernel_rfl) an rfl (Qy.out rfl rfl)
  ·obtain rfl:=Qc h;exact rK Qe 2 [j3] [some false] [] [1] [5] (.exit 0) ((f15n5E ba1 (.exit0 v259)).2) (ap h261 an) (Qy.out rfl rfl)
inductive f15n1O where
 | norm (v416:List (ByteArray×Int))
 | ret
def f15n1E(ba1:Qd):f15n1O→Ex×Tr×Hp
 | .norm v416=>(.norm,mkS [(5,(.mp 0))],[some (.map (v416.map (mkv pStr (pInt .i64))))])
 | .ret=>(.ret,mkS [(2,(jI 8))],[])
def f15n1S(ba1:Qd):Tr×Hp:=(mkS [(1,(.bp 0 0)),(3,(jI 0)),(4,(jI 0)),(5,(.mp 1))],[some (.box 24 ((Qd.cells ba1).map .pl)),some (.map ([].map (mkv pStr (pInt .i64))))])
noncomputable def f15n1(ba1:Qd):Option f15n1O :=
 (f15n5 FUEL ba1 0 0 0 []).bind fun o413=>match o413 with
 | .exit0 v415=>some (.norm v415)
 | .ret=>some .ret
theorem f15n1_ok(ba1:Qd){o:f15n1O}(h:f15n1 ba1=some o):T Tryd.prog Tryd.f15.ntmps 0 (cL (Qj 4 c15)) (f15n1S ba1) (·=f15n1E ba1 o):=by
 unfold f15n1 at h;refine rN Qe 1 [([],[],[(2,.val (jI (ba1.Rows.length:Int)))])] [] [] [0,1] [1,3,4,5,28,29,30] (f15n5S ba1 0 0 0 []) (ap (Qx (xs:=ba1.Rows) (c:=Qa.cells)) an) ?_;obtain ⟨o413,h414,h⟩:=Qb h;cases o413 with
 | exit0 v415 =>
  obtain rfl:=Qc h;exact T.last' (T.bl (i:=0) (by kernel_rfl) (by kernel_rfl) (f15n5_ok FUEL ba1 0 0 0 [] h414)) (tds:=[]) (m:=[0]) (keep:=[5]) (st2:=(f15n1E ba1 (.norm v415)).2) (by kernel_rfl) an rfl
 | ret =>
  obtain rfl:=Qc h;exact T.last' (T.bl (i:=0) (by kernel_rfl) (by kernel_rfl) (f15n5_ok FUEL ba1 0 0 0 [] h414)) (tds:=[]) (m:=[]) (keep:=[2]) (st2:=(f15n1E ba1 .ret).2) (by kernel_rfl) an rfl
inductive f15n7O where
 | exit2
 | ret
def f15n7E(bg1:List (ByteArray×Int)):f15n7O→Ex×Tr×Hp
 | .exit2=>((.exit 2),mkS [],[])
 | .ret=>(.ret,mkS [(2,(jI 60))],[])
def f15n7S(bg1:List (ByteArray×Int))(sn0:List Nat):Tr×Hp:=(mkS [(114,(.it 0))],[some (.iter 1 (bg1.map (mkv pStr (pInt .i64))).length sn0),some (.map (bg1.map (mkv pStr (pInt .i64))))])
noncomputable def f15n7(bg1:List (ByteArray×Int)):List (ByteArray×Int)→Option f15n7O
 | [] =>
  some .exit2
 | x426::rest =>
  bif decide (x426.2=0) then
   (f15n7 bg1 rest)
  else
   some .ret
theorem f15n7_ok(bg1:List (ByteArray×Int)):∀(f:Nat)(sn0 rem:List Nat){o:f15n7O},Rem bg1.length sn0 rem→rem.length<f→(∀p,p.Perm rem→f15n7 bg1 (ords bg1 p)=some o)→TL Tryd.prog Tryd.f15.ntmps 0 f (cL (cL (Qj 1 (cL (Qj 0 (Qj 1 (Qj 4 c15))))))) (f15n7S bg1 sn0) (·=f15n7E bg1 o)
 | 0,_,_,_,_,hf,_=>absurd hf (Nat.not_lt_zero _)
 | f+1,sn0,rem,o,hR,hf,H=>by
  refine TL.body (K:=fun s=>∃(sn0 rem:List Nat),s=f15n7S bg1 sn0∧Rem bg1.length sn0 rem∧rem.length<f∧(∀p,p.Perm rem→f15n7 bg1 (ords bg1 p)=some o)) ?_ (by rintro _ ⟨sn0,rem,rfl,h1,h2,h3⟩; exact f15n7_ok bg1 f sn0 rem h1 h2 h3);refine T.oneNext Qe (x:=.tmp 114) (t:=115) (tb:=116) (i:=0) (o:=1) (m:=(bg1.map (mkv pStr (pInt .i64))).length) (seen:=sn0) (kvs:=(bg1.map (mkv pStr (pInt .i64)))) (by kernel_rfl) (by kernel_rfl) (by kernel_rfl) (by kernel_rfl) (by kernel_rfl) (by kernel_rfl) rfl (fun hs=>?_) (fun j425 k v hj hs hx=>?_)
  ·obtain rfl:=hR.none (by simpa using hs);have h:f15n7 bg1 []=some o:=H [] (List.Perm.refl _);rw [f15n7] at h;obtain rfl:=Qc h;exact rK Qe 1 [] [none] [] [] [] (.exit 2) ((f15n7E bg1 .exit2).2) an (Qy.out rfl rfl)
  ·obtain ⟨x426,h427,rfl,rfl⟩:=mkv_at hx;obtain ⟨hR2,hlen,hP⟩:=hR.step (j:=j425) (by simpa using hj) hs;have H2:∀p,p.Perm (rem.erase j425)→f15n7 bg1 (x426::ords bg1 p)=some o:=fun p hp=>by have h:=H _ (hP p hp); rwa [ords_cons h427] at h
   have h:=H2 _ (List.Perm.refl _);rw [f15n7] at h;rcases Qf h with ⟨h429,h⟩|⟨h429,h⟩
   ·exact rE Qe [([],[(0,.entr j425 (pStr x426.1) ((pInt .i64) x426.2))],[]),j3] [none,some false] [] [0,1] [114] (.norm,(f15n7S bg1 (sn0++[j425]))) (ap (last_app (seen:=sn0) (j:=j425)) (ap (rfl:(bg1.map (mkv pStr (pInt .i64))).length=(bg1.map (mkv pStr (pInt .i64))).length) (ap (at_mkv (kp:=pStr) (vp:=(pInt .i64)) h427) (ap (Qo h429) an)))) (Qy.norm ⟨sn0++[j425],rem.erase j425,rfl,hR2,by omega,fun p hp=>by have h:=H2 p hp; rw [f15n7] at h; simp only [h429,cond_true,cond_false,Option.bind_some,req] at h; exact h⟩)
   ·obtain rfl:=Qc h;exact rE Qe [([],[(0,.entr j425 (pStr x426.1) ((pInt .i64) x426.2))],[]),j3,j3] [none,some true] [] [] [2] (.ret,(f15n7E bg1 .ret).2) (ap (last_app (seen:=sn0) (j:=j425)) (ap (rfl:(bg1.map (mkv pStr (pInt .i64))).length=(bg1.map (mkv pStr (pInt .i64))).length) (ap (at_mkv (kp:=pStr) (vp:=(pInt .i64)) h427) (ap (Qag h429) an)))) (Qy.out rfl rfl)
inductive f15n6O where
 | norm
 | ret
def f15n6E(bg1:List (ByteArray×Int)):f15n6O→Ex×Tr×Hp
 | .norm=>(.norm,mkS [],[])
 | .ret=>(.ret,mkS [(2,(jI 60))],[])
def f15n6S(bg1:List (ByteArray×Int)):Tr×Hp:=(mkS [(5,(.mp 0))],[some (.map (bg1.map (mkv pStr (pInt .i64))))])
noncomputable def f15n6(bg1:List (ByteArray×Int)):Option f15n6O :=
 (anyOrder bg1 fun p=>(f15n7 bg1 p)).bind fun o430=>match o430 with
 | .exit2=>some .norm
 | .ret=>some .ret
theorem f15n6_ok(bg1:List (ByteArray×Int)){o:f15n6O}(h:f15n6 bg1=some o):T Tryd.prog Tryd.f15.ntmps 0 (cL (Qj 0 (Qj 1 (Qj 4 c15)))) (f15n6S bg1) (·=f15n6E bg1 o):=by
 unfold f15n6 at h;refine rN Qe 1 [j3] [] [] [1,0] [114] (f15n7S bg1 []) an ?_;obtain ⟨o430,h431,h⟩:=Qb h;cases o430 with
 | exit2 =>
  obtain rfl:=Qc h;exact T.last' (T.bl (i:=2) (by kernel_rfl) (by kernel_rfl) (f15n7_ok bg1 _ [] (List.range bg1.length) (Rem.start _) (Nat.lt_succ_self _) (fun p hp=>anyOrder_at h431 _ (ords_perm hp)))) (tds:=[]) (m:=[]) (keep:=[]) (st2:=(f15n6E bg1 .norm).2) (by kernel_rfl) an rfl
 | ret =>
  obtain rfl:=Qc h;exact T.last' (T.bl (i:=2) (by kernel_rfl) (by kernel_rfl) (f15n7_ok bg1 _ [] (List.range bg1.length) (Rem.start _) (Nat.lt_succ_self _) (fun p hp=>anyOrder_at h431 _ (ords_perm hp)))) (tds:=[]) (m:=[]) (keep:=[2]) (st2:=(f15n6E bg1 .ret).2) (by kernel_rfl) an rfl
inductive f15n0O where
 | ret (v434:Int)
def f15n0E(a1:Qd):f15n0O→Ex×Tr×Hp
 | .ret v434=>(.ret,mkS [(2,(jI v434))],[])
def f15n0S(a1:Qd):Tr×Hp:=(Qbd [(jA Qd.cells a1)] 0 .leaf,[])
noncomputable def f15n0(a1:Qd):Option f15n0O :=
 (f39 a1.From a1.To).bind fun x7 =>
 bif x7 then
  bif decide (a1.Known<0) then
   some (.ret 8)
  else
   bif decide (200<a1.Known) then
    some (.ret 8)
   else
    (f15n1 a1).bind fun o417=>match o417 with
    | .norm v419=>(f15n6 v419).bind fun o432=>match o432 with
     | .norm=>some (.ret 0)
     | .ret=>some (.ret 60)
    | .ret=>some (.ret 8)
 else
  some (.ret 8)
theorem f15n0_ok(a1:Qd){o:f15n0O}(h:f15n0 a1=some o):T Tryd.prog Tryd.f15.ntmps 0 c15 (f15n0S a1) (·=f15n0E a1 o):=by
 unfold f15n0 at h;obtain ⟨x7,h8,h⟩:=Qb h;rcases Qf h with ⟨h9,h⟩|⟨h9,h⟩
 ·rcases Qf h with ⟨h10,h⟩|⟨h10,h⟩
  ·obtain rfl:=Qc h;exact rK Qe 2 [j3,(jF [7,8,9]++jT [12,13,14],[jH 4 (jB x7),(10,.bool false),(15,.bool true)],[]),j3] [none] [] [] [2] .ret ((f15n0E a1 (.ret 8)).2) (ap4 (Qo h9) (ap4 h10 (ap (f39_ok a1.From a1.To h8) an))) rfl
  ·rcases Qf h with ⟨h11,h⟩|⟨h11,h⟩
   ·obtain rfl:=Qc h;exact rK Qe 2 [j3,(jF [7,8,9,12,13,14],[jH 4 (jB x7),(10,.bool false),(15,.bool false)],[]),j3] [some true] [] [] [2] .ret ((f15n0E a1 (.ret 8)).2) (ap4 (Qo h9) (ap4 h10 (ap (f39_ok a1.From a1.To h8) (ap h11 an)))) rfl
   ·refine rN Qe 4 [j3,(jF [7,8,9,12,13,14],[jH 4 (jB x7),(10,.bool false),(15,.bool false)],[]),j3,j3] [some false] [] [0,1] [1,3,4,5] (f15n1S a1) (ap4 (Qo h9) (ap4 h10 (ap (f39_ok a1.From a1.To h8) (ap h11 an)))) ?_;obtain ⟨o417,h418,h⟩:=Qb h;cases o417 with
    | norm v419 =>
     refine T.oneN (by kernel_rfl) (f15n1_ok a1 h418) (st2:=(f15n1E a1 (.norm v419)).2) rfl ?_;refine rN Qe 0 [] [] [] [0] [5] (f15n6S v419) an ?_;obtain ⟨o432,h433,h⟩:=Qb h;cases o432 with
     | norm =>
      refine T.oneN (by kernel_rfl) (f15n6_ok v419 h433) (st2:=(f15n6E v419 .norm).2) rfl ?_;obtain rfl:=Qc h;exact rE Qe [j3] [] [] [] [2] (.ret,(f15n0E a1 (.ret 0)).2) an rfl
     | ret =>
      obtain rfl:=Qc h;exact T.oneX' (by kernel_rfl) (f15n6_ok v419 h433) (tds:=[]) (m:=[]) (keep:=[2]) (st2:=(f15n0E a1 (.ret 60)).2) (by kernel_rfl) an rfl rfl
    | ret =>
     obtain rfl:=Qc h;exact T.oneX' (by kernel_rfl) (f15n1_ok a1 h418) (tds:=[]) (m:=[]) (keep:=[2]) (st2:=(f15n0E a1 (.ret 8)).2) (by kernel_rfl) an rfl rfl
 ·obtain rfl:=Qc h;exact rK Qe 2 [j3,(jT [7,8,9],[jH 4 (jB x7),(10,.bool true)],[]),j3] [none] [] [] [2] .ret ((f15n0E a1 (.ret 8)).2) (ap4 (Qag h9) (ap (f39_ok a1.From a1.To h8) an)) rfl
noncomputable def f15(a1:Qd):Option Int:=(f15n0 a1).bind fun o=>match o with
 | .ret v434=>some v434
theorem f15_ok(a1:Qd){r:Int}(h:f15 a1=some r):Qs Tryd.prog false 15 [(jA Qd.cells a1)] [] (jI r) []:=by
 unfold f15 at h;obtain ⟨o,ho,h⟩:=Qb h;cases o with
 | ret v434 =>
  obtain rfl:=Qc h;exact Qs.plain Qe (f:=Tryd.f15) (c:=c15) (by kernel_rfl) (by kernel_rfl) (by kernel_rfl) (by kernel_rfl) ((f15n0_ok a1 ho).mono fun r e=>by subst e; exact ⟨.inl rfl,(jI v434),(jI v434),by kernel_rfl,by kernel_rfl,((Wk.refl _):Wk (jI v434) (jI v434))⟩)

def ita31(n:Int):Option ByteArray:=bif decide (-9223372036854775808≤n)&&decide (n≤9223372036854775807) then some (Qz n) else none
theorem ita31_ok(n:Int){r:ByteArray}(h:ita31 n=some r):Qs Tryd.prog false 31 [.pl (.int .i64 n)] [] (.pl (.str r)) []:=by
 unfold ita31 at h;cases hc:(decide (-9223372036854775808≤n)&&decide (n≤9223372036854775807)) with
 | false=>rw [hc] at h; cases h
 | true =>
  rw [hc] at h;simp only [cond_true,Option.some.injEq] at h;rw [Bool.and_eq_true] at hc;subst h;exact itoa_call (of_decide_eq_true hc.1) (of_decide_eq_true hc.2)


def wr57(p1:Int):Option ByteArray:=bif decide (0<p1)&&decide (p1≤281474976710656) then some ⟨#[]⟩ else none
theorem wr57_ok(p1:Int){r:ByteArray}(h:wr57 p1=some r):Qs Tryd.prog true 57 [.bp 0 0,.pl (.int .i64 p1)] [some bxN] (.tup []) [some (bxU 1),some (.brow 5 r)]:=by
 unfold wr57 at h;cases hc:(decide (0<p1)&&decide (p1≤281474976710656)) with
 | false=>rw [hc] at h; cases h
 | true =>
  rw [hc] at h;simp only [cond_true,Option.some.injEq] at h;rw [Bool.and_eq_true] at hc;subst h;exact ws_grow (of_decide_eq_true hc.1) (of_decide_eq_true hc.2)


def wm32(p1 p2:ByteArray):Option ByteArray:=bif decide (p1.size+p2.size≤140737488355328) then some (scat p1 p2) else none
theorem wm32_ok(p1 p2:ByteArray){r:ByteArray}(h:wm32 p1 p2=some r):Qs Tryd.prog true 32 [.bp 0 0,.pl (.str p2)] [some (bxU 1),some (.brow 5 p1)] (.tup [.pl (.int .i64 (p2.size:Int)),.pl .nili]) [some (bxU 2),none,some (.brow 5 r)]:=by
 unfold wm32 at h;cases hc:(decide (p1.size+p2.size≤140737488355328)) with
 | false=>rw [hc] at h; cases h
 | true =>
  rw [hc] at h;simp only [cond_true,Option.some.injEq] at h;subst h;exact ws_more (of_decide_eq_true hc)


def wg34(p1:ByteArray):Option ByteArray:=bif decide (0<p1.size) then some p1 else none
theorem wg34_ok(p1:ByteArray){r:ByteArray}(h:wg34 p1=some r):Qs Tryd.prog true 34 [.bp 0 0] [some (bxU 1),some (.brow 5 p1)] (.pl (.str r)) [some (bxU 1),none]:=by
 unfold wg34 at h;cases hc:(decide (0<p1.size)) with
 | false=>rw [hc] at h; cases h
 | true =>
  rw [hc] at h;simp only [cond_true,Option.some.injEq] at h;subst h;exact ws_str (of_decide_eq_true hc)


noncomputable def c33:Code:=Tryd.f33.body.getD .skip
inductive f33n1O where
 | norm (v20:Int)
def f33n1E(bh1:List ByteArray)(bb2:ByteArray):f33n1O→Ex×Tr×Hp
 | .norm v20=>(.norm,mkS [(0,(jL 1 cStr bh1)),(1,(jS bb2)),(5,(jI v20))],[])
def f33n1S(bh1:List ByteArray)(bb2:ByteArray):Tr×Hp:=(mkS [(0,(jL 1 cStr bh1)),(1,(jS bb2)),(5,(jI 0))],[])
noncomputable def f33n1(bh1:List ByteArray)(bb2:ByteArray):Option f33n1O :=
 bif decide (0<(bb2.size:Int)) then
  req (!(decide ((wr64 ((bh1.length:Int)-1))=0))) <|
  bif (decide ((wr64 (Int.tdiv 9223372036854775807 (wr64 ((bh1.length:Int)-1))))≤(bb2.size:Int))) then
   none
  else
   some (.norm (wr64 (0+(wr64 ((bb2.size:Int)*(wr64 ((bh1.length:Int)-1)))))))
 else
  some (.norm 0)
theorem f33n1_ok(bh1:List ByteArray)(bb2:ByteArray){o:f33n1O}(h:f33n1 bh1 bb2=some o):T Tryd.prog Tryd.f33.ntmps 0 (cL (Qj 3 c33)) (f33n1S bh1 bb2) (·=f33n1E bh1 bb2 o):=by
 unfold f33n1 at h;rcases Qf h with ⟨h17,h⟩|⟨h17,h⟩
 ·obtain ⟨h18,h⟩:=Qr h;rcases Qf h with ⟨h19,h⟩|⟨h19,h⟩
  ·cases h
  ·obtain rfl:=Qc h;exact rE Qe [j3,([],[(5,.nz)],[(3,.val (jI (bh1.length:Int)))]),([],[],[(4,.val (jI (bh1.length:Int)))])] [some true,some false] [] [] [0,1,5] (.norm,(f33n1E bh1 bb2 (.norm (wr64 (0+(wr64 ((bb2.size:Int)*(wr64 ((bh1.length:Int)-1)))))))).2) (ap h17 (ap (Qx (xs:=bh1) (c:=cStr)) (ap (ne_of h18) (ap h19 (ap (Qx (xs:=bh1) (c:=cStr)) an))))) rfl
 ·obtain rfl:=Qc h;exact rE Qe [j3] [some false] [] [] [0,1,5] (.norm,(f33n1E bh1 bb2 (.norm 0)).2) (ap h17 an) rfl
inductive f33n3O where
 | exit1 (v52:Int)
def f33n3E(bh1:List ByteArray)(bb2:ByteArray):f33n3O→Ex×Tr×Hp
 | .exit1 v52=>((.exit 1),mkS [(0,(jL 1 cStr bh1)),(1,(jS bb2)),(5,(jI v52))],[])
def f33n3S(bh1:List ByteArray)(bb2:ByteArray)(v42 v43:Int):Tr×Hp:=(mkS [(0,(jL 1 cStr bh1)),(1,(jS bb2)),(5,(jI v42)),(39,(jL 1 cStr bh1)),(40,(jI (bh1.length:Int))),(41,(jI v43))],[])
noncomputable def f33n3:Nat→List ByteArray→ByteArray→Int→Int→Option f33n3O
 | 0,_,_,_,_=>none
 | f+1,bh1,bb2,v42,v43 =>
  bif decide (v43<(bh1.length:Int)) then
   (at? bh1 v43).bind fun x49 =>
   bif (decide ((wr64 (9223372036854775807-v42))<(x49.size:Int))) then
    none
   else
    (f33n3 f bh1 bb2 (wr64 (v42+(x49.size:Int))) (wr64 (v43+1)))
  else
   some (.exit1 v42)
theorem f33n3_ok:∀(f:Nat)(bh1:List ByteArray)(bb2:ByteArray)(v42 v43:Int){o:f33n3O},f33n3 f bh1 bb2 v42 v43=some o→TL Tryd.prog Tryd.f33.ntmps 0 f (cL (cL (Qj 1 (cL (Qj 0 (Qj 1 (Qj 3 c33))))))) (f33n3S bh1 bb2 v42 v43) (·=f33n3E bh1 bb2 o)
 | 0,_,_,_,_,o,h=>by rw [f33n3] at h; cases h
 | f+1,bh1,bb2,v42,v43,o,h=>by
  rw [f33n3] at h;refine TL.body (K:=fun s=>∃v42:Int,∃v43:Int,s=(f33n3S bh1 bb2 v42 v43)∧f33n3 f bh1 bb2 v42 v43=some o) ?_ (by rintro _ ⟨v42,v43,rfl,hk⟩; exact f33n3_ok f _ _ _ _ hk);rcases Qf h with ⟨h45,h⟩|⟨h45,h⟩
  ·obtain ⟨x49,h50,h⟩:=Qb h;rcases Qf h with ⟨h51,h⟩|⟨h51,h⟩
   ·cases h
   ·exact rE Qe [j3,([],[(0,.idx (Int.toNat v43) (cStr x49))],[]),j3,j3,j3] [some true,some false] [] [] [0,1,5,39,40,41] (.norm,(f33n3S bh1 bb2 (wr64 (v42+(x49.size:Int))) (wr64 (v43+1)))) (ap h45 (ap (Qi h50).1 (ap (Qu cStr (Qi h50).2) (ap h51 an)))) (Qy.norm ⟨(wr64 (v42+(x49.size:Int))),(wr64 (v43+1)),rfl,h⟩)
  ·obtain rfl:=Qc h;exact rK Qe 2 [j3] [some false] [] [] [0,1,5] (.exit 1) ((f33n3E bh1 bb2 (.exit1 v42)).2) (ap h45 an) (Qy.out rfl rfl)
noncomputable def f33n3L(bh1:List ByteArray)(bb2:ByteArray):List ByteArray→Int→Int→Option f33n3O
 | [],v42,v43 =>
  some (.exit1 v42)
 | x0::rest,v42,v43 =>
  bif (decide ((wr64 (9223372036854775807-v42))<(x0.size:Int))) then
   none
  else
   (f33n3L bh1 bb2 rest (wr64 (v42+(x0.size:Int))) (v43+1))
theorem f33n3L_eq(bh1:List ByteArray)(bb2:ByteArray):∀(rest:List ByteArray)(f k:Nat)(v42:Int),bh1.drop k=rest→bh1.length≤maxLen→rest.length<f→f33n3 f bh1 bb2 v42 (k:Int)=f33n3L bh1 bb2 rest v42 (k:Int)
 | _,0,_,_,_,_,hf=>absurd hf (Nat.not_lt_zero _)
 | [],f+1,k,v42,hd,hm,hf=>by
  have hk:¬((k:Int)<(bh1.length:Int)):=by have:=Qah hd; omega
  rw [f33n3,f33n3L];simp only [decide_eq_false hk,cond_false]
 | x0::rest,f+1,k,v42,hd,hm,hf=>by
  obtain ⟨hx,hlt,hd'⟩:=Qap hd;have hk:(k:Int)<(bh1.length:Int):=by omega
  have hw:wr64 ((k:Int)+1)=(k:Int)+1:=wr64_of (by omega) (by unfold maxLen at hm; omega);have ih:∀(v42:Int),f33n3 f bh1 bb2 v42 ((k:Int)+1)=f33n3L bh1 bb2 rest v42 ((k:Int)+1):=fun v42=>f33n3L_eq bh1 bb2 rest f (k+1) v42 hd' hm (by simpa using hf);rw [f33n3,f33n3L];simp only [decide_eq_true hk,cond_true,at_nat,hx,Option.bind_some,hw,ih]
theorem f33n3_run(bh1:List ByteArray)(bb2:ByteArray)(v42:Int)(hm:bh1.length≤maxLen):f33n3 FUEL bh1 bb2 v42 0=f33n3L bh1 bb2 bh1 v42 0:=f33n3L_eq bh1 bb2 bh1 FUEL 0 v42 List.drop_zero hm (Qcf hm)
inductive f33n2O where
 | norm (v56:Int)
def f33n2E(bh1:List ByteArray)(bb2:ByteArray)(bd3:Int):f33n2O→Ex×Tr×Hp
 | .norm v56=>(.norm,mkS [(0,(jL 1 cStr bh1)),(1,(jS bb2)),(5,(jI v56))],[])
def f33n2S(bh1:List ByteArray)(bb2:ByteArray)(bd3:Int):Tr×Hp:=(mkS [(0,(jL 1 cStr bh1)),(1,(jS bb2)),(5,(jI bd3))],[])
noncomputable def f33n2(bh1:List ByteArray)(bb2:ByteArray)(bd3:Int):Option f33n2O :=
 (f33n3 FUEL bh1 bb2 bd3 0).bind fun o53=>match o53 with
 | .exit1 v55=>some (.norm v55)
theorem f33n2_ok(bh1:List ByteArray)(bb2:ByteArray)(bd3:Int){o:f33n2O}(h:f33n2 bh1 bb2 bd3=some o):T Tryd.prog Tryd.f33.ntmps 0 (cL (Qj 0 (Qj 1 (Qj 3 c33)))) (f33n2S bh1 bb2 bd3) (·=f33n2E bh1 bb2 bd3 o):=by
 unfold f33n2 at h;refine rN Qe 1 [([],[],[(1,.val (jI (bh1.length:Int)))])] [] [] [] [0,1,5,39,40,41] (f33n3S bh1 bb2 bd3 0) (ap (Qx (xs:=bh1) (c:=cStr)) an) ?_;obtain ⟨o53,h54,h⟩:=Qb h;cases o53 with
 | exit1 v55 =>
  obtain rfl:=Qc h;exact T.last' (T.bl (i:=1) (by kernel_rfl) (by kernel_rfl) (f33n3_ok FUEL bh1 bb2 bd3 0 h54)) (tds:=[]) (m:=[]) (keep:=[0,1,5]) (st2:=(f33n2E bh1 bb2 bd3 (.norm v55)).2) (by kernel_rfl) an rfl
inductive f33n5O where
 | exit3 (v120:ByteArray)
def f33n5E(bb2:ByteArray)(bh1:List ByteArray):f33n5O→Ex×Tr×Hp
 | .exit3 v120=>((.exit 3),mkS [(8,(.bp 0 0))],[some (.box 71 [(.bp 0 0),(.own 1)]),some (.brow 5 v120)])
def f33n5S(bb2:ByteArray)(bh1:List ByteArray)(v104:Int)(v105:ByteArray):Tr×Hp:=(mkS [(1,(jS bb2)),(8,(.bp 0 0)),(63,(.pl (.sl .any 1 ((bh1.drop (Int.toNat 1)).map cStr)))),(64,(jI ((bh1.drop (Int.toNat 1)).length:Int))),(65,(jI v104))],[some (.box 71 [(.bp 0 0),(.own 1)]),some (.brow 5 v105)])
noncomputable def f33n5:Nat→ByteArray→List ByteArray→Int→ByteArray→Option f33n5O
 | 0,_,_,_,_=>none
 | f+1,bb2,bh1,v104,v105 =>
  bif (decide (v104<((bh1.drop (Int.toNat 1)).length:Int))) then
   (at? (bh1.drop (Int.toNat 1)) v104).bind fun x114 =>
   (wm32 v105 bb2).bind fun x116 =>
   (wm32 x116 x114).bind fun x118 =>
   (f33n5 f bb2 bh1 (wr64 (v104+1)) x118)
  else
   some (.exit3 v105)
theorem f33n5_ok:∀(f:Nat)(bb2:ByteArray)(bh1:List ByteArray)(v104:Int)(v105:ByteArray){o:f33n5O},f33n5 f bb2 bh1 v104 v105=some o→TL Tryd.prog Tryd.f33.ntmps 0 f (cL (cL (Qj 1 (cL (Qj 3 (Qj 1 (Qj 0 (Qj 1 (Qj 3 c33))))))))) (f33n5S bb2 bh1 v104 v105) (·=f33n5E bb2 bh1 o)
 | 0,_,_,_,_,o,h=>by rw [f33n5] at h; cases h
 | f+1,bb2,bh1,v104,v105,o,h=>by
  rw [f33n5] at h;refine TL.body (K:=fun s=>∃v104:Int,∃v105:ByteArray,s=(f33n5S bb2 bh1 v104 v105)∧f33n5 f bb2 bh1 v104 v105=some o) ?_ (by rintro _ ⟨v104,v105,rfl,hk⟩; exact f33n5_ok f _ _ _ _ hk);rcases Qf h with ⟨h107,h⟩|⟨h107,h⟩
  ·obtain ⟨x114,h115,h⟩:=Qb h;obtain ⟨x116,h117,h⟩:=Qb h;obtain ⟨x118,h119,h⟩:=Qb h;exact rE Qe [j3,([],[(0,.idx (Int.toNat v104) (cStr x114))],[]),([],[(1,.call (.tup [(jI ((bb2.size:Nat):Int)),(.pl .nili)]) [some (.box 71 [(.bp 0 0),(.own 2)]),none,some (.brow 5 x116)])],[]),([],[(1,.call (.tup [(jI ((x114.size:Nat):Int)),(.pl .nili)]) [some (.box 71 [(.bp 0 0),(.own 3)]),none,none,some (.brow 5 x118)])],[]),j3] [some true] [] [0,3] [1,8,63,64,65] (.norm,(f33n5S bb2 bh1 (wr64 (v104+1)) x118)) (ap h107 (ap (Qi h115).1 (ap (Qu cStr (Qi h115).2) (ap (wm32_ok v105 bb2 h117) (ap (Qs.rn 3 [0,2] (wm32_ok x116 x114 h119)) an))))) (Qy.norm ⟨(wr64 (v104+1)),x118,rfl,h⟩)
  ·obtain rfl:=Qc h;exact rK Qe 2 [j3] [some false] [] [0,1] [8] (.exit 3) ((f33n5E bb2 bh1 (.exit3 v105)).2) (ap h107 an) (Qy.out rfl rfl)
noncomputable def f33n5L(bb2:ByteArray)(bh1:List ByteArray):List ByteArray→Int→ByteArray→Option f33n5O
 | [],v104,v105 =>
  some (.exit3 v105)
 | x0::rest,v104,v105 =>
  (wm32 v105 bb2).bind fun x116 =>
  (wm32 x116 x0).bind fun x118 =>
  (f33n5L bb2 bh1 rest (v104+1) x118)
theorem f33n5L_eq(bb2:ByteArray)(bh1:List ByteArray):∀(rest:List ByteArray)(f k:Nat)(v105:ByteArray),(bh1.drop (Int.toNat 1)).drop k=rest→(bh1.drop (Int.toNat 1)).length≤maxLen→rest.length<f→f33n5 f bb2 bh1 (k:Int) v105=f33n5L bb2 bh1 rest (k:Int) v105
 | _,0,_,_,_,_,hf=>absurd hf (Nat.not_lt_zero _)
 | [],f+1,k,v105,hd,hm,hf=>by
  have hk:¬((k:Int)<((bh1.drop (Int.toNat 1)).length:Int)):=by have:=Qah hd; omega
  rw [f33n5,f33n5L];simp only [decide_eq_false hk,cond_false]
 | x0::rest,f+1,k,v105,hd,hm,hf=>by
  obtain ⟨hx,hlt,hd'⟩:=Qap hd;have hk:(k:Int)<((bh1.drop (Int.toNat 1)).length:Int):=by omega
  have hw:wr64 ((k:Int)+1)=(k:Int)+1:=wr64_of (by omega) (by unfold maxLen at hm; omega);have ih:∀(v105:ByteArray),f33n5 f bb2 bh1 ((k:Int)+1) v105=f33n5L bb2 bh1 rest ((k:Int)+1) v105:=fun v105=>f33n5L_eq bb2 bh1 rest f (k+1) v105 hd' hm (by simpa using hf);rw [f33n5,f33n5L];simp only [decide_eq_true hk,cond_true,at_nat,hx,Option.bind_some,hw,ih]
theorem f33n5_run(bb2:ByteArray)(bh1:List ByteArray)(v105:ByteArray) (hm:(bh1.drop (Int.toNat 1)).length≤maxLen):f33n5 FUEL bb2 bh1 0 v105=f33n5L bb2 bh1 (bh1.drop (Int.toNat 1)) 0 v105:=f33n5L_eq bb2 bh1 (bh1.drop (Int.toNat 1)) FUEL 0 v105 List.drop_zero hm (Qcf hm)
inductive f33n4O where
 | norm (v124:ByteArray)
def f33n4E(bh1:List ByteArray)(bb2 bb3:ByteArray):f33n4O→Ex×Tr×Hp
 | .norm v124=>(.norm,mkS [(8,(.bp 0 0))],[some (.box 71 [(.bp 0 0),(.own 1)]),some (.brow 5 v124)])
def f33n4S(bh1:List ByteArray)(bb2 bb3:ByteArray):Tr×Hp:=(mkS [(0,(jL 1 cStr bh1)),(1,(jS bb2)),(8,(.bp 0 0))],[some (.box 71 [(.bp 0 0),(.own 1)]),some (.brow 5 bb3)])
noncomputable def f33n4(bh1:List ByteArray)(bb2 bb3:ByteArray):Option f33n4O :=
 req (cutB 1 (bh1.length:Int) bh1.length) <|
 (f33n5 FUEL bb2 bh1 0 bb3).bind fun o121=>match o121 with
 | .exit3 v123=>some (.norm v123)
theorem f33n4_ok(bh1:List ByteArray)(bb2 bb3:ByteArray){o:f33n4O}(h:f33n4 bh1 bb2 bb3=some o):T Tryd.prog Tryd.f33.ntmps 0 (cL (Qj 3 (Qj 1 (Qj 0 (Qj 1 (Qj 3 c33)))))) (f33n4S bh1 bb2 bb3) (·=f33n4E bh1 bb2 bb3 o):=by
 unfold f33n4 at h;obtain ⟨h73,h⟩:=Qr h;refine rN Qe 1 [([],[(1,.cut (Int.toNat 1) bh1.length)],[(1,.val (.pl (.sl .any 1 ((bh1.drop (Int.toNat 1)).map cStr)))),(2,.val (jI ((bh1.drop (Int.toNat 1)).length:Int)))])] [] [] [0,1] [1,8,63,64,65] (f33n5S bb2 bh1 0 bb3) (ap (cut_nl_1_map (c:=cStr) h73) (ap (cut_nl_2 h73) (ap (cut_nl_3 h73) (ap (cut_nl_4_map (c:=cStr) h73) (ap (congrArg (fun l=>AV.pl (.sl .any 1 l)) (drop_cv (xs:=bh1) (c:=cStr) (m:=(Int.toNat 1)))) (ap (Qx (xs:=(bh1.drop (Int.toNat 1))) (c:=cStr)) an)))))) ?_;obtain ⟨o121,h122,h⟩:=Qb h;cases o121 with
 | exit3 v123 =>
  obtain rfl:=Qc h;exact T.last' (T.bl (i:=3) (by kernel_rfl) (by kernel_rfl) (f33n5_ok FUEL bb2 bh1 0 bb3 h122)) (tds:=[]) (m:=[0,1]) (keep:=[8]) (st2:=(f33n4E bh1 bb2 bb3 (.norm v123)).2) (by kernel_rfl) an rfl
inductive f33n0O where
 | ret (v132:ByteArray)
def f33n0E(a1:List ByteArray)(a2:ByteArray):f33n0O→Ex×Tr×Hp
 | .ret v132=>(.ret,mkS [(4,(jS v132))],[])
def f33n0S(a1:List ByteArray)(a2:ByteArray):Tr×Hp:=(Qbd [(jL 1 cStr a1),(jS a2)] 0 .leaf,[])
noncomputable def f33n0(a1:List ByteArray)(a2:ByteArray):Option f33n0O :=
 bif decide ((a1.length:Int)=0) then
  some (.ret Qae)
 else
  bif decide ((a1.length:Int)=1) then
   (at? a1 0).bind fun x9 =>
   some (.ret x9)
  else
   (f33n1 a1 a2).bind fun o21=>match o21 with
   | .norm v23=>(f33n2 a1 a2 v23).bind fun o57=>match o57 with
    | .norm v59=>(wr57 v59).bind fun x62 =>
     (at? a1 0).bind fun x68 =>
     (wm32 x62 x68).bind fun x70 =>
     (f33n4 a1 a2 x70).bind fun o125=>match o125 with
     | .norm v127=>(wg34 v127).bind fun x130 =>
      some (.ret x130)
theorem f33n0_ok(a1:List ByteArray)(a2:ByteArray){o:f33n0O}(h:f33n0 a1 a2=some o):T Tryd.prog Tryd.f33.ntmps 0 c33 (f33n0S a1 a2) (·=f33n0E a1 a2 o):=by
 unfold f33n0 at h;rcases Qf h with ⟨h7,h⟩|⟨h7,h⟩
 ·obtain rfl:=Qc h;exact rK Qe 2 [j3,([],[],[(1,.val (jI (a1.length:Int)))]),j3,j3] [some true] [] [] [4] .ret ((f33n0E a1 a2 (.ret Qae)).2) (ap (Qx (xs:=a1) (c:=cStr)) (ap h7 an)) rfl
 ·rcases Qf h with ⟨h8,h⟩|⟨h8,h⟩
  ·obtain ⟨x9,h10,h⟩:=Qb h;obtain rfl:=Qc h;exact rK Qe 2 [j3,([],[],[(1,.val (jI (a1.length:Int)))]),j3,j3,([],[(1,.idx (Int.toNat 0) (cStr x9))],[])] [some false,some true] [] [] [4] .ret ((f33n0E a1 a2 (.ret x9)).2) (ap (Qx (xs:=a1) (c:=cStr)) (ap h7 (ap h8 (ap (Qi h10).1 (ap (Qu cStr (Qi h10).2) an))))) rfl
  ·refine rN Qe 3 [j3,([],[],[(1,.val (jI (a1.length:Int)))]),j3,j3,j3] [some false,some false] [] [] [0,1,5] (f33n1S a1 a2) (ap (Qx (xs:=a1) (c:=cStr)) (ap h7 (ap h8 an))) ?_;obtain ⟨o21,h22,h⟩:=Qb h;cases o21 with
   | norm v23 =>
    refine T.oneN (by kernel_rfl) (f33n1_ok a1 a2 h22) (st2:=(f33n1E a1 a2 (.norm v23)).2) rfl ?_;refine rN Qe 0 [] [] [] [] [0,1,5] (f33n2S a1 a2 v23) an ?_;obtain ⟨o57,h58,h⟩:=Qb h;cases o57 with
    | norm v59 =>
     refine T.oneN (by kernel_rfl) (f33n2_ok a1 a2 v23 h58) (st2:=(f33n2E a1 a2 v23 (.norm v59)).2) rfl ?_;obtain ⟨x62,h63,h⟩:=Qb h;obtain ⟨x68,h69,h⟩:=Qb h;obtain ⟨x70,h71,h⟩:=Qb h;refine rN Qe 3 [j3,([],[(1,.call (.tup []) [some (.box 71 [(.bp 0 0),(.own 1)]),some (.brow 5 x62)])],[]),([],[(1,.idx (Int.toNat 0) (cStr x68)),(3,.call (.tup [(jI ((x68.size:Nat):Int)),(.pl .nili)]) [some (.box 71 [(.bp 0 0),(.own 2)]),none,some (.brow 5 x70)])],[])] [] [] [0,2] [0,1,8] (f33n4S a1 a2 x70) (ap (wr57_ok v59 h63) (ap (Qi h69).1 (ap (Qu cStr (Qi h69).2) (ap (wm32_ok x62 x68 h71) an)))) ?_;obtain ⟨o125,h126,h⟩:=Qb h;cases o125 with
     | norm v127 =>
      refine T.oneN (by kernel_rfl) (f33n4_ok a1 a2 x70 h126) (st2:=(f33n4E a1 a2 x70 (.norm v127)).2) rfl ?_;obtain ⟨x130,h131,h⟩:=Qb h;obtain rfl:=Qc h;exact rE Qe [([],[(0,.call (jS x130) [some (.box 71 [(.bp 0 0),(.own 1)]),none])],[])] [] [] [] [4] (.ret,(f33n0E a1 a2 (.ret x130)).2) (ap (wg34_ok v127 h131) an) rfl
noncomputable def f33(a1:List ByteArray)(a2:ByteArray):Option ByteArray:=(f33n0 a1 a2).bind fun o=>match o with
 | .ret v132=>some v132
theorem f33_ok(a1:List ByteArray)(a2:ByteArray){r:ByteArray}(h:f33 a1 a2=some r):Qs Tryd.prog false 33 [(jL 1 cStr a1),(jS a2)] [] (jS r) []:=by
 unfold f33 at h;obtain ⟨o,ho,h⟩:=Qb h;cases o with
 | ret v132 =>
  obtain rfl:=Qc h;exact Qs.plain Qe (f:=Tryd.f33) (c:=c33) (by kernel_rfl) (by kernel_rfl) (by kernel_rfl) (by kernel_rfl) ((f33n0_ok a1 a2 ho).mono fun r e=>by subst e; exact ⟨.inl rfl,(jS v132),(jS v132),by kernel_rfl,by kernel_rfl,((Wk.refl _):Wk (jS v132) (jS v132))⟩)

def wn32(p1:ByteArray):Option ByteArray:=bif decide (0<p1.size)&&decide (p1.size≤140737488355328) then some p1 else none
theorem wn32_ok(p1:ByteArray){r:ByteArray}(h:wn32 p1=some r):Qs Tryd.prog true 32 [.bp 0 0,.pl (.str p1)] [some bxN] (.tup [.pl (.int .i64 (p1.size:Int)),.pl .nili]) [some (bxU 1),some (.brow 5 r)]:=by
 unfold wn32 at h;cases hc:(decide (0<p1.size)&&decide (p1.size≤140737488355328)) with
 | false=>rw [hc] at h; cases h
 | true =>
  rw [hc] at h;simp only [cond_true,Option.some.injEq] at h;rw [Bool.and_eq_true] at hc;subst h;exact ws_new (of_decide_eq_true hc.1) (of_decide_eq_true hc.2)


noncomputable def c30:Code:=Tryd.f30.body.getD .skip
inductive f30r1n2O where
 | exit0 (v43:List ByteArray)
def f30r1n2E(bf2:List Int):f30r1n2O→Ex×Tr×Hp
 | .exit0 v43=>((.exit 0),mkS [(0,(.own 3)),(2,(.bp 2 0))],[none,some (.row false 1 (bf2.map (cInt .i64))),some (.box 71 [(.pl .nilp),(.pl (.sl .nil 0 []))]),jR 1 cStr v43])
def f30r1n2S(bf2:List Int)(v29:Int)(v30:List ByteArray):Tr×Hp:=(mkS [(0,(.own 3)),(2,(.bp 2 0)),(7,(.own 1)),(8,(jI (bf2.length:Int))),(9,(jI v29))],[none,some (.row false 1 (bf2.map (cInt .i64))),some (.box 71 [(.pl .nilp),(.pl (.sl .nil 0 []))]),jR 1 cStr v30])
noncomputable def f30r1n2:Nat→List Int→Int→List ByteArray→Option f30r1n2O
 | 0,_,_,_=>none
 | f+1,bf2,v29,v30 =>
  bif decide (v29<(bf2.length:Int)) then
   (at? bf2 v29).bind fun x38 =>
   (ita31 x38).bind fun x40 =>
   req (fit (v30.length+1) 16) <|
   (f30r1n2 f bf2 (wr64 (v29+1)) (v30++[x40]))
  else
   some (.exit0 v30)
theorem f30r1n2_ok:∀(f:Nat)(bf2:List Int)(v29:Int)(v30:List ByteArray){o:f30r1n2O},f30r1n2 f bf2 v29 v30=some o→TL Tryd.prog Tryd.f30.ntmps 3 f (cL (cL (Qj 1 (cL (Qj 0 c30))))) (f30r1n2S bf2 v29 v30) (·=f30r1n2E bf2 o)
 | 0,_,_,_,o,h=>by rw [f30r1n2] at h; cases h
 | f+1,bf2,v29,v30,o,h=>by
  rw [f30r1n2] at h;refine TL.body (K:=fun s=>∃v29:Int,∃v30:List ByteArray,s=(f30r1n2S bf2 v29 v30)∧f30r1n2 f bf2 v29 v30=some o) ?_ (by rintro _ ⟨v29,v30,rfl,hk⟩; exact f30r1n2_ok f _ _ _ hk);rcases Qf h with ⟨h32,h⟩|⟨h32,h⟩
  ·obtain ⟨x38,h39,h⟩:=Qb h;obtain ⟨x40,h41,h⟩:=Qb h;obtain ⟨h42,h⟩:=Qr h;exact rE Qe [j3,([],[(0,.at_ (Int.toNat v29)),(1,.idx 0 ((cInt .i64) x38))],[]),([],[jH 2 (jS x40),(4,.fits)],[(4,.row 5 ((v30++[x40]).map cStr))]),j3] [some true] [] [5] [0,2,7,8,9] (.norm,(f30r1n2S bf2 (wr64 (v29+1)) (v30++[x40]))) (ap h32 (ap (Qi h39).1 (ap (lt_map (cInt .i64) (Qi h39).2) (ap (Qu (cInt .i64) (Qi h39).2) (ap (fit_map (te:=ti9) (xs:=v30) (n:=1) (c:=cStr) h42 rfl) (ap (app_cv (xs:=v30) (ys:=[x40]) (c:=cStr)) (ap (ita31_ok x38 h41) an))))))) (Qy.norm ⟨(wr64 (v29+1)),(v30++[x40]),rfl,h⟩)
  ·obtain rfl:=Qc h;exact rK Qe 2 [j3] [some false] [] [3] [0,2] (.exit 0) ((f30r1n2E bf2 (.exit0 v30)).2) (ap h32 an) (Qy.out rfl rfl)
noncomputable def f30r1n2L(bf2:List Int):List Int→Int→(List ByteArray)→Option f30r1n2O
 | [],v29,v30 =>
  some (.exit0 v30)
 | x0::rest,v29,v30 =>
  (ita31 x0).bind fun x40 =>
  req (fit (v30.length+1) 16) <|
  (f30r1n2L bf2 rest (v29+1) (v30++[x40]))
theorem f30r1n2L_eq(bf2:List Int):∀(rest:List Int)(f k:Nat)(v30:List ByteArray),bf2.drop k=rest→bf2.length≤maxLen→rest.length<f→f30r1n2 f bf2 (k:Int) v30=f30r1n2L bf2 rest (k:Int) v30
 | _,0,_,_,_,_,hf=>absurd hf (Nat.not_lt_zero _)
 | [],f+1,k,v30,hd,hm,hf=>by
  have hk:¬((k:Int)<(bf2.length:Int)):=by have:=Qah hd; omega
  rw [f30r1n2,f30r1n2L];simp only [decide_eq_false hk,cond_false]
 | x0::rest,f+1,k,v30,hd,hm,hf=>by
  obtain ⟨hx,hlt,hd'⟩:=Qap hd;have hk:(k:Int)<(bf2.length:Int):=by omega
  have hw:wr64 ((k:Int)+1)=(k:Int)+1:=wr64_of (by omega) (by unfold maxLen at hm; omega);have ih:∀(v30:List ByteArray),f30r1n2 f bf2 ((k:Int)+1) v30=f30r1n2L bf2 rest ((k:Int)+1) v30:=fun v30=>f30r1n2L_eq bf2 rest f (k+1) v30 hd' hm (by simpa using hf);rw [f30r1n2,f30r1n2L];simp only [decide_eq_true hk,cond_true,at_nat,hx,Option.bind_some,hw,ih]
theorem f30r1n2_run(bf2:List Int)(v30:List ByteArray)(hm:bf2.length≤maxLen):f30r1n2 FUEL bf2 0 v30=f30r1n2L bf2 bf2 0 v30:=f30r1n2L_eq bf2 bf2 FUEL 0 v30 List.drop_zero hm (Qcf hm)
inductive f30r1n1O where
 | norm (v47:List ByteArray)
def f30r1n1E(bh1:List ByteArray)(bf2:List Int):f30r1n1O→Ex×Tr×Hp
 | .norm v47=>(.norm,mkS [(0,(.own 3)),(2,(.bp 2 0))],[none,some (.row false 1 (bf2.map (cInt .i64))),some (.box 71 [(.pl .nilp),(.pl (.sl .nil 0 []))]),jR 1 cStr v47])
def f30r1n1S(bh1:List ByteArray)(bf2:List Int):Tr×Hp:=(mkS [(0,(.own 0)),(1,(.own 1)),(2,(.bp 2 0))],[jR 1 cStr bh1,some (.row false 1 (bf2.map (cInt .i64))),some (.box 71 [(.pl .nilp),(.pl (.sl .nil 0 []))])])
noncomputable def f30r1n1(bh1:List ByteArray)(bf2:List Int):Option f30r1n1O :=
 (f30r1n2 FUEL bf2 0 bh1).bind fun o44=>match o44 with
 | .exit0 v46=>some (.norm v46)
theorem f30r1n1_ok(bh1:List ByteArray)(bf2:List Int){o:f30r1n1O}(h:f30r1n1 bh1 bf2=some o):T Tryd.prog Tryd.f30.ntmps 3 (cL (Qj 0 c30)) (f30r1n1S bh1 bf2) (·=f30r1n1E bh1 bf2 o):=by
 unfold f30r1n1 at h;refine rN Qe 1 [([],[],[(1,.val (jI (bf2.length:Int)))])] [] [.mov 0] [3] [0,2,7,8,9] (f30r1n2S bf2 0 bh1) (ap (Qx (xs:=bf2) (c:=(cInt .i64))) an) ?_;obtain ⟨o44,h45,h⟩:=Qb h;cases o44 with
 | exit0 v46 =>
  obtain rfl:=Qc h;exact T.last' (T.bl (i:=0) (by kernel_rfl) (by kernel_rfl) (f30r1n2_ok FUEL bf2 0 bh1 h45)) (tds:=[]) (m:=[3]) (keep:=[0,2]) (st2:=(f30r1n1E bh1 bf2 (.norm v46)).2) (by kernel_rfl) an rfl
inductive f30r1n0O where
 | norm (v61:ByteArray)
def f30r1n0E(a1:List ByteArray)(a2:List Int):f30r1n0O→Ex×Tr×Hp
 | .norm v61=>(.norm,mkS [],[none,some (.row false 1 (a2.map (cInt .i64))),some (.box 71 [(.bp 2 0),(.own 3)]),some (.brow 5 v61)])
def f30r1n0S(a1:List ByteArray)(a2:List Int):Tr×Hp:=(Qbd [(.own 0),(.own 1),(.bp 2 0)] 0 .leaf,[jR 1 cStr a1,some (.row false 1 (a2.map (cInt .i64))),some (.box 71 [(.pl .nilp),(.pl (.sl .nil 0 []))])])
noncomputable def f30r1n0(a1:List ByteArray)(a2:List Int):Option f30r1n0O :=
 (f30r1n1 a1 a2).bind fun o48=>match o48 with
 | .norm v50=>(f33 v50 Ql).bind fun x56 =>
  req (decide (x56.size+Qbh.size≤9223372036854775807)) <|
  (wn32 (scat x56 Qbh)).bind fun x59 =>
  some (.norm x59)
theorem f30r1n0_ok(a1:List ByteArray)(a2:List Int){o:f30r1n0O}(h:f30r1n0 a1 a2=some o):T Tryd.prog Tryd.f30.ntmps 3 c30 (f30r1n0S a1 a2) (·=f30r1n0E a1 a2 o):=by
 unfold f30r1n0 at h;refine rN Qe 0 [] [] [] [] [0,1,2] (f30r1n1S a1 a2) an ?_;obtain ⟨o48,h49,h⟩:=Qb h;cases o48 with
 | norm v50 =>
  refine T.oneN (by kernel_rfl) (f30r1n1_ok a1 a2 h49) (st2:=(f30r1n1E a1 a2 (.norm v50)).2) rfl ?_;obtain ⟨x56,h57,h⟩:=Qb h;obtain ⟨h58,h⟩:=Qr h;obtain ⟨x59,h60,h⟩:=Qb h;obtain rfl:=Qc h;exact rE Qe [([],[jH 1 (jS x56),(2,.fits),(3,.call (.tup [(jI (((scat x56 Qbh).size:Nat):Int)),(.pl .nili)]) [none,none,some (.box 71 [(.bp 2 0),(.own 4)]),none,some (.brow 5 x59)])],[])] [] [] [4] [] (.norm,(f30r1n0E a1 a2 (.norm x59)).2) (ap (of_decide_eq_true h58) (ap (f33_ok v50 Ql h57) (ap (Qs.rn 4 [2] (wn32_ok (scat x56 Qbh) h60)) an))) rfl
noncomputable def f30r1(a1:List ByteArray)(a2:List Int):Option ByteArray:=(f30r1n0 a1 a2).bind fun o=>match o with
 | .norm v61=>some v61
theorem f30r1_ok(a1:List ByteArray)(a2:List Int){r:ByteArray}(h:f30r1 a1 a2=some r):Qs Tryd.prog true 30 [(.own 0),(.own 1),(.bp 2 0)] [jR 1 cStr a1,some (.row false 1 (a2.map (cInt .i64))),some (.box 71 [(.pl .nilp),(.pl (.sl .nil 0 []))])] (.tup []) [none,some (.row false 1 (a2.map (cInt .i64))),some (.box 71 [(.bp 2 0),(.own 3)]),some (.brow 5 r)]:=by
 unfold f30r1 at h;obtain ⟨o,ho,h⟩:=Qb h;cases o with
 | norm v61 =>
  obtain rfl:=Qc h;exact Qs.shared Qe (f:=Tryd.f30) (c:=c30) (by kernel_rfl) (by kernel_rfl) (by kernel_rfl) ((f30r1n0_ok a1 a2 ho).mono fun r e=>by subst e; exact ⟨.inr rfl,by kernel_rfl,by kernel_rfl⟩)
end Go.Proofs.YtfeklaffeigilaaDoor
