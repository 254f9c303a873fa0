/- The types' sizes and zero values, as the program's tables tell them. -/
import Derived.Test.YtpdjahejcdmopaaDoorProg
import Derived.KernelRfl
namespace Go.Proofs.YtpdjahejcdmopaaDoor
theorem sz2 : (Tryd.prog.info? 2).map (·.size) = some 1 := by kernel_rfl
theorem sz3 : (Tryd.prog.info? 3).map (·.size) = some 1 := by kernel_rfl
theorem sz4 : (Tryd.prog.info? 4).map (·.size) = some 1 := by kernel_rfl
theorem sz5 : (Tryd.prog.info? 5).map (·.size) = some 1 := by kernel_rfl
theorem sz6 : (Tryd.prog.info? 6).map (·.size) = some 1 := by kernel_rfl
theorem sz7 : (Tryd.prog.info? 7).map (·.size) = some 4 := by kernel_rfl
theorem sz8 : (Tryd.prog.info? 8).map (·.size) = some 4 := by kernel_rfl
theorem sz9 : (Tryd.prog.info? 9).map (·.size) = some 1 := by kernel_rfl
theorem sz10 : (Tryd.prog.info? 10).map (·.size) = some 1 := by kernel_rfl
theorem sz11 : (Tryd.prog.info? 11).map (·.size) = some 1 := by kernel_rfl
theorem sz12 : (Tryd.prog.info? 12).map (·.size) = some 1 := by kernel_rfl
theorem sz13 : (Tryd.prog.info? 13).map (·.size) = some 2 := by kernel_rfl
theorem sz14 : (Tryd.prog.info? 14).map (·.size) = some 2 := by kernel_rfl
theorem sz15 : (Tryd.prog.info? 15).map (·.size) = some 1 := by kernel_rfl
theorem sz16 : (Tryd.prog.info? 16).map (·.size) = some 1 := by kernel_rfl
theorem sz17 : (Tryd.prog.info? 17).map (·.size) = some 1 := by kernel_rfl
theorem sz18 : (Tryd.prog.info? 18).map (·.size) = some 1 := by kernel_rfl
theorem sz19 : (Tryd.prog.info? 19).map (·.size) = some 1 := by kernel_rfl
theorem sz20 : (Tryd.prog.info? 20).map (·.size) = some 1 := by kernel_rfl
theorem sz21 : (Tryd.prog.info? 21).map (·.size) = some 1 := by kernel_rfl
theorem sz22 : (Tryd.prog.info? 22).map (·.size) = some 1 := by kernel_rfl
theorem sz23 : (Tryd.prog.info? 23).map (·.size) = some 1 := by kernel_rfl
theorem sz24 : (Tryd.prog.info? 24).map (·.size) = some 3 := by kernel_rfl
theorem sz25 : (Tryd.prog.info? 25).map (·.size) = some 3 := by kernel_rfl
theorem sz26 : (Tryd.prog.info? 26).map (·.size) = some 1 := by kernel_rfl
theorem sz27 : (Tryd.prog.info? 27).map (·.size) = some 1 := by kernel_rfl
theorem sz28 : (Tryd.prog.info? 28).map (·.size) = some 4 := by kernel_rfl
theorem sz29 : (Tryd.prog.info? 29).map (·.size) = some 4 := by kernel_rfl
theorem sz30 : (Tryd.prog.info? 30).map (·.size) = some 1 := by kernel_rfl
theorem sz31 : (Tryd.prog.info? 31).map (·.size) = some 3 := by kernel_rfl
theorem sz32 : (Tryd.prog.info? 32).map (·.size) = some 3 := by kernel_rfl
theorem sz35 : (Tryd.prog.info? 35).map (·.size) = some 1 := by kernel_rfl
theorem sz41 : (Tryd.prog.info? 41).map (·.size) = some 4 := by kernel_rfl
theorem sz42 : (Tryd.prog.info? 42).map (·.size) = some 4 := by kernel_rfl
theorem sz49 : (Tryd.prog.info? 49).map (·.size) = some 4 := by kernel_rfl
theorem sz58 : (Tryd.prog.info? 58).map (·.size) = some 1 := by kernel_rfl
theorem sz59 : (Tryd.prog.info? 59).map (·.size) = some 1 := by kernel_rfl
theorem sz60 : (Tryd.prog.info? 60).map (·.size) = some 64 := by kernel_rfl
theorem sz69 : (Tryd.prog.info? 69).map (·.size) = some 1 := by kernel_rfl
theorem sz76 : (Tryd.prog.info? 76).map (·.size) = some 1 := by kernel_rfl
theorem sz82 : (Tryd.prog.info? 82).map (·.size) = some 1 := by kernel_rfl
theorem sz83 : (Tryd.prog.info? 83).map (·.size) = some 1 := by kernel_rfl
theorem sz84 : (Tryd.prog.info? 84).map (·.size) = some 2 := by kernel_rfl
theorem sz85 : (Tryd.prog.info? 85).map (·.size) = some 2 := by kernel_rfl
theorem sz91 : (Tryd.prog.info? 91).map (·.size) = some 1 := by kernel_rfl
theorem sz92 : (Tryd.prog.info? 92).map (·.size) = some 3 := by kernel_rfl
theorem sz93 : (Tryd.prog.info? 93).map (·.size) = some 3 := by kernel_rfl
theorem sz95 : (Tryd.prog.info? 95).map (·.size) = some 1 := by kernel_rfl
theorem sz96 : (Tryd.prog.info? 96).map (·.size) = some 1 := by kernel_rfl
theorem sz98 : (Tryd.prog.info? 98).map (·.size) = some 1 := by kernel_rfl
theorem sz102 : (Tryd.prog.info? 102).map (·.size) = some 1 := by kernel_rfl
theorem sz104 : (Tryd.prog.info? 104).map (·.size) = some 1 := by kernel_rfl
theorem sz105 : (Tryd.prog.info? 105).map (·.size) = some 1 := by kernel_rfl
theorem sz106 : (Tryd.prog.info? 106).map (·.size) = some 1 := by kernel_rfl
theorem sz110 : (Tryd.prog.info? 110).map (·.size) = some 1 := by kernel_rfl
theorem sz113 : (Tryd.prog.info? 113).map (·.size) = some 1 := by kernel_rfl
theorem sz115 : (Tryd.prog.info? 115).map (·.size) = some 1 := by kernel_rfl
theorem sz116 : (Tryd.prog.info? 116).map (·.size) = some 1 := by kernel_rfl
theorem sz119 : (Tryd.prog.info? 119).map (·.size) = some 4 := by kernel_rfl
theorem sz120 : (Tryd.prog.info? 120).map (·.size) = some 4 := by kernel_rfl
theorem sz121 : (Tryd.prog.info? 121).map (·.size) = some 0 := by kernel_rfl
theorem sz122 : (Tryd.prog.info? 122).map (·.size) = some 0 := by kernel_rfl
theorem sz123 : (Tryd.prog.info? 123).map (·.size) = some 0 := by kernel_rfl
theorem sz126 : (Tryd.prog.info? 126).map (·.size) = some 1 := by kernel_rfl
theorem sz128 : (Tryd.prog.info? 128).map (·.size) = some 1 := by kernel_rfl
theorem sz129 : (Tryd.prog.info? 129).map (·.size) = some 1 := by kernel_rfl
theorem sz130 : (Tryd.prog.info? 130).map (·.size) = some 1 := by kernel_rfl
theorem sz135 : (Tryd.prog.info? 135).map (·.size) = some 2 := by kernel_rfl
theorem sz136 : (Tryd.prog.info? 136).map (·.size) = some 2 := by kernel_rfl
theorem sz137 : (Tryd.prog.info? 137).map (·.size) = some 1 := by kernel_rfl
theorem sz139 : (Tryd.prog.info? 139).map (·.size) = some 1 := by kernel_rfl
theorem sz140 : (Tryd.prog.info? 140).map (·.size) = some 5 := by kernel_rfl
theorem sz141 : (Tryd.prog.info? 141).map (·.size) = some 5 := by kernel_rfl
theorem sz142 : (Tryd.prog.info? 142).map (·.size) = some 1 := by kernel_rfl
theorem sz143 : (Tryd.prog.info? 143).map (·.size) = some 1 := by kernel_rfl
theorem sz144 : (Tryd.prog.info? 144).map (·.size) = some 4 := by kernel_rfl
theorem sz145 : (Tryd.prog.info? 145).map (·.size) = some 4 := by kernel_rfl
theorem sz146 : (Tryd.prog.info? 146).map (·.size) = some 1 := by kernel_rfl
theorem zv2 : (Tryd.prog.info? 2).bind (fun i => i.zero.map fun z => z.cells) = some ([.int .i64 0] : List Value).toArray := by kernel_rfl
theorem zv3 : (Tryd.prog.info? 3).bind (fun i => i.zero.map fun z => z.cells) = some ([.int .i64 0] : List Value).toArray := by kernel_rfl
theorem zv4 : (Tryd.prog.info? 4).bind (fun i => i.zero.map fun z => z.cells) = some ([.bool false] : List Value).toArray := by kernel_rfl
theorem zv5 : (Tryd.prog.info? 5).bind (fun i => i.zero.map fun z => z.cells) = some ([.int .u8 0] : List Value).toArray := by kernel_rfl
theorem zv6 : (Tryd.prog.info? 6).bind (fun i => i.zero.map fun z => z.cells) = some ([.int .u8 0] : List Value).toArray := by kernel_rfl
theorem zv7 : (Tryd.prog.info? 7).bind (fun i => i.zero.map fun z => z.cells) = some ([.int .i64 0, .int .i64 0, .bool false, .int .u8 0] : List Value).toArray := by kernel_rfl
theorem zv8 : (Tryd.prog.info? 8).bind (fun i => i.zero.map fun z => z.cells) = some ([.int .i64 0, .int .i64 0, .bool false, .int .u8 0] : List Value).toArray := by kernel_rfl
theorem zv9 : (Tryd.prog.info? 9).bind (fun i => i.zero.map fun z => z.cells) = some ([.string ⟨#[]⟩] : List Value).toArray := by kernel_rfl
theorem zv10 : (Tryd.prog.info? 10).bind (fun i => i.zero.map fun z => z.cells) = some ([.string ⟨#[]⟩] : List Value).toArray := by kernel_rfl
theorem zv11 : (Tryd.prog.info? 11).bind (fun i => i.zero.map fun z => z.cells) = some ([.string ⟨#[]⟩] : List Value).toArray := by kernel_rfl
theorem zv12 : (Tryd.prog.info? 12).bind (fun i => i.zero.map fun z => z.cells) = some ([.int .u64 0] : List Value).toArray := by kernel_rfl
theorem zv13 : (Tryd.prog.info? 13).bind (fun i => i.zero.map fun z => z.cells) = some ([.string ⟨#[]⟩, .int .u64 0] : List Value).toArray := by kernel_rfl
theorem zv14 : (Tryd.prog.info? 14).bind (fun i => i.zero.map fun z => z.cells) = some ([.string ⟨#[]⟩, .int .u64 0] : List Value).toArray := by kernel_rfl
theorem zv15 : (Tryd.prog.info? 15).bind (fun i => i.zero.map fun z => z.cells) = some ([.pointer none] : List Value).toArray := by kernel_rfl
theorem zv16 : (Tryd.prog.info? 16).bind (fun i => i.zero.map fun z => z.cells) = some ([.pointer none] : List Value).toArray := by kernel_rfl
theorem zv17 : (Tryd.prog.info? 17).bind (fun i => i.zero.map fun z => z.cells) = some ([.pointer none] : List Value).toArray := by kernel_rfl
theorem zv18 : (Tryd.prog.info? 18).bind (fun i => i.zero.map fun z => z.cells) = some ([.pointer none] : List Value).toArray := by kernel_rfl
theorem zv19 : (Tryd.prog.info? 19).bind (fun i => i.zero.map fun z => z.cells) = some ([.pointer none] : List Value).toArray := by kernel_rfl
theorem zv20 : (Tryd.prog.info? 20).bind (fun i => i.zero.map fun z => z.cells) = some ([.nilIface] : List Value).toArray := by kernel_rfl
theorem zv21 : (Tryd.prog.info? 21).bind (fun i => i.zero.map fun z => z.cells) = some ([.int .i32 0] : List Value).toArray := by kernel_rfl
theorem zv22 : (Tryd.prog.info? 22).bind (fun i => i.zero.map fun z => z.cells) = some ([.slice none 0 0] : List Value).toArray := by kernel_rfl
theorem zv23 : (Tryd.prog.info? 23).bind (fun i => i.zero.map fun z => z.cells) = some ([.int .u32 0] : List Value).toArray := by kernel_rfl
theorem zv24 : (Tryd.prog.info? 24).bind (fun i => i.zero.map fun z => z.cells) = some ([.slice none 0 0, .int .u32 0, .int .i64 0] : List Value).toArray := by kernel_rfl
theorem zv25 : (Tryd.prog.info? 25).bind (fun i => i.zero.map fun z => z.cells) = some ([.slice none 0 0, .int .u32 0, .int .i64 0] : List Value).toArray := by kernel_rfl
theorem zv26 : (Tryd.prog.info? 26).bind (fun i => i.zero.map fun z => z.cells) = some ([.slice none 0 0] : List Value).toArray := by kernel_rfl
theorem zv27 : (Tryd.prog.info? 27).bind (fun i => i.zero.map fun z => z.cells) = some ([.int .u64 0] : List Value).toArray := by kernel_rfl
theorem zv28 : (Tryd.prog.info? 28).bind (fun i => i.zero.map fun z => z.cells) = some ([.slice none 0 0, .int .i64 0, .int .u32 0, .int .u64 0] : List Value).toArray := by kernel_rfl
theorem zv29 : (Tryd.prog.info? 29).bind (fun i => i.zero.map fun z => z.cells) = some ([.slice none 0 0, .int .i64 0, .int .u32 0, .int .u64 0] : List Value).toArray := by kernel_rfl
theorem zv30 : (Tryd.prog.info? 30).bind (fun i => i.zero.map fun z => z.cells) = some ([.slice none 0 0] : List Value).toArray := by kernel_rfl
theorem zv31 : (Tryd.prog.info? 31).bind (fun i => i.zero.map fun z => z.cells) = some ([.slice none 0 0, .int .u32 0, .int .i64 0] : List Value).toArray := by kernel_rfl
theorem zv32 : (Tryd.prog.info? 32).bind (fun i => i.zero.map fun z => z.cells) = some ([.slice none 0 0, .int .u32 0, .int .i64 0] : List Value).toArray := by kernel_rfl
theorem zv35 : (Tryd.prog.info? 35).bind (fun i => i.zero.map fun z => z.cells) = some ([.nilIface] : List Value).toArray := by kernel_rfl
theorem zv41 : (Tryd.prog.info? 41).bind (fun i => i.zero.map fun z => z.cells) = some ([.int .u32 0, .slice none 0 0, .int .u64 0, .int .i64 0] : List Value).toArray := by kernel_rfl
theorem zv42 : (Tryd.prog.info? 42).bind (fun i => i.zero.map fun z => z.cells) = some ([.int .u32 0, .slice none 0 0, .int .u64 0, .int .i64 0] : List Value).toArray := by kernel_rfl
theorem zv49 : (Tryd.prog.info? 49).bind (fun i => i.zero.map fun z => z.cells) = some ([.int .u32 0, .slice none 0 0, .int .u64 0, .int .i64 0] : List Value).toArray := by kernel_rfl
theorem zv58 : (Tryd.prog.info? 58).bind (fun i => i.zero.map fun z => z.cells) = some ([.slice none 0 0] : List Value).toArray := by kernel_rfl
theorem zv59 : (Tryd.prog.info? 59).bind (fun i => i.zero.map fun z => z.cells) = some ([.slice none 0 0] : List Value).toArray := by kernel_rfl
theorem zv60 : (Tryd.prog.info? 60).bind (fun i => i.zero.map fun z => z.cells) = some ([.int .i64 0, .int .i64 0, .int .i64 0, .int .i64 0, .int .i64 0, .int .i64 0, .int .i64 0, .int .i64 0, .int .i64 0, .int .i64 0, .int .i64 0, .int .i64 0, .int .i64 0, .int .i64 0, .int .i64 0, .int .i64 0, .int .i64 0, .int .i64 0, .int .i64 0, .int .i64 0, .int .i64 0, .int .i64 0, .int .i64 0, .int .i64 0, .int .i64 0, .int .i64 0, .int .i64 0, .int .i64 0, .int .i64 0, .int .i64 0, .int .i64 0, .int .i64 0, .int .i64 0, .int .i64 0, .int .i64 0, .int .i64 0, .int .i64 0, .int .i64 0, .int .i64 0, .int .i64 0, .int .i64 0, .int .i64 0, .int .i64 0, .int .i64 0, .int .i64 0, .int .i64 0, .int .i64 0, .int .i64 0, .int .i64 0, .int .i64 0, .int .i64 0, .int .i64 0, .int .i64 0, .int .i64 0, .int .i64 0, .int .i64 0, .int .i64 0, .int .i64 0, .int .i64 0, .int .i64 0, .int .i64 0, .int .i64 0, .int .i64 0, .int .i64 0] : List Value).toArray := by kernel_rfl
theorem zv69 : (Tryd.prog.info? 69).bind (fun i => i.zero.map fun z => z.cells) = some ([.int .i64 0] : List Value).toArray := by kernel_rfl
theorem zv76 : (Tryd.prog.info? 76).bind (fun i => i.zero.map fun z => z.cells) = some ([.pointer none] : List Value).toArray := by kernel_rfl
theorem zv82 : (Tryd.prog.info? 82).bind (fun i => i.zero.map fun z => z.cells) = some ([.int .u64 0] : List Value).toArray := by kernel_rfl
theorem zv83 : (Tryd.prog.info? 83).bind (fun i => i.zero.map fun z => z.cells) = some ([.pointer none] : List Value).toArray := by kernel_rfl
theorem zv84 : (Tryd.prog.info? 84).bind (fun i => i.zero.map fun z => z.cells) = some ([.slice none 0 0, .bool false] : List Value).toArray := by kernel_rfl
theorem zv85 : (Tryd.prog.info? 85).bind (fun i => i.zero.map fun z => z.cells) = some ([.slice none 0 0, .bool false] : List Value).toArray := by kernel_rfl
theorem zv91 : (Tryd.prog.info? 91).bind (fun i => i.zero.map fun z => z.cells) = some ([.int .u64 0] : List Value).toArray := by kernel_rfl
theorem zv92 : (Tryd.prog.info? 92).bind (fun i => i.zero.map fun z => z.cells) = some ([.pointer none, .pointer none, .int .u64 0] : List Value).toArray := by kernel_rfl
theorem zv93 : (Tryd.prog.info? 93).bind (fun i => i.zero.map fun z => z.cells) = some ([.pointer none, .pointer none, .int .u64 0] : List Value).toArray := by kernel_rfl
theorem zv95 : (Tryd.prog.info? 95).bind (fun i => i.zero.map fun z => z.cells) = some ([.nilIface] : List Value).toArray := by kernel_rfl
theorem zv96 : (Tryd.prog.info? 96).bind (fun i => i.zero.map fun z => z.cells) = some ([.nilIface] : List Value).toArray := by kernel_rfl
theorem zv98 : (Tryd.prog.info? 98).bind (fun i => i.zero.map fun z => z.cells) = some ([.int .u8 0] : List Value).toArray := by kernel_rfl
theorem zv102 : (Tryd.prog.info? 102).bind (fun i => i.zero.map fun z => z.cells) = some ([.slice none 0 0] : List Value).toArray := by kernel_rfl
theorem zv104 : (Tryd.prog.info? 104).bind (fun i => i.zero.map fun z => z.cells) = some ([.pointer none] : List Value).toArray := by kernel_rfl
theorem zv105 : (Tryd.prog.info? 105).bind (fun i => i.zero.map fun z => z.cells) = some ([.pointer none] : List Value).toArray := by kernel_rfl
theorem zv106 : (Tryd.prog.info? 106).bind (fun i => i.zero.map fun z => z.cells) = some ([.pointer none] : List Value).toArray := by kernel_rfl
theorem zv110 : (Tryd.prog.info? 110).bind (fun i => i.zero.map fun z => z.cells) = some ([.nilIface] : List Value).toArray := by kernel_rfl
theorem zv113 : (Tryd.prog.info? 113).bind (fun i => i.zero.map fun z => z.cells) = some ([.nilIface] : List Value).toArray := by kernel_rfl
theorem zv115 : (Tryd.prog.info? 115).bind (fun i => i.zero.map fun z => z.cells) = some ([.nilIface] : List Value).toArray := by kernel_rfl
theorem zv116 : (Tryd.prog.info? 116).bind (fun i => i.zero.map fun z => z.cells) = some ([.slice none 0 0] : List Value).toArray := by kernel_rfl
theorem zv119 : (Tryd.prog.info? 119).bind (fun i => i.zero.map fun z => z.cells) = some ([.pointer none, .pointer none, .pointer none, .string ⟨#[]⟩] : List Value).toArray := by kernel_rfl
theorem zv120 : (Tryd.prog.info? 120).bind (fun i => i.zero.map fun z => z.cells) = some ([.pointer none, .pointer none, .pointer none, .string ⟨#[]⟩] : List Value).toArray := by kernel_rfl
theorem zv121 : (Tryd.prog.info? 121).bind (fun i => i.zero.map fun z => z.cells) = some ([] : List Value).toArray := by kernel_rfl
theorem zv122 : (Tryd.prog.info? 122).bind (fun i => i.zero.map fun z => z.cells) = some ([] : List Value).toArray := by kernel_rfl
theorem zv123 : (Tryd.prog.info? 123).bind (fun i => i.zero.map fun z => z.cells) = some ([] : List Value).toArray := by kernel_rfl
theorem zv126 : (Tryd.prog.info? 126).bind (fun i => i.zero.map fun z => z.cells) = some ([.int .u8 0] : List Value).toArray := by kernel_rfl
theorem zv128 : (Tryd.prog.info? 128).bind (fun i => i.zero.map fun z => z.cells) = some ([.pointer none] : List Value).toArray := by kernel_rfl
theorem zv129 : (Tryd.prog.info? 129).bind (fun i => i.zero.map fun z => z.cells) = some ([.int .i32 0] : List Value).toArray := by kernel_rfl
theorem zv130 : (Tryd.prog.info? 130).bind (fun i => i.zero.map fun z => z.cells) = some ([.int .i32 0] : List Value).toArray := by kernel_rfl
theorem zv135 : (Tryd.prog.info? 135).bind (fun i => i.zero.map fun z => z.cells) = some ([.string ⟨#[]⟩, .int .u8 0] : List Value).toArray := by kernel_rfl
theorem zv136 : (Tryd.prog.info? 136).bind (fun i => i.zero.map fun z => z.cells) = some ([.string ⟨#[]⟩, .int .u8 0] : List Value).toArray := by kernel_rfl
theorem zv137 : (Tryd.prog.info? 137).bind (fun i => i.zero.map fun z => z.cells) = some ([.pointer none] : List Value).toArray := by kernel_rfl
theorem zv139 : (Tryd.prog.info? 139).bind (fun i => i.zero.map fun z => z.cells) = some ([.int .u16 0] : List Value).toArray := by kernel_rfl
theorem zv140 : (Tryd.prog.info? 140).bind (fun i => i.zero.map fun z => z.cells) = some ([.int .i32 0, .int .u16 0, .int .u16 0, .int .u32 0, .int .u32 0] : List Value).toArray := by kernel_rfl
theorem zv141 : (Tryd.prog.info? 141).bind (fun i => i.zero.map fun z => z.cells) = some ([.int .i32 0, .int .u16 0, .int .u16 0, .int .u32 0, .int .u32 0] : List Value).toArray := by kernel_rfl
theorem zv142 : (Tryd.prog.info? 142).bind (fun i => i.zero.map fun z => z.cells) = some ([.slice none 0 0] : List Value).toArray := by kernel_rfl
theorem zv143 : (Tryd.prog.info? 143).bind (fun i => i.zero.map fun z => z.cells) = some ([.int .i32 0] : List Value).toArray := by kernel_rfl
theorem zv144 : (Tryd.prog.info? 144).bind (fun i => i.zero.map fun z => z.cells) = some ([.int .i32 0, .int .i32 0, .int .i32 0, .int .i32 0] : List Value).toArray := by kernel_rfl
theorem zv145 : (Tryd.prog.info? 145).bind (fun i => i.zero.map fun z => z.cells) = some ([.int .i32 0, .int .i32 0, .int .i32 0, .int .i32 0] : List Value).toArray := by kernel_rfl
theorem zv146 : (Tryd.prog.info? 146).bind (fun i => i.zero.map fun z => z.cells) = some ([.pointer none] : List Value).toArray := by kernel_rfl
end Go.Proofs.YtpdjahejcdmopaaDoor
